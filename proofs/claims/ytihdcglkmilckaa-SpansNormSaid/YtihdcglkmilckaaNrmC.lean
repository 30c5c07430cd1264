/- A list's values as an iterator, and collected. -/
import Derived.RangeFuncNested
import Derived.RangeFuncBound
import Derived.RangeFuncBox
import Derived.RangeFuncCalls
import Derived.RangeFuncLeaves
import Derived.RangeFuncFrom
import Derived.Maps.AppendAt
import Derived.Shelf.Abstract
import Derived.Shelf.RegionOpen
import Derived.WalkKit
import Derived.OwnWalkIn
import Derived.TacticsInMore
import Derived.LoopNIn
import Derived.LoopIn
import Derived.Test.YtihdcglkmilckaaSpnX
namespace Go.Proofs.Ytihdcglkmilckaa
open Go.RowKit Go.Shelf

attribute [local go_sem] Oper.semAt_some

set_option maxHeartbeats 1000000 in
theorem values_in (n : Nat) (a : Option Addr) (len cap : Nat) (w : World) :
    CallsIn Fence.wide n Try.prog 41 #[.slice a len cap] w fun e w' => e = .returned (.func (.func 50) #[] #[.pointer (some ⟨w.heap.size, 0, none⟩)]) ∧ w' = w.alloc (.cells #[.slice a len cap] 22) := by
  refine callsIn_of_wp Try.func41 rfl trivial ?_ rfl
  simp only [Try.ntmps41, List.size_toArray, List.length_cons, List.length_nil, Nat.reduceAdd, Nat.reduceSub, Array.replicate_succ, Array.replicate_zero, List.push_toArray, List.append_toArray, List.nil_append, List.cons_append]
  gi_wp2
  go_ret
  exact ⟨rfl, rfl⟩

set_option maxRecDepth 100000 in
set_option maxHeartbeats 4000000 in
theorem values1_in (n : Nat) (hn : 3 ≤ n) (l Bs n₀ b off cap : Nat) (L : List Spn.Span) (LL : Nat) (hLL : L.length = LL) (hlen : LL ≤ 10000) (hb : b < n₀) (J Jx : List Spn.Span → World → Prop) (W : World) (hn0 : n₀ ≤ W.heap.size) (hJ : AbidesFrom W.heap.size J)
    (hY : ∀ pre x W, J pre W → pre.length < LL → YieldAt Fence.wide (n - 1) Try.prog l #[.agg #[.int .i64 x.f0, .int .i64 x.f1]] W fun e W' =>
      (e = .returned (.bool true) ∧ J (pre ++ [x]) W' ∧ Below n₀ W W') ∨ (e = .returned (.bool false) ∧ Jx (pre ++ [x]) W'))
    (hBs : W.cell? ⟨Bs, 0, none⟩ = some (.slice (some ⟨b, off, none⟩) LL cap)) (hA : Spn.At W b off L) (h0 : J [] W) :
    CallsIn Fence.wide n Try.prog 50 #[.func (.yield l) #[] #[], .pointer (some ⟨Bs, 0, none⟩)] W fun e W' => (∃ v, e = .returned v) ∧
      ((∃ ys, ys = L ∧ J ys W') ∨ (∃ pre, True ∧ Jx pre W')) := by
  refine callsIn_of_wp Try.func50 rfl trivial ?_ rfl
  simp only [Try.ntmps50, List.size_toArray, List.length_cons, List.length_nil, Nat.reduceAdd, Nat.reduceSub, Array.replicate_succ, Array.replicate_zero, List.push_toArray, List.append_toArray, List.nil_append, List.cons_append]
  gi_wp2
  have HA := Lib.hid hA
  have HK := Lib.hid hLL
  have HJ := Lib.hid hJ
  have HY := Lib.hid hY
  have h1 : 1 ≤ n := by omega
  clear hA hLL hJ hY hBs
  gi_loopw [7] (fun i wr => ∃ k : Nat, k ≤ LL ∧ i = .int .i64 k ∧ J (L.take k) wr ∧ Below n₀ W wr ∧ W.heap.size ≤ wr.heap.size)
    (fun i _ => LL - (intOf i).toNat)
  case atStart => exact ⟨0, Nat.zero_le _, rfl, h0, Below.refl _ _, Nat.le_refl _⟩
  case round =>
    obtain ⟨k, hk, rfl, hJs, hnx, hsz⟩ := hrel
    by_cases hlt : k < LL
    · obtain ⟨s, hs⟩ := Spn.at_lt L k (by have := HK.out; omega)
      obtain ⟨s0, s1⟩ := s
      obtain ⟨e0, e1⟩ := HA.out k _ hs
      have c0 : wr.cell? ⟨b, off + k * 2, none⟩ = some (.int .i64 s0) := (hnx.cell (p := ⟨b, off + k * 2, none⟩) hb).trans e0
      have c1 : wr.cell? ⟨b, off + k * 2 + 1, none⟩ = some (.int .i64 s1) := (hnx.cell (p := ⟨b, off + k * 2 + 1, none⟩) hb).trans e1
      have d7 : (k : Int) < (LL : Int) := by omega
      have d8 : (0 : Int) ≤ (k : Int) := by omega
      have HS := Lib.hid hs
      clear hs e0 e1
      have hpl : (L.take k).length = k := by rw [List.length_take, HK.out]; omega
      have hJ1 : J (L.take k) (wr.alloc (.cells #[.int .i64 s0, .int .i64 s1] 42)) := HJ.out _ _ _ none hJs (World.grownBy_alloc _ _ none) (fun r e => by cases e)
      obtain ⟨fn, tmps, assign, body, hy, hR⟩ := HY.out _ ⟨s0, s1⟩ _ hJ1 (by omega)
      dsimp only at hy
      have HR := Lib.hid hR
      clear hR hJ1 hJs
      gi_wp2
      refine HR.out.mono ?_
      rintro e W3 (⟨rfl, hJ3, hk3⟩ | ⟨rfl, hJx3⟩)
      · have hJ6 : J (L.take (k + 1)) W3 := by
          rw [List.take_add_one, HS.out, Option.toList_some]
          exact hJ3
        have hb6 : Below n₀ W W3 := (hnx.alloc (by omega) (.cells #[.int .i64 s0, .int .i64 s1] 42)).trans hk3
        have hs6 : W.heap.size ≤ W3.heap.size := hb6.size
        have HF := Lib.hid (show k + 1 ≤ LL ∧ J (L.take (k + 1)) W3 ∧ Below n₀ W W3 ∧ W.heap.size ≤ W3.heap.size from ⟨hlt, hJ6, hb6, hs6⟩)
        clear hJ3 hk3 hJ6 hb6 hs6
        gi_wp2
        refine ⟨⟨k + 1, HF.out.1, by push_cast; rfl, HF.out.2⟩, ?_⟩
        simp only [intOf]
        omega
      · gi_wp2
        refine bodyPost_ret (results_none rfl _ _ _) rfl ?_
        exact ⟨⟨_, rfl⟩, .inr ⟨_, trivial, hJx3⟩⟩
    · have hke : k = LL := by omega
      have d7 : ¬ (k : Int) < (LL : Int) := by omega
      gi_wp2
      refine bodyPost_end (results_none rfl _ _ _) rfl ?_
      rw [hke, ← HK.out, List.take_length] at hJs
      exact ⟨⟨_, rfl⟩, .inl hJs⟩

set_option maxRecDepth 100000 in
set_option maxHeartbeats 1000000 in
theorem values1_nil (n : Nat) (l Bs : Nat) (J : World → Prop) (W : World) (A : Option Addr) (cap : Nat) (hBs : W.cell? ⟨Bs, 0, none⟩ = some (.slice A 0 cap)) (h0 : J W) :
    CallsIn Fence.wide n Try.prog 50 #[.func (.yield l) #[] #[], .pointer (some ⟨Bs, 0, none⟩)] W fun e W' => (∃ v, e = .returned v) ∧ J W' := by
  refine callsIn_of_wp Try.func50 rfl trivial ?_ rfl
  simp only [Try.ntmps50, List.size_toArray, List.length_cons, List.length_nil, Nat.reduceAdd, Nat.reduceSub, Array.replicate_succ, Array.replicate_zero, List.push_toArray, List.append_toArray, List.nil_append, List.cons_append]
  gi_wp2
  gi_loopw [7] (fun i wr => i = .int .i64 0 ∧ J wr)
    (fun i _ => 0)
  case atStart => exact ⟨rfl, h0⟩
  case round =>
    obtain ⟨rfl, hJs⟩ := hrel
    gi_wp2
    refine bodyPost_end (results_none rfl _ _ _) rfl ?_
    exact ⟨⟨_, rfl⟩, hJs⟩

/-- a list of spans in a block below n₀ -/
def Spn.Low (w : World) (n₀ : Nat) (A : Option Addr) (L : List Spn.Span) : Prop := L.length ≤ 10000 ∧ (L ≠ [] → ∃ b off, A = some ⟨b, off, none⟩ ∧ b < n₀ ∧ Spn.At w b off L)
theorem values_stops (n : Nat) (hn : 3 ≤ n) (Bs n₀ cap : Nat) (A : Option Addr) (L : List Spn.Span) (w : World) (hBs : w.heap[Bs]? = some (.cells #[.slice A L.length cap] 22 (0, 0))) (hL : Spn.Low w n₀ A L) (hn0 : n₀ ≤ w.heap.size) :
    SeqStopsK Fence.wide n Try.prog 50 #[.pointer (some ⟨Bs, 0, none⟩)] (fun x : Spn.Span => #[.agg #[.int .i64 x.f0, .int .i64 x.f1]]) (Below n₀) (fun xs => xs = L) (fun _ => True) L.length w := by
  intro l J Jx W hW hJ _ hY h0
  have hc : W.cell? ⟨Bs, 0, none⟩ = some (.slice A L.length cap) := (cell_of_row _ _ 0 _ _ _ ((hW.block Bs (Array.getElem?_eq_some_iff.1 hBs).1).trans hBs)).trans rfl
  by_cases he : L = []
  · subst he
    exact (values1_nil n l Bs (fun W => J [] W) W A cap hc h0).mono fun e w' h => ⟨h.1, .inl ⟨[], rfl, h.2⟩⟩
  · obtain ⟨b, off, rfl, hb, hat⟩ := hL.2 he
    have hW2 := hW.mono hn0
    exact values1_in n hn l Bs n₀ b off cap L L.length rfl hL.1 hb J Jx W (Nat.le_trans hn0 hW.size) hJ hY hc
      (fun i s hi => ⟨(hW2.cell (p := ⟨b, off + i * 2, none⟩) hb).trans (hat i s hi).1, (hW2.cell (p := ⟨b, off + i * 2 + 1, none⟩) hb).trans (hat i s hi).2⟩) h0
end Go.Proofs.Ytihdcglkmilckaa
