/- The iterator over a list's edges. -/
import Derived.RangeFuncNested
import Derived.RangeFuncBound
import Derived.RangeFuncCalls
import Derived.RangeFuncLeaves
import Derived.Shelf.Abstract
import Derived.Shelf.RegionOpen
import Derived.WalkKit
import Derived.OwnWalkIn
import Derived.TacticsInMore
import Derived.LoopNIn
import Derived.LoopIn
import Derived.Test.YtihdcglkmilckaaWlkB
namespace Go.Proofs.Ytihdcglkmilckaa
open Go.RowKit Go.Shelf

attribute [local go_sem] Oper.semAt_some

namespace Wlk
open Spn
def edgesOf (l : List Span) : List Edge := l.flatMap fun s => [(s.f0, true), (fin s, false)]
theorem edgesOf_snoc (l : List Span) (s : Span) : edgesOf (l ++ [s]) = edgesOf l ++ [(s.f0, true)] ++ [(fin s, false)] := by unfold edgesOf; rw [List.flatMap_append]; simp
theorem edgesOf_length (l : List Span) : (edgesOf l).length = 2 * l.length := by
  induction l with
  | nil => rfl
  | cons s l ih =>
    have : edgesOf (s :: l) = (s.f0, true) :: (fin s, false) :: edgesOf l := rfl
    rw [this]; simp only [List.length_cons, ih]; omega
/-- what a round keeps: what lay below n₀, and the cells from n₁ on but the row that box Bx holds -/
def KpBox (n₀ n₁ Bx T : Nat) (W W' : World) : Prop := Below n₀ W W' ∧ ∀ v, W.heap[Bx]? = some (.cells #[v] T (0, 0)) → (∀ k, v.ownBlock = some k → k < W.heap.size) →
  ∃ v', W'.heap[Bx]? = some (.cells #[v'] T (0, 0)) ∧ (v'.ownBlock = v.ownBlock ∨ ∃ b, v'.ownBlock = some b ∧ W.heap.size ≤ b) ∧ (∀ k, v'.ownBlock = some k → k < W'.heap.size) ∧
    (∀ k c t fr, n₁ ≤ k → W.heap[k]? = some (.cells c t fr) → v.ownBlock ≠ some k → W'.heap[k]? = some (.cells c t fr))
theorem kp_t {n₀ n₁ Bx T : Nat} {A B C : World} (h : KpBox n₀ n₁ Bx T A B) (k : KpBox n₀ n₁ Bx T B C) : KpBox n₀ n₁ Bx T A C := by
  refine ⟨h.1.trans k.1, fun v hv hlt => ?_⟩
  obtain ⟨v1, a1, a2, a3, a4⟩ := h.2 v hv hlt
  obtain ⟨v2, b1, b2, b3, b4⟩ := k.2 v1 a1 a3
  have hs := h.1.size
  refine ⟨v2, b1, ?_, b3, fun i c t fr hi hc hn => ?_⟩
  · rcases b2 with e | ⟨b, e, hb⟩
    · rw [e]; exact a2
    · exact .inr ⟨b, e, by omega⟩
  · refine b4 i c t fr hi (a4 i c t fr hi hc hn) (fun e => ?_)
    rcases a2 with e2 | ⟨b, e2, hb⟩
    · exact hn (e2 ▸ e)
    · rw [e] at e2
      obtain rfl : i = b := by simpa using e2
      have := (Array.getElem?_eq_some_iff.1 hc).1
      omega
theorem kp_b {n₀ n₁ Bx T : Nat} {w : World} (hn : n₀ ≤ w.heap.size) (W : World) (l : Nat) (o o' : Obj) (hl : w.heap.size ≤ l) (h : W.heap[l]? = some o) (ho : o.isCells = false) (hw : o.isWalk = false) : KpBox n₀ n₁ Bx T W (W.putObj l o') := by
  refine ⟨belowK_b hn W l o o' hl h ho hw, fun v hv hlt => ?_⟩
  have hne : ∀ k c t fr, W.heap[k]? = some (.cells c t fr) → l ≠ k := by
    intro k c t fr hk e
    subst e
    rw [h] at hk
    cases hk
    cases ho
  refine ⟨v, (World.putObj_heap_other (Ne.symm (hne _ _ _ _ hv))).trans hv, .inl rfl, fun k hk => by have := hlt k hk; simpa using this, fun k c t fr _ hk _ => (World.putObj_heap_other (Ne.symm (hne _ _ _ _ hk))).trans hk⟩
end Wlk

set_option maxHeartbeats 1000000 in
theorem edges_in (n : Nat) (a : Option Addr) (len cap : Nat) (w : World) :
    CallsIn Fence.wide n Try.prog 45 #[.slice a len cap] w fun e w' => e = .returned (.func (.func 52) #[] #[.pointer (some ⟨w.heap.size, 0, none⟩)]) ∧ w' = w.alloc (.cells #[.slice a len cap] 22) := by
  refine callsIn_of_wp Try.func45 rfl trivial ?_ rfl
  simp only [Try.ntmps45, List.size_toArray, List.length_cons, List.length_nil, Nat.reduceAdd, Nat.reduceSub, Array.replicate_succ, Array.replicate_zero, List.push_toArray, List.append_toArray, List.nil_append, List.cons_append]
  gi_wp2
  go_ret
  exact ⟨rfl, rfl⟩

set_option maxRecDepth 100000 in
set_option maxHeartbeats 4000000 in
theorem edges1_in (n : Nat) (hn : 3 ≤ n) (l Bs n₀ n₁ Bx T b off cap : Nat) (L : List Spn.Span) (LL : Nat) (hLL : L.length = LL) (hlen : LL ≤ 10000) (hm : ∀ s ∈ L, Spn.Mild s) (hb : b < n₀) (J Jx : List Wlk.Edge → World → Prop) (W : World) (hn1 : n₁ ≤ W.heap.size) (hn0 : n₀ ≤ W.heap.size) (hJ : AbidesFrom W.heap.size J)
    (Pd : Wlk.Edge → Prop) (hP : ∀ s ∈ L, Pd (s.f0, true) ∧ Pd (Spn.fin s, false)) (hY : ∀ pre x W, J pre W → pre.length < 2 * LL → Pd x → YieldAt Fence.wide (n - 1) Try.prog l #[.int .i64 x.1, .bool x.2] W fun e W' =>
      (e = .returned (.bool true) ∧ J (pre ++ [x]) W' ∧ Wlk.KpBox n₀ n₁ Bx T W W') ∨ (e = .returned (.bool false) ∧ Jx (pre ++ [x]) W'))
    (hBs : W.cell? ⟨Bs, 0, none⟩ = some (.slice (some ⟨b, off, none⟩) LL cap)) (hA : Spn.At W b off L) (hv : ∃ v, W.heap[Bx]? = some (.cells #[v] T (0, 0)) ∧ ∀ k, v.ownBlock = some k → k < W.heap.size) (h0 : J [] W) :
    CallsIn Fence.wide n Try.prog 52 #[.func (.yield l) #[] #[], .pointer (some ⟨Bs, 0, none⟩)] W fun e W' => (∃ v, e = .returned v) ∧
      ((∃ ys, ys = Wlk.edgesOf L ∧ J ys W') ∨ (∃ pre, True ∧ Jx pre W')) := by
  refine callsIn_of_wp Try.func52 rfl trivial ?_ rfl
  simp only [Try.ntmps52, List.size_toArray, List.length_cons, List.length_nil, Nat.reduceAdd, Nat.reduceSub, Array.replicate_succ, Array.replicate_zero, List.push_toArray, List.append_toArray, List.nil_append, List.cons_append]
  gi_wp2
  have HA := Lib.hid hA
  have HK := Lib.hid hLL
  have HM := Lib.hid hm
  have HJ := Lib.hid hJ
  have HY := Lib.hid hY
  have HV := Lib.hid hv
  have HP := Lib.hid hP
  have h1 : 1 ≤ n := by omega
  clear hA hLL hm hJ hY hv hBs hP
  gi_loopw [7] (fun i wr => ∃ k : Nat, k ≤ LL ∧ i = .int .i64 k ∧ J (Wlk.edgesOf (L.take k)) wr ∧ Below n₀ W wr ∧ W.heap.size ≤ wr.heap.size ∧ ∃ v, wr.heap[Bx]? = some (.cells #[v] T (0, 0)) ∧ ∀ k, v.ownBlock = some k → k < wr.heap.size)
    (fun i _ => LL - (intOf i).toNat)
  case atStart => exact ⟨0, Nat.zero_le _, rfl, h0, Below.refl _ _, Nat.le_refl _, HV.out⟩
  case round =>
    obtain ⟨k, hk, rfl, hJs, hnx, hsz, v, hv, hvl⟩ := hrel
    have Hv := Lib.hid hv
    have Hvl := Lib.hid hvl
    clear hv hvl
    by_cases hlt : k < LL
    · obtain ⟨s, hs⟩ := Spn.at_lt L k (by have := HK.out; omega)
      obtain ⟨s0, s1⟩ := s
      obtain ⟨e0, e1⟩ := HA.out k _ hs
      have c0 : wr.cell? ⟨b, off + k * 2, none⟩ = some (.int .i64 s0) := (hnx.cell (p := ⟨b, off + k * 2, none⟩) hb).trans e0
      have c1 : wr.cell? ⟨b, off + k * 2 + 1, none⟩ = some (.int .i64 s1) := (hnx.cell (p := ⟨b, off + k * 2 + 1, none⟩) hb).trans e1
      have d7 : (k : Int) < (LL : Int) := by omega
      have d8 : (0 : Int) ≤ (k : Int) := by omega
      have HS := Lib.hid hs
      clear hs e0 e1
      have hpl : (Wlk.edgesOf (L.take k)).length = 2 * k := by rw [Wlk.edgesOf_length, List.length_take, HK.out]; omega
      have hJ1 : J (Wlk.edgesOf (L.take k)) (wr.alloc (.cells #[.int .i64 s0, .int .i64 s1] 42)) := HJ.out _ _ _ none hJs (World.grownBy_alloc _ _ none) (fun r e => by cases e)
      obtain ⟨fn, tmps, assign, body, hy, hR⟩ := HY.out _ (s0, true) _ hJ1 (by omega) (HP.out _ (List.mem_of_getElem? HS.out)).1
      dsimp only at hy
      have HR := Lib.hid hR
      have HJs := Lib.hid hJs
      clear hR hJ1 hJs
      gi_wp2
      refine HR.out.mono ?_
      rintro e W3 (⟨rfl, hJ3, hk3⟩ | ⟨rfl, hJx3⟩)
      · obtain ⟨v3, a1, a2, a3, a4⟩ := hk3.2 v ((heap_alloc_old _ _ _ (Array.getElem?_eq_some_iff.1 Hv.out).1).trans Hv.out) (fun i hi => by have := Hvl.out i hi; simp; omega)
        have hbox := a4 wr.heap.size _ _ _ (by omega) (heap_alloc_new _ _) (fun e => by have := Hvl.out _ e; omega)
        have g0 : W3.cell? ⟨wr.heap.size, 0, none⟩ = some (.int .i64 s0) := (cell_of_row _ _ 0 _ _ _ hbox).trans rfl
        have g1 : W3.cell? ⟨wr.heap.size, 1, none⟩ = some (.int .i64 s1) := (cell_of_row _ _ 1 _ _ _ hbox).trans rfl
        have HMs := Lib.hid (HM.out _ (List.mem_of_getElem? HS.out))
        have A1 := Lib.hid a1
        have A3 := Lib.hid a3
        have HJ3 := Lib.hid hJ3
        have Hk3 := Lib.hid hk3.1
        have hz : (wr.alloc (.cells #[.int .i64 s0, .int .i64 s1] 42)).heap.size = wr.heap.size + 1 := by simp
        have Hz := Lib.hid hz
        clear a1 a2 a3 a4 hbox hJ3 hk3 hz
        gi_wp2_with (
          refine ⟨trivial, ?_⟩
          gi_at_call 30
          refine (callsIn_wide.2 (spans_fin s0 s1 HMs.out _)).mono ?_
          rintro e W4 ⟨rfl, hb4⟩
          have hJ4 := HJ.out _ _ W4 none HJ3.out ⟨hb4.os, hb4.tape, hb4.output, hb4.size, fun i hi _ => hb4.block i hi⟩ (fun r e => by cases e)
          obtain ⟨fn2, tmps2, assign2, body2, hy2, hR2⟩ := HY.out _ (s0 + s1, false) W4 hJ4 (by rw [List.length_append, hpl]; simp; omega) (HP.out _ (List.mem_of_getElem? HS.out)).2
          dsimp only at hy2
          have HR2 := Lib.hid hR2
          have Hb4 := Lib.hid hb4
          have HJ4 := Lib.hid hJ4
          clear hR2 hb4 hJ4 g0 g1)
        refine HR2.out.mono ?_
        rintro e W5 (⟨rfl, hJ5, hk5⟩ | ⟨rfl, hJx5⟩)
        · have hbx3 := (Hb4.out.block Bx (Array.getElem?_eq_some_iff.1 A1.out).1).trans A1.out
          obtain ⟨v5, a1, a2, a3, a4⟩ := hk5.2 v3 hbx3 (fun i hi => by have := A3.out i hi; have := Hb4.out.size; omega)
          have hJ6 : J (Wlk.edgesOf (L.take (k + 1))) W5 := by
            rw [List.take_add_one, HS.out, Option.toList_some, Wlk.edgesOf_snoc]
            exact hJ5
          have hb6 : Below n₀ W W5 := by
            have q := hnx.alloc (by omega) (.cells #[.int .i64 s0, .int .i64 s1] 42)
            have q2 := q.trans Hk3.out
            exact (q2.trans (Hb4.out.mono (by have := q2.size; omega))).trans hk5.1
          have hs6 : W.heap.size ≤ W5.heap.size := hb6.size
          have HF := Lib.hid (show k + 1 ≤ LL ∧ J (Wlk.edgesOf (L.take (k + 1))) W5 ∧ Below n₀ W W5 ∧ W.heap.size ≤ W5.heap.size ∧ ∃ v, W5.heap[Bx]? = some (.cells #[v] T (0, 0)) ∧ ∀ k, v.ownBlock = some k → k < W5.heap.size from ⟨hlt, hJ6, hb6, hs6, v5, a1, a3⟩)
          clear a1 a2 a3 a4 hJ5 hk5 hJ6 hb6 hs6 hbx3
          gi_wp2
          refine ⟨⟨k + 1, HF.out.1, by push_cast; rfl, HF.out.2⟩, ?_⟩
          simp only [intOf]
          omega
        · gi_wp2
          refine bodyPost_ret (results_none rfl _ _ _) rfl ?_
          exact ⟨⟨_, rfl⟩, .inr ⟨_, trivial, hJx5⟩⟩
      · gi_wp2
        refine ⟨trivial, ?_⟩
        gi_wp2
        refine ⟨fun _ h => (by cases h), ?_⟩
        gi_wp2
        refine bodyPost_ret (results_none rfl _ _ _) rfl ?_
        exact ⟨⟨_, rfl⟩, .inr ⟨_, trivial, hJx3⟩⟩
    · have hke : k = LL := by omega
      have d7 : ¬ (k : Int) < (LL : Int) := by omega
      gi_wp2
      refine bodyPost_end (results_none rfl _ _ _) rfl ?_
      rw [hke, ← HK.out, List.take_length] at hJs
      exact ⟨⟨_, rfl⟩, .inl hJs⟩

theorem edges1_nil (n : Nat) (l Bs : Nat) (J : List Wlk.Edge → World → Prop) (W : World) (A : Option Addr) (cap : Nat) (hBs : W.cell? ⟨Bs, 0, none⟩ = some (.slice A 0 cap)) (h0 : J [] W) :
    CallsIn Fence.wide n Try.prog 52 #[.func (.yield l) #[] #[], .pointer (some ⟨Bs, 0, none⟩)] W fun e W' => (∃ v, e = .returned v) ∧ J [] W' := by
  refine callsIn_of_wp Try.func52 rfl trivial ?_ rfl
  simp only [Try.ntmps52, List.size_toArray, List.length_cons, List.length_nil, Nat.reduceAdd, Nat.reduceSub, Array.replicate_succ, Array.replicate_zero, List.push_toArray, List.append_toArray, List.nil_append, List.cons_append]
  gi_wp2
  gi_loopw [7] (fun i wr => i = .int .i64 0 ∧ J [] wr)
    (fun i _ => 0)
  case atStart => exact ⟨rfl, h0⟩
  case round =>
    obtain ⟨rfl, hJs⟩ := hrel
    gi_wp2
    refine bodyPost_end (results_none rfl _ _ _) rfl ?_
    exact ⟨⟨_, rfl⟩, hJs⟩
end Go.Proofs.Ytihdcglkmilckaa
