/- The walk of the example. -/
import Derived.Test.YtdnpiginkndpcaaDoorVecF
namespace Go.Proofs.YtdnpiginkndpcaaDoor
open Go.RowKit
open PVectAsks

namespace Vec
open Go.Proofs.YtdnpiginkndpcaaDoorW.PrintWords
theorem reads_row {w : World} {b : Nat} {l : List Int} {T : TypeId} (hl : l.length ≤ 1000) (hr : w.heap[b]? = some (.cells (ints l).toArray T (0, 0))) : Kd.C (Kd.int .i64) w (some ⟨b, 0, none⟩) l.length l := by
  refine ⟨rfl, by omega, fun _ => ⟨_, rfl, fun j p hj => ⟨[.int .i64 p], rfl, rfl, fun i u hu => ?_⟩⟩⟩
  cases i with
  | succ i => simp at hu
  | zero =>
    have hu' : Value.int .i64 p = u := by simpa using hu
    subst hu'
    have : (⟨b, 0, none⟩ : Addr).add (j * (Kd.int .i64).sz + 0) = ⟨b, j, none⟩ := by simp [Addr.add, Kd.int, Kd.scalar]; exact fun h => h.symm
    rw [this]
    refine (cell_of_row _ _ j _ _ _ hr).trans ?_
    unfold ints
    rw [List.getElem?_toArray, List.getElem?_map, hj]
    rfl
theorem own_reads {w : World} {base : Nat} {v : Value} {l : List Int} (h : Own w base v l) : ∃ A c, v = .slice A l.length c ∧ l.length ≤ c ∧ Kd.C (Kd.int .i64) w A l.length l := by
  obtain ⟨h1, ⟨rfl, h2⟩ | ⟨g, cap, cur, rfl, hg, hr, hn, hc, hz, ht⟩⟩ := h
  · refine ⟨none, 0, by rw [h2], by omega, rfl, by omega, fun h => by omega⟩
  · refine ⟨_, _, rfl, hn, rfl, by unfold maxLen at hc; omega, fun _ => ⟨_, rfl, fun j p hj => ⟨[.int .i64 p], rfl, rfl, fun i u hu => ?_⟩⟩⟩
    cases i with
    | succ i => simp at hu
    | zero =>
      have hu' : Value.int .i64 p = u := by simpa using hu
      subst hu'
      have : (⟨g, 0, none⟩ : Addr).add (j * (Kd.int .i64).sz + 0) = ⟨g, j, none⟩ := by simp [Addr.add, Kd.int, Kd.scalar]; exact fun h => h.symm
      rw [this]
      refine (cell_of_row _ _ j _ _ _ hr).trans ?_
      have hj' : j < l.length := (List.getElem?_eq_some_iff.1 hj).1
      have : (cur.toList.take (l.length * 1))[j]? = (ints l)[j]? := by rw [ht]
      rw [List.getElem?_take_of_lt (by omega)] at this
      unfold ints at this
      rw [List.getElem?_map, hj] at this
      rw [← Array.getElem?_toList]
      exact this
end Vec

namespace Vec
open Go.Proofs.YtdnpiginkndpcaaDoorW.PrintWords
theorem reads_new (w : World) (l : List Int) (T : TypeId) (h : l.length ≤ 1000) (n : Nat) (hn : l.length = n) : Kd.C (Kd.int .i64) (w.alloc (.cells (ints l).toArray T)) (some ⟨w.heap.size, 0, none⟩) n l := by
  subst hn; exact reads_row h (heap_alloc_new _ _)
theorem below_alloc (w : World) (o : Obj) : Below w.heap.size w (w.alloc o) := (Below.refl _ _).alloc (Nat.le_refl _) _
theorem same_ex : foolscapref06_Same.f 10 [1, 1, 3] [1, 1, 3] = some true := by kernel_rfl
theorem raise_ex (w : World) : Calls Tryd.prog 23 #[.slice (some ⟨w.heap.size, 0, none⟩) 3 3, .agg #[.int .i64 2, .int .i64 1]] (w.alloc (.cells #[.int .i64 1, .int .i64 0, .int .i64 3] 3)) fun e w' =>
    ∃ A c, e = .returned (.tuple #[.slice A 3 c, .int .i64 0]) ∧ 3 ≤ c ∧ Kd.C (Kd.int .i64) w' A 3 [1, 1, 3] ∧ Below w.heap.size w w' := by
  have h1 : Kd.C (Kd.int .i64) (w.alloc (.cells #[.int .i64 1, .int .i64 0, .int .i64 3] 3)) (some ⟨w.heap.size, 0, none⟩) 3 [1, 0, 3] := reads_new w [1, 0, 3] 3 (by decide) 3 rfl
  refine (vect_raise_yes [1, 0, 3] 3 rfl (some ⟨w.heap.size, 0, none⟩) 3 2 3 0 _ h1 (by decide) (by decide) (by decide) (by decide) (by decide) (by decide) (by decide) (by decide) (.inr ⟨by decide, rfl⟩)).mono ?_
  rintro e w' ⟨v, rfl, ho, hb⟩
  obtain ⟨A, c, rfl, hc, hr⟩ := own_reads ho
  exact ⟨A, c, rfl, hc, hr, (below_alloc w _).trans (hb.mono (by simp))⟩
theorem same_call (w : World) (A : Option Addr) (c : Nat) (hc : 3 ≤ c) (hr : Kd.C (Kd.int .i64) w A 3 [1, 1, 3]) : Calls Tryd.prog 13 #[.slice A 3 c, .slice (some ⟨w.heap.size, 0, none⟩) 3 3] (w.alloc (.cells #[.int .i64 1, .int .i64 1, .int .i64 3] 3)) fun e w' => e = .returned (.bool true) ∧ Below w.heap.size w w' := by
  have h1 : Kd.C (Kd.int .i64) (w.alloc (.cells #[.int .i64 1, .int .i64 1, .int .i64 3] 3)) (some ⟨w.heap.size, 0, none⟩) 3 [1, 1, 3] := reads_new w [1, 1, 3] 3 (by decide) 3 rfl
  refine (foolscapref06_Same.calls 10 A c [1, 1, 3] (some ⟨w.heap.size, 0, none⟩) 3 [1, 1, 3] true _ (Kd.C_below hr (below_alloc _ _)) hc h1 (by decide) same_ex).mono ?_
  rintro e w' ⟨rfl, hd⟩
  exact ⟨rfl, (below_alloc w _).trans ((drawn_below hd).mono (by simp))⟩
theorem order_ex (w : World) : Calls Tryd.prog 17 #[.slice (some ⟨w.heap.size, 0, none⟩) 1 1, .slice (some ⟨w.heap.size + 1, 0, none⟩) 2 2] ((w.alloc (.cells #[.int .i64 1] 3)).alloc (.cells #[.int .i64 0, .int .i64 1] 3)) fun e w' => e = .returned (.int .i64 3) ∧ Below w.heap.size w w' := by
  have h1 : Kd.C (Kd.int .i64) (w.alloc (.cells #[.int .i64 1] 3)) (some ⟨w.heap.size, 0, none⟩) 1 [1] := reads_new w [1] 3 (by decide) 1 rfl
  have h2 : Kd.C (Kd.int .i64) ((w.alloc (.cells #[.int .i64 1] 3)).alloc (.cells #[.int .i64 0, .int .i64 1] 3)) (some ⟨w.heap.size + 1, 0, none⟩) 2 [0, 1] := by
    have := reads_new (w.alloc (.cells #[.int .i64 1] 3)) [0, 1] 3 (by decide) 2 rfl
    rw [show (w.alloc (.cells #[.int .i64 1] 3)).heap.size = w.heap.size + 1 by simp] at this
    exact this
  refine (vect_order [1] [0, 1] 1 2 rfl rfl (some ⟨w.heap.size, 0, none⟩) (some ⟨w.heap.size + 1, 0, none⟩) 1 2 _ (Kd.C_below h1 (below_alloc _ _)) (by decide) h2 (by decide) (by decide) (by decide)).mono ?_
  rintro e w' ⟨rfl, hb⟩
  exact ⟨rfl, ((below_alloc w _).trans ((below_alloc _ _).mono (by simp))).trans (hb.mono (by simp; omega))⟩
end Vec

set_option maxRecDepth 100000 in
set_option maxHeartbeats 2000000 in
theorem alive_true (w : World) : Calls Tryd.prog 9 #[] w fun e w' => e = .returned (.bool true) ∧ Below w.heap.size w w' := by
  go_enter Tryd.func9, Tryd.ntmps9
  go_wp2_with (first
    | (go_at_call 23
       with_reducible refine (Vec.raise_ex w).mono ?_
       rintro e w1 ⟨A, c, rfl, hc, hr, hb1⟩
       have Hr := Lib.hid hr
       have Hb1 := Lib.hid hb1
       clear hr hb1)
    | (go_at_call 13
       with_reducible refine (Vec.same_call w1 A c hc Hr.out).mono ?_
       rintro e w2 ⟨rfl, hb2⟩
       have Hb2 := Lib.hid (Mem.then_ Hb1.out hb2)
       clear hb2)
    | (go_at_call 29
       with_reducible refine (nametext_example _).mono ?_
       rintro e w3 ⟨rfl, hb3⟩
       have Hb3 := Lib.hid (Mem.then_ Hb2.out hb3)
       clear hb3)
    | (go_at_call 17
       with_reducible refine (Vec.order_ex _).mono ?_
       rintro e w4 ⟨rfl, hb4⟩
       have Hb4 := Lib.hid (Mem.then_ Hb3.out hb4)
       clear hb4))
  go_ret
  exact ⟨rfl, Hb4.out⟩
end Go.Proofs.YtdnpiginkndpcaaDoor
