/- The walks of ops.May, ops.Adds, ops.Put at the document's example. -/
import Derived.Test.YtdeopfpabfaopaaOrdV
import Derived.StillTail
import Derived.Deep.Quiet
import Derived.BigQuiet
namespace Go.Proofs.Ytdeopfpabfaopaa
open Go.RowKit

namespace Ord
theorem put_lit (n : Nat) (h : n < 128) (w : World) : Calls Try.prog 11 #[.int .u64 n] w fun e w' => e = .returned (.string ⟨#[UInt8.ofNat n]⟩) ∧ Below w.heap.size w w' := by
  refine (nums_put n (by omega) w).mono ?_
  rintro e w' ⟨rfl, hb⟩
  refine ⟨?_, hb⟩
  rw [Num.put_lt h]
  rfl
theorem text_lit (w : World) : Calls Try.prog 41 #[.string ⟨#[97, 98]⟩] w fun e w' => e = .returned (.string ⟨#[2, 97, 98]⟩) ∧ Below w.heap.size w w' := by
  refine (nums_puttext ⟨#[97, 98]⟩ (by decide) w).mono ?_
  rintro e w' ⟨rfl, hb⟩
  refine ⟨?_, hb⟩
  show Ending.returned (.string (Mem.str (Num.put 2 ++ [97, 98]))) = _
  rw [Num.put_lt (by omega)]
  rfl
end Ord

set_option maxHeartbeats 400000 in
theorem ins_put (w : World) : Calls Try.prog 38 #[.agg #[], .agg #[.int .i64 1, .int .i64 2, .int .i64 7, .int .i64 1, .int .i64 3, .string ⟨#[97, 98]⟩, .slice none 0 0]] w fun e w' => e = .returned (.string ⟨#[3, 2, 97, 98]⟩) ∧ Below w.heap.size w w' := by
  go_enter Try.func38, Try.ntmps38
  have b0 : Below w.heap.size w ((w.alloc (.cells #[] 51)).alloc (.cells #[.int .i64 1, .int .i64 2, .int .i64 7, .int .i64 1, .int .i64 3, .string ⟨#[97, 98]⟩, .slice none 0 0] 26)) := ((Below.refl _ w).alloc (Nat.le_refl _) _).alloc (by simp) _
  have r0 : ((w.alloc (.cells #[] 51)).alloc (.cells #[.int .i64 1, .int .i64 2, .int .i64 7, .int .i64 1, .int .i64 3, .string ⟨#[97, 98]⟩, .slice none 0 0] 26)).heap[w.heap.size + 1]? = some (.cells #[.int .i64 1, .int .i64 2, .int .i64 7, .int .i64 1, .int .i64 3, .string ⟨#[97, 98]⟩, .slice none 0 0] 26 (0, 0)) := by
    have := heap_alloc_new (w.alloc (.cells #[] 51)) (.cells #[.int .i64 1, .int .i64 2, .int .i64 7, .int .i64 1, .int .i64 3, .string ⟨#[97, 98]⟩, .slice none 0 0] 26)
    rw [World.size_alloc] at this
    exact this
  have B0 := Lib.hid b0
  have R0 := Lib.hid r0
  clear b0 r0
  have P3 := Lib.hid (Ord.put_lit 3 (by omega))
  have PT := Lib.hid Ord.text_lit
  go_wp2
  generalize ((w.alloc (.cells #[] 51)).alloc (.cells #[.int .i64 1, .int .i64 2, .int .i64 7, .int .i64 1, .int .i64 3, .string ⟨#[97, 98]⟩, .slice none 0 0] 26)) = w1 at B0 R0 ⊢
  have j4 : ∀ i : Mem.Later w1, i.w.cell? ⟨w.heap.size + 1, 4, none⟩ = some (.int .i64 3) := fun i => i.cell ((cell_of_row _ _ 4 _ _ _ R0.out).trans rfl)
  have j5 : ∀ i : Mem.Later w1, i.w.cell? ⟨w.heap.size + 1, 5, none⟩ = some (.string ⟨#[97, 98]⟩) := fun i => i.cell ((cell_of_row _ _ 5 _ _ _ R0.out).trans rfl)
  refine Mem.wp_region_later (by kernel_rfl) (by kernel_rfl) ?_
  repeat (go_big_quiet_step (first
    | (go_at_call 11; refine Mem.later_call (P3.out _))
    | (go_at_call 41; refine Mem.later_call (PT.out _))))
  refine wpQuiet_nil ?_
  rintro _ ⟨⟨wq, hq⟩, rfl⟩
  clear j4 j5
  go_wp2
  go_ret
  exact ⟨rfl, Mem.then_ B0.out hq⟩

namespace Ord
theorem within_lit (n a b : Int) (r : Bool) (h : (decide (a ≤ n) && decide (n ≤ b)) = r) (w : World) : Calls Try.prog 13 #[.int .i64 n, .int .i64 a, .int .i64 b] w fun e w' => e = .returned (.bool r) ∧ Below w.heap.size w w' := by
  refine (ops_within n a b w).mono ?_
  rintro e w' ⟨rfl, hb⟩
  exact ⟨by rw [h], hb⟩
end Ord

set_option maxHeartbeats 400000 in
theorem vect_within_lit (n a b : Int) (h : a ≤ n) (h2 : n ≤ b) (w : World) : Calls Try.prog 15 #[.int .i64 n, .int .i64 a, .int .i64 b] w fun e w' => e = .returned (.bool true) ∧ Below w.heap.size w w' := by
  go_enter Try.func15, Try.ntmps15
  go_wp2
  go_ret
  exact ⟨by first | rfl | simp, Below.refl _ _⟩

set_option maxHeartbeats 400000 in
theorem vect_mayname_lit (w : World) : Calls Try.prog 14 #[.agg #[.int .i64 1, .int .i64 2]] w fun e w' => e = .returned (.bool true) ∧ Below w.heap.size w w' := by
  go_enter Try.func14, Try.ntmps14
  have r0 := heap_alloc_new w (.cells #[.int .i64 1, .int .i64 2] 23)
  have B0 := Lib.hid ((Below.refl w.heap.size w).alloc (Nat.le_refl _) (.cells #[.int .i64 1, .int .i64 2] 23))
  have R0 := Lib.hid r0
  clear r0
  go_wp2_with (first
    | (go_at_call_of 15 (Value.int IntKind.i64 1)
       with_reducible refine (vect_within_lit 1 1 16 (by omega) (by omega) _).mono ?_
       rintro e w2 ⟨rfl, hb2⟩
       have r2 := (hb2.block _ (Array.getElem?_eq_some_iff.1 R0.out).1).trans R0.out
       have c1 := (cell_of_row _ _ 1 _ _ _ r2).trans rfl
       have B2 := Lib.hid (Mem.then_ B0.out hb2)
       clear hb2 r2)
    | (go_at_call 15
       refine (vect_within_lit 2 1 1099511627776 (by omega) (by omega) _).mono ?_
       rintro e w3 ⟨rfl, hb3⟩))
  go_ret
  exact ⟨rfl, Mem.then_ B2.out hb3⟩

theorem Ord.method_adds (w : World) : (method 193 51 (.agg #[]) "foolscap/ops.adds").run Try.prog w = .ok (35, .agg #[]) w := by kernel_rfl
theorem Ord.method_put (w : World) : (method 193 51 (.agg #[]) "foolscap/ops.put").run Try.prog w = .ok (38, .agg #[]) w := by kernel_rfl
theorem Ord.method_may (w : World) : (method 193 51 (.agg #[]) "foolscap/ops.may").run Try.prog w = .ok (37, .agg #[]) w := by kernel_rfl

set_option maxHeartbeats 400000 in
theorem ops_adds (w : World) : Calls Try.prog 7 #[.agg #[.int .i64 1, .int .i64 2, .int .i64 7, .int .i64 1, .int .i64 3, .string ⟨#[97, 98]⟩, .slice none 0 0]] w fun e w' => e = .returned (.int .i64 2) ∧ Below w.heap.size w w' := by
  go_enter Try.func7, Try.ntmps7
  have b0 : Below w.heap.size w (w.alloc (.cells #[.int .i64 1, .int .i64 2, .int .i64 7, .int .i64 1, .int .i64 3, .string ⟨#[97, 98]⟩, .slice none 0 0] 26)) := ((Below.refl _ w).alloc (Nat.le_refl _) _)
  have r0 : (w.alloc (.cells #[.int .i64 1, .int .i64 2, .int .i64 7, .int .i64 1, .int .i64 3, .string ⟨#[97, 98]⟩, .slice none 0 0] 26)).heap[w.heap.size]? = some (.cells #[.int .i64 1, .int .i64 2, .int .i64 7, .int .i64 1, .int .i64 3, .string ⟨#[97, 98]⟩, .slice none 0 0] 26 (0, 0)) := heap_alloc_new w (.cells #[.int .i64 1, .int .i64 2, .int .i64 7, .int .i64 1, .int .i64 3, .string ⟨#[97, 98]⟩, .slice none 0 0] 26)
  have B0 := Lib.hid b0
  have R0 := Lib.hid r0
  clear b0 r0
  have HO := Lib.hid ops_of_ins
  have HA := Lib.hid ins_adds
  have hm := Ord.method_adds
  go_wp2
  generalize (w.alloc (.cells #[.int .i64 1, .int .i64 2, .int .i64 7, .int .i64 1, .int .i64 3, .string ⟨#[97, 98]⟩, .slice none 0 0] 26)) = w1 at B0 R0 ⊢
  have j0 : ∀ i : Mem.Later w1, i.w.cell? ⟨w.heap.size, 0, none⟩ = some (.int .i64 1) := fun i => i.cell ((cell_of_row _ _ 0 _ _ _ R0.out).trans rfl)
  have j1 : ∀ i : Mem.Later w1, i.w.cell? ⟨w.heap.size, 1, none⟩ = some (.int .i64 2) := fun i => i.cell ((cell_of_row _ _ 1 _ _ _ R0.out).trans rfl)
  have j2 : ∀ i : Mem.Later w1, i.w.cell? ⟨w.heap.size, 2, none⟩ = some (.int .i64 7) := fun i => i.cell ((cell_of_row _ _ 2 _ _ _ R0.out).trans rfl)
  have j3 : ∀ i : Mem.Later w1, i.w.cell? ⟨w.heap.size, 3, none⟩ = some (.int .i64 1) := fun i => i.cell ((cell_of_row _ _ 3 _ _ _ R0.out).trans rfl)
  have j4 : ∀ i : Mem.Later w1, i.w.cell? ⟨w.heap.size, 4, none⟩ = some (.int .i64 3) := fun i => i.cell ((cell_of_row _ _ 4 _ _ _ R0.out).trans rfl)
  have j5 : ∀ i : Mem.Later w1, i.w.cell? ⟨w.heap.size, 5, none⟩ = some (.string ⟨#[97, 98]⟩) := fun i => i.cell ((cell_of_row _ _ 5 _ _ _ R0.out).trans rfl)
  have j6 : ∀ i : Mem.Later w1, i.w.cell? ⟨w.heap.size, 6, none⟩ = some (.slice none 0 0) := fun i => i.cell ((cell_of_row _ _ 6 _ _ _ R0.out).trans rfl)
  refine Mem.wp_region_later (by kernel_rfl) (by kernel_rfl) ?_
  repeat (go_big_quiet_step (first
    | (go_at_call 12; refine Mem.later_call (HO.out _))
    | (go_at_call 35; refine Mem.later_call (HA.out _))))
  refine wpQuiet_nil ?_
  rintro _ ⟨⟨wq, hq⟩, rfl⟩
  clear j0 j1 j2 j3 j4 j5 j6
  go_wp2
  go_ret
  exact ⟨rfl, Mem.then_ B0.out hq⟩

set_option maxHeartbeats 1000000 in
theorem ops_may_yes (w : World) : Calls Try.prog 8 #[.agg #[.int .i64 1, .int .i64 2, .int .i64 7, .int .i64 1, .int .i64 3, .string ⟨#[97, 98]⟩, .slice none 0 0], .int .i64 3] w fun e w' => e = .returned (.bool true) ∧ Below w.heap.size w w' := by
  go_enter Try.func8, Try.ntmps8
  have b0 : Below w.heap.size w (w.alloc (.cells #[.int .i64 1, .int .i64 2, .int .i64 7, .int .i64 1, .int .i64 3, .string ⟨#[97, 98]⟩, .slice none 0 0] 26)) := ((Below.refl _ w).alloc (Nat.le_refl _) _)
  have r0 : (w.alloc (.cells #[.int .i64 1, .int .i64 2, .int .i64 7, .int .i64 1, .int .i64 3, .string ⟨#[97, 98]⟩, .slice none 0 0] 26)).heap[w.heap.size]? = some (.cells #[.int .i64 1, .int .i64 2, .int .i64 7, .int .i64 1, .int .i64 3, .string ⟨#[97, 98]⟩, .slice none 0 0] 26 (0, 0)) := heap_alloc_new w (.cells #[.int .i64 1, .int .i64 2, .int .i64 7, .int .i64 1, .int .i64 3, .string ⟨#[97, 98]⟩, .slice none 0 0] 26)
  have B0 := Lib.hid b0
  have R0 := Lib.hid r0
  clear b0 r0
  have HO := Lib.hid ops_of_ins
  have HM := Lib.hid ins_may
  have HN := Lib.hid vect_mayname_lit
  have H1 := Lib.hid (Ord.within_lit 3 0 20000 true (by decide))
  have H2 := Lib.hid (Ord.within_lit 7 0 1099511627776 true (by decide))
  have hm := Ord.method_may
  go_wp2
  generalize (w.alloc (.cells #[.int .i64 1, .int .i64 2, .int .i64 7, .int .i64 1, .int .i64 3, .string ⟨#[97, 98]⟩, .slice none 0 0] 26)) = w1 at B0 R0 ⊢
  have j0 : ∀ i : Mem.Later w1, i.w.cell? ⟨w.heap.size, 0, none⟩ = some (.int .i64 1) := fun i => i.cell ((cell_of_row _ _ 0 _ _ _ R0.out).trans rfl)
  have j1 : ∀ i : Mem.Later w1, i.w.cell? ⟨w.heap.size, 1, none⟩ = some (.int .i64 2) := fun i => i.cell ((cell_of_row _ _ 1 _ _ _ R0.out).trans rfl)
  have j2 : ∀ i : Mem.Later w1, i.w.cell? ⟨w.heap.size, 2, none⟩ = some (.int .i64 7) := fun i => i.cell ((cell_of_row _ _ 2 _ _ _ R0.out).trans rfl)
  have j3 : ∀ i : Mem.Later w1, i.w.cell? ⟨w.heap.size, 3, none⟩ = some (.int .i64 1) := fun i => i.cell ((cell_of_row _ _ 3 _ _ _ R0.out).trans rfl)
  have j4 : ∀ i : Mem.Later w1, i.w.cell? ⟨w.heap.size, 4, none⟩ = some (.int .i64 3) := fun i => i.cell ((cell_of_row _ _ 4 _ _ _ R0.out).trans rfl)
  have j5 : ∀ i : Mem.Later w1, i.w.cell? ⟨w.heap.size, 5, none⟩ = some (.string ⟨#[97, 98]⟩) := fun i => i.cell ((cell_of_row _ _ 5 _ _ _ R0.out).trans rfl)
  have j6 : ∀ i : Mem.Later w1, i.w.cell? ⟨w.heap.size, 6, none⟩ = some (.slice none 0 0) := fun i => i.cell ((cell_of_row _ _ 6 _ _ _ R0.out).trans rfl)
  refine Mem.wp_region_later (by kernel_rfl) (by kernel_rfl) ?_
  repeat (go_big_quiet_step (first
    | (go_at_call 12; refine Mem.later_call (HO.out _))
    | (go_at_call 14; refine Mem.later_call (HN.out _))
    | (go_at_call 37; refine Mem.later_call (HM.out _))
    | (go_at_call_of 13 (Value.int IntKind.i64 3); with_reducible refine Mem.later_call (H1.out _))
    | (go_at_call_of 13 (Value.int IntKind.i64 7); with_reducible refine Mem.later_call (H2.out _))))
  refine wpQuiet_nil ?_
  rintro _ ⟨⟨wq, hq⟩, rfl⟩
  clear j0 j1 j2 j3 j4 j5 j6
  go_wp2
  go_ret
  exact ⟨rfl, Mem.then_ B0.out hq⟩

set_option maxHeartbeats 1000000 in
theorem ops_may_no (w : World) : Calls Try.prog 8 #[.agg #[.int .i64 1, .int .i64 2, .int .i64 7, .int .i64 1, .int .i64 3, .string ⟨#[97, 98]⟩, .slice none 0 0], .int .i64 2] w fun e w' => e = .returned (.bool false) ∧ Below w.heap.size w w' := by
  go_enter Try.func8, Try.ntmps8
  have b0 : Below w.heap.size w (w.alloc (.cells #[.int .i64 1, .int .i64 2, .int .i64 7, .int .i64 1, .int .i64 3, .string ⟨#[97, 98]⟩, .slice none 0 0] 26)) := ((Below.refl _ w).alloc (Nat.le_refl _) _)
  have r0 : (w.alloc (.cells #[.int .i64 1, .int .i64 2, .int .i64 7, .int .i64 1, .int .i64 3, .string ⟨#[97, 98]⟩, .slice none 0 0] 26)).heap[w.heap.size]? = some (.cells #[.int .i64 1, .int .i64 2, .int .i64 7, .int .i64 1, .int .i64 3, .string ⟨#[97, 98]⟩, .slice none 0 0] 26 (0, 0)) := heap_alloc_new w (.cells #[.int .i64 1, .int .i64 2, .int .i64 7, .int .i64 1, .int .i64 3, .string ⟨#[97, 98]⟩, .slice none 0 0] 26)
  have B0 := Lib.hid b0
  have R0 := Lib.hid r0
  clear b0 r0
  have HO := Lib.hid ops_of_ins
  have HM := Lib.hid ins_may_not
  have HN := Lib.hid vect_mayname_lit
  have H1 := Lib.hid (Ord.within_lit 2 0 20000 true (by decide))
  have H2 := Lib.hid (Ord.within_lit 7 0 1099511627776 true (by decide))
  have hm := Ord.method_may
  go_wp2
  generalize (w.alloc (.cells #[.int .i64 1, .int .i64 2, .int .i64 7, .int .i64 1, .int .i64 3, .string ⟨#[97, 98]⟩, .slice none 0 0] 26)) = w1 at B0 R0 ⊢
  have j0 : ∀ i : Mem.Later w1, i.w.cell? ⟨w.heap.size, 0, none⟩ = some (.int .i64 1) := fun i => i.cell ((cell_of_row _ _ 0 _ _ _ R0.out).trans rfl)
  have j1 : ∀ i : Mem.Later w1, i.w.cell? ⟨w.heap.size, 1, none⟩ = some (.int .i64 2) := fun i => i.cell ((cell_of_row _ _ 1 _ _ _ R0.out).trans rfl)
  have j2 : ∀ i : Mem.Later w1, i.w.cell? ⟨w.heap.size, 2, none⟩ = some (.int .i64 7) := fun i => i.cell ((cell_of_row _ _ 2 _ _ _ R0.out).trans rfl)
  have j3 : ∀ i : Mem.Later w1, i.w.cell? ⟨w.heap.size, 3, none⟩ = some (.int .i64 1) := fun i => i.cell ((cell_of_row _ _ 3 _ _ _ R0.out).trans rfl)
  have j4 : ∀ i : Mem.Later w1, i.w.cell? ⟨w.heap.size, 4, none⟩ = some (.int .i64 3) := fun i => i.cell ((cell_of_row _ _ 4 _ _ _ R0.out).trans rfl)
  have j5 : ∀ i : Mem.Later w1, i.w.cell? ⟨w.heap.size, 5, none⟩ = some (.string ⟨#[97, 98]⟩) := fun i => i.cell ((cell_of_row _ _ 5 _ _ _ R0.out).trans rfl)
  have j6 : ∀ i : Mem.Later w1, i.w.cell? ⟨w.heap.size, 6, none⟩ = some (.slice none 0 0) := fun i => i.cell ((cell_of_row _ _ 6 _ _ _ R0.out).trans rfl)
  refine Mem.wp_region_later (by kernel_rfl) (by kernel_rfl) ?_
  repeat (go_big_quiet_step (first
    | (go_at_call 12; refine Mem.later_call (HO.out _))
    | (go_at_call 14; refine Mem.later_call (HN.out _))
    | (go_at_call 37; refine Mem.later_call (HM.out _))
    | (go_at_call_of 13 (Value.int IntKind.i64 2); with_reducible refine Mem.later_call (H1.out _))
    | (go_at_call_of 13 (Value.int IntKind.i64 7); with_reducible refine Mem.later_call (H2.out _))))
  refine wpQuiet_nil ?_
  rintro _ ⟨⟨wq, hq⟩, rfl⟩
  clear j0 j1 j2 j3 j4 j5 j6
  go_wp2
  go_ret
  exact ⟨rfl, Mem.then_ B0.out hq⟩
end Go.Proofs.Ytdeopfpabfaopaa
