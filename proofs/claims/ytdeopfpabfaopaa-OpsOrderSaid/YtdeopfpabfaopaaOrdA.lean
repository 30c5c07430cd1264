/- The walks of ops.Put and of the statement's example. -/
import Derived.Test.YtdeopfpabfaopaaOrdW
namespace Go.Proofs.Ytdeopfpabfaopaa
open Go.RowKit

set_option maxHeartbeats 400000 in
theorem ops_somewhere (w : World) : Calls Try.prog 10 #[.agg #[.int .i64 1, .int .i64 2, .int .i64 7, .int .i64 1, .int .i64 3, .string ⟨#[97, 98]⟩, .slice none 0 0]] w fun e w' => e = .returned (.bool true) ∧ Below w.heap.size w w' := by
  go_enter Try.func10, Try.ntmps10
  have b0 : Below w.heap.size w (w.alloc (.cells #[.int .i64 1, .int .i64 2, .int .i64 7, .int .i64 1, .int .i64 3, .string ⟨#[97, 98]⟩, .slice none 0 0] 26)) := ((Below.refl _ w).alloc (Nat.le_refl _) _)
  have r0 : (w.alloc (.cells #[.int .i64 1, .int .i64 2, .int .i64 7, .int .i64 1, .int .i64 3, .string ⟨#[97, 98]⟩, .slice none 0 0] 26)).heap[w.heap.size]? = some (.cells #[.int .i64 1, .int .i64 2, .int .i64 7, .int .i64 1, .int .i64 3, .string ⟨#[97, 98]⟩, .slice none 0 0] 26 (0, 0)) := heap_alloc_new w (.cells #[.int .i64 1, .int .i64 2, .int .i64 7, .int .i64 1, .int .i64 3, .string ⟨#[97, 98]⟩, .slice none 0 0] 26)
  have B0 := Lib.hid b0
  have R0 := Lib.hid r0
  clear b0 r0
  go_wp2_with (first
    | (go_at_call 13
       refine (Ord.within_lit 3 0 20000 true (by decide) _).mono ?_
       rintro e w2 ⟨rfl, hb2⟩
       have r2 := (hb2.block _ (Array.getElem?_eq_some_iff.1 R0.out).1).trans R0.out
       have c0 := (cell_of_row _ _ 0 _ _ _ r2).trans rfl
       have c1 := (cell_of_row _ _ 1 _ _ _ r2).trans rfl
       have c2 := (cell_of_row _ _ 2 _ _ _ r2).trans rfl
       have c3 := (cell_of_row _ _ 3 _ _ _ r2).trans rfl
       have c4 := (cell_of_row _ _ 4 _ _ _ r2).trans rfl
       have c5 := (cell_of_row _ _ 5 _ _ _ r2).trans rfl
       have c6 := (cell_of_row _ _ 6 _ _ _ r2).trans rfl
       have B2 := Lib.hid (Mem.then_ B0.out hb2)
       clear hb2 r2)
    | (go_at_call 8
       refine (ops_may_yes _).mono ?_
       rintro e w3 ⟨rfl, hb3⟩))
  go_ret
  exact ⟨rfl, Mem.then_ B2.out hb3⟩

set_option maxHeartbeats 1000000 in
theorem ops_put (w : World) : Calls Try.prog 6 #[.agg #[.int .i64 1, .int .i64 2, .int .i64 7, .int .i64 1, .int .i64 3, .string ⟨#[97, 98]⟩, .slice none 0 0]] w fun e w' => e = .returned (.tuple #[.string ⟨#[1, 2, 7, 1, 3, 2, 97, 98]⟩, .int .i64 0]) ∧ Below w.heap.size w w' := by
  go_enter Try.func6, Try.ntmps6
  have b0 : Below w.heap.size w (w.alloc (.cells #[.int .i64 1, .int .i64 2, .int .i64 7, .int .i64 1, .int .i64 3, .string ⟨#[97, 98]⟩, .slice none 0 0] 26)) := ((Below.refl _ w).alloc (Nat.le_refl _) _)
  have r0 : (w.alloc (.cells #[.int .i64 1, .int .i64 2, .int .i64 7, .int .i64 1, .int .i64 3, .string ⟨#[97, 98]⟩, .slice none 0 0] 26)).heap[w.heap.size]? = some (.cells #[.int .i64 1, .int .i64 2, .int .i64 7, .int .i64 1, .int .i64 3, .string ⟨#[97, 98]⟩, .slice none 0 0] 26 (0, 0)) := heap_alloc_new w (.cells #[.int .i64 1, .int .i64 2, .int .i64 7, .int .i64 1, .int .i64 3, .string ⟨#[97, 98]⟩, .slice none 0 0] 26)
  have B0 := Lib.hid b0
  have R0 := Lib.hid r0
  clear b0 r0
  have HO := Lib.hid ops_of_ins
  have HP := Lib.hid ins_put
  have P1 := Lib.hid (Ord.put_lit 1 (by omega))
  have P2 := Lib.hid (Ord.put_lit 2 (by omega))
  have P7 := Lib.hid (Ord.put_lit 7 (by omega))
  have hm := Ord.method_put
  go_wp2_with (
    go_at_call 10
    refine (ops_somewhere _).mono ?_
    rintro e w1 ⟨rfl, hb1⟩
    have R1 := Lib.hid ((hb1.block _ (Array.getElem?_eq_some_iff.1 R0.out).1).trans R0.out)
    have B1 := Lib.hid (Mem.then_ B0.out hb1)
    clear hb1)
  have j0 : ∀ i : Mem.Later w1, i.w.cell? ⟨w.heap.size, 0, none⟩ = some (.int .i64 1) := fun i => i.cell ((cell_of_row _ _ 0 _ _ _ R1.out).trans rfl)
  have j1 : ∀ i : Mem.Later w1, i.w.cell? ⟨w.heap.size, 1, none⟩ = some (.int .i64 2) := fun i => i.cell ((cell_of_row _ _ 1 _ _ _ R1.out).trans rfl)
  have j2 : ∀ i : Mem.Later w1, i.w.cell? ⟨w.heap.size, 2, none⟩ = some (.int .i64 7) := fun i => i.cell ((cell_of_row _ _ 2 _ _ _ R1.out).trans rfl)
  have j3 : ∀ i : Mem.Later w1, i.w.cell? ⟨w.heap.size, 3, none⟩ = some (.int .i64 1) := fun i => i.cell ((cell_of_row _ _ 3 _ _ _ R1.out).trans rfl)
  have j4 : ∀ i : Mem.Later w1, i.w.cell? ⟨w.heap.size, 4, none⟩ = some (.int .i64 3) := fun i => i.cell ((cell_of_row _ _ 4 _ _ _ R1.out).trans rfl)
  have j5 : ∀ i : Mem.Later w1, i.w.cell? ⟨w.heap.size, 5, none⟩ = some (.string ⟨#[97, 98]⟩) := fun i => i.cell ((cell_of_row _ _ 5 _ _ _ R1.out).trans rfl)
  have j6 : ∀ i : Mem.Later w1, i.w.cell? ⟨w.heap.size, 6, none⟩ = some (.slice none 0 0) := fun i => i.cell ((cell_of_row _ _ 6 _ _ _ R1.out).trans rfl)
  refine Mem.wp_region_later (by kernel_rfl) (by kernel_rfl) ?_
  repeat (go_big_quiet_step (first
    | (go_at_call_of 11 (Value.int IntKind.u64 1); refine Mem.later_call (P1.out _))
    | (go_at_call_of 11 (Value.int IntKind.u64 2); refine Mem.later_call (P2.out _))
    | (go_at_call_of 11 (Value.int IntKind.u64 7); refine Mem.later_call (P7.out _))))
  refine wpQuiet_nil ?_
  intro wq hwq
  obtain ⟨iq, hiq⟩ := hwq
  have hq : Below w1.heap.size w1 wq := hiq ▸ iq.h
  clear hiq iq
  have R2 := Lib.hid ((hq.block _ (Array.getElem?_eq_some_iff.1 R1.out).1).trans R1.out)
  have B2 := Lib.hid (Mem.then_ B1.out hq)
  clear j0 j1 j2 j3 j4 j5 j6 hq
  go_wp2
  have j0 : ∀ i : Mem.Later wq, i.w.cell? ⟨w.heap.size, 0, none⟩ = some (.int .i64 1) := fun i => i.cell ((cell_of_row _ _ 0 _ _ _ R2.out).trans rfl)
  have j1 : ∀ i : Mem.Later wq, i.w.cell? ⟨w.heap.size, 1, none⟩ = some (.int .i64 2) := fun i => i.cell ((cell_of_row _ _ 1 _ _ _ R2.out).trans rfl)
  have j2 : ∀ i : Mem.Later wq, i.w.cell? ⟨w.heap.size, 2, none⟩ = some (.int .i64 7) := fun i => i.cell ((cell_of_row _ _ 2 _ _ _ R2.out).trans rfl)
  have j3 : ∀ i : Mem.Later wq, i.w.cell? ⟨w.heap.size, 3, none⟩ = some (.int .i64 1) := fun i => i.cell ((cell_of_row _ _ 3 _ _ _ R2.out).trans rfl)
  have j4 : ∀ i : Mem.Later wq, i.w.cell? ⟨w.heap.size, 4, none⟩ = some (.int .i64 3) := fun i => i.cell ((cell_of_row _ _ 4 _ _ _ R2.out).trans rfl)
  have j5 : ∀ i : Mem.Later wq, i.w.cell? ⟨w.heap.size, 5, none⟩ = some (.string ⟨#[97, 98]⟩) := fun i => i.cell ((cell_of_row _ _ 5 _ _ _ R2.out).trans rfl)
  have j6 : ∀ i : Mem.Later wq, i.w.cell? ⟨w.heap.size, 6, none⟩ = some (.slice none 0 0) := fun i => i.cell ((cell_of_row _ _ 6 _ _ _ R2.out).trans rfl)
  refine Mem.wp_region_later (by kernel_rfl) (by kernel_rfl) ?_
  repeat (go_big_quiet_step (first
    | (go_at_call 12; refine Mem.later_call (HO.out _))
    | (go_at_call 38; refine Mem.later_call (HP.out _))))
  refine wpQuiet_nil ?_
  rintro _ ⟨⟨wr, hr⟩, rfl⟩
  clear j0 j1 j2 j3 j4 j5 j6
  go_wp2
  refine bodyPost_ret (results_tmp2 rfl _ _ _) rfl ⟨rfl, Mem.then_ B2.out hr⟩
end Go.Proofs.Ytdeopfpabfaopaa
