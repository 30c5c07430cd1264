/- The methods of an insertion at the document's example. -/
import Derived.Test.YtdeopfpabfaopaaOrdU
namespace Go.Proofs.Ytdeopfpabfaopaa
open Go.RowKit

set_option maxHeartbeats 400000 in
theorem ins_adds (w : World) : Calls Try.prog 35 #[.agg #[], .agg #[.int .i64 1, .int .i64 2, .int .i64 7, .int .i64 1, .int .i64 3, .string ⟨#[97, 98]⟩, .slice none 0 0]] w fun e w' => e = .returned (.int .i64 2) ∧ Below w.heap.size w w' := by
  go_enter Try.func35, Try.ntmps35
  go_wp2_with (
      go_at_call 39
      refine (runes_len_ab _).mono ?_
      rintro e w1 ⟨rfl, hb1⟩)
  go_ret
  exact ⟨rfl, Mem.then_ (((Below.refl _ w).alloc (Nat.le_refl _) _).alloc (by simp) _) hb1⟩

set_option maxHeartbeats 400000 in
theorem ins_may (w : World) : Calls Try.prog 37 #[.agg #[], .agg #[.int .i64 1, .int .i64 2, .int .i64 7, .int .i64 1, .int .i64 3, .string ⟨#[97, 98]⟩, .slice none 0 0], .int .i64 3] w fun e w' => e = .returned (.bool true) ∧ Below w.heap.size w w' := by
  go_enter Try.func37, Try.ntmps37
  have b0 : Below w.heap.size w ((w.alloc (.cells #[] 51)).alloc (.cells #[.int .i64 1, .int .i64 2, .int .i64 7, .int .i64 1, .int .i64 3, .string ⟨#[97, 98]⟩, .slice none 0 0] 26)) := ((Below.refl _ w).alloc (Nat.le_refl _) _).alloc (by simp) _
  have r0 : ((w.alloc (.cells #[] 51)).alloc (.cells #[.int .i64 1, .int .i64 2, .int .i64 7, .int .i64 1, .int .i64 3, .string ⟨#[97, 98]⟩, .slice none 0 0] 26)).heap[w.heap.size + 1]? = some (.cells #[.int .i64 1, .int .i64 2, .int .i64 7, .int .i64 1, .int .i64 3, .string ⟨#[97, 98]⟩, .slice none 0 0] 26 (0, 0)) := by
    have := heap_alloc_new (w.alloc (.cells #[] 51)) (.cells #[.int .i64 1, .int .i64 2, .int .i64 7, .int .i64 1, .int .i64 3, .string ⟨#[97, 98]⟩, .slice none 0 0] 26)
    rw [World.size_alloc] at this
    exact this
  have B0 := Lib.hid b0
  have R0 := Lib.hid r0
  clear b0 r0
  go_wp2_with (first
    | (go_at_call 13
       refine (ops_within 3 0 3 _).mono ?_
       rintro e w2 ⟨rfl, hb2⟩
       have r2 : w2.heap[w.heap.size + 1]? = some (.cells #[.int .i64 1, .int .i64 2, .int .i64 7, .int .i64 1, .int .i64 3, .string ⟨#[97, 98]⟩, .slice none 0 0] 26 (0, 0)) := (hb2.block _ (Array.getElem?_eq_some_iff.1 R0.out).1).trans R0.out
       have c4 := (cell_of_row _ _ 4 _ _ _ r2).trans rfl
       have c5 := (cell_of_row _ _ 5 _ _ _ r2).trans rfl
       have B2 := Lib.hid (Mem.then_ B0.out hb2)
       have R2 := Lib.hid r2
       clear hb2 r2)
    | (go_at_call 40
       refine (ops_may_text _).mono ?_
       rintro e w3 ⟨rfl, hb3⟩
       have r3 : w3.heap[w.heap.size + 1]? = some (.cells #[.int .i64 1, .int .i64 2, .int .i64 7, .int .i64 1, .int .i64 3, .string ⟨#[97, 98]⟩, .slice none 0 0] 26 (0, 0)) := (hb3.block _ (Array.getElem?_eq_some_iff.1 R2.out).1).trans R2.out
       have d5 := (cell_of_row _ _ 5 _ _ _ r3).trans rfl
       have d6 := (cell_of_row _ _ 6 _ _ _ r3).trans rfl
       have B3 := Lib.hid (Mem.then_ B2.out hb3)
       clear hb3 r3)
    | (go_at_call 39
       refine (runes_len_ab _).mono ?_
       rintro e w4 ⟨rfl, hb4⟩))
  go_ret
  exact ⟨rfl, Mem.then_ B3.out hb4⟩

set_option maxHeartbeats 400000 in
theorem ins_may_not (w : World) : Calls Try.prog 37 #[.agg #[], .agg #[.int .i64 1, .int .i64 2, .int .i64 7, .int .i64 1, .int .i64 3, .string ⟨#[97, 98]⟩, .slice none 0 0], .int .i64 2] w fun e w' => e = .returned (.bool false) ∧ Below w.heap.size w w' := by
  go_enter Try.func37, Try.ntmps37
  have b0 : Below w.heap.size w ((w.alloc (.cells #[] 51)).alloc (.cells #[.int .i64 1, .int .i64 2, .int .i64 7, .int .i64 1, .int .i64 3, .string ⟨#[97, 98]⟩, .slice none 0 0] 26)) := ((Below.refl _ w).alloc (Nat.le_refl _) _).alloc (by simp) _
  have B0 := Lib.hid b0
  clear b0
  go_wp2_with (
    go_at_call 13
    refine (ops_within 3 0 2 _).mono ?_
    rintro e w2 ⟨rfl, hb2⟩)
  go_ret
  exact ⟨rfl, Mem.then_ B0.out hb2⟩
end Go.Proofs.Ytdeopfpabfaopaa
