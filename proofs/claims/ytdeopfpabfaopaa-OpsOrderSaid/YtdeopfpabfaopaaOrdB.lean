/- The statement's example. -/
import Derived.Test.YtdeopfpabfaopaaOrdA
import Derived.Test.YtdeopfpabfaopaaTail
namespace Go.Proofs.Ytdeopfpabfaopaa
open Go.RowKit

namespace Ord
theorem zero_op : (Try.prog.info? 26).bind (·.zero) = some (.agg #[.int .i64 0, .int .i64 0, .int .i64 0, .int .i64 0, .int .i64 0, .string ⟨#[]⟩, .slice none 0 0]) := by kernel_rfl
theorem size_op : (Try.prog.info? 26).map (·.size) = some 7 := by kernel_rfl
theorem one_op : (#[.int .i64 1, .int .i64 2, .int .i64 7, .int .i64 1, .int .i64 3, .string ⟨#[97, 98]⟩, .slice none 0 0] : Array Value).all (·.oneCell') = true := by simp [Value.oneCell']
end Ord

set_option maxHeartbeats 2000000 in
theorem alive_true (w : World) : Calls Try.prog 4 #[] w fun e w' => e = .returned (.bool true) ∧ Below w.heap.size w w' := by
  go_enter Try.func4, Try.ntmps4
  go_wp2_with (first
    | (with_reducible refine Mem.wpList_alloc (o := ⟨some 1, _, _, _, _, _⟩) ?_ 26 ?_ _ Ord.zero_op ?_
       · rfl
       · rfl
       intro v0 hn0
       have HN := Lib.hid hn0
       have HR := Lib.hid hn0.row
       clear hn0)
    | (refine Mem.wpList_store rfl 26 (.tmp 1) (.tmp 5) rfl w.heap.size #[.int .i64 1, .int .i64 2, .int .i64 7, .int .i64 1, .int .i64 3, .string ⟨#[97, 98]⟩, .slice none 0 0] rfl rfl 26 _ HR.out Ord.size_op rfl Ord.one_op ?_
       intro v1 hp1
       have r1 := hp1.row
       have c10 := (cell_of_row _ _ 0 _ _ _ r1).trans rfl
       have c11 := (cell_of_row _ _ 1 _ _ _ r1).trans rfl
       have c12 := (cell_of_row _ _ 2 _ _ _ r1).trans rfl
       have c13 := (cell_of_row _ _ 3 _ _ _ r1).trans rfl
       have c14 := (cell_of_row _ _ 4 _ _ _ r1).trans rfl
       have c15 := (cell_of_row _ _ 5 _ _ _ r1).trans rfl
       have c16 := (cell_of_row _ _ 6 _ _ _ r1).trans rfl
       have R1 := Lib.hid r1
       have B1 := Lib.hid (HN.out.below.trans (hp1.below (Nat.le_refl _)))
       clear hp1 r1)
    | (go_at_call 6
       with_reducible refine (ops_put _).mono ?_
       rintro e v2 ⟨rfl, hb2⟩
       have r2 := (hb2.block _ (Array.getElem?_eq_some_iff.1 R1.out).1).trans R1.out
       have c20 := (cell_of_row _ _ 0 _ _ _ r2).trans rfl
       have c21 := (cell_of_row _ _ 1 _ _ _ r2).trans rfl
       have c22 := (cell_of_row _ _ 2 _ _ _ r2).trans rfl
       have c23 := (cell_of_row _ _ 3 _ _ _ r2).trans rfl
       have c24 := (cell_of_row _ _ 4 _ _ _ r2).trans rfl
       have c25 := (cell_of_row _ _ 5 _ _ _ r2).trans rfl
       have c26 := (cell_of_row _ _ 6 _ _ _ r2).trans rfl
       have R2 := Lib.hid r2
       have B2 := Lib.hid (Mem.then_ B1.out hb2)
       clear hb2 r2)
    | (go_at_call 7
       with_reducible refine (ops_adds _).mono ?_
       rintro e v3 ⟨rfl, hb3⟩
       have r3 := (hb3.block _ (Array.getElem?_eq_some_iff.1 R2.out).1).trans R2.out
       have c30 := (cell_of_row _ _ 0 _ _ _ r3).trans rfl
       have c31 := (cell_of_row _ _ 1 _ _ _ r3).trans rfl
       have c32 := (cell_of_row _ _ 2 _ _ _ r3).trans rfl
       have c33 := (cell_of_row _ _ 3 _ _ _ r3).trans rfl
       have c34 := (cell_of_row _ _ 4 _ _ _ r3).trans rfl
       have c35 := (cell_of_row _ _ 5 _ _ _ r3).trans rfl
       have c36 := (cell_of_row _ _ 6 _ _ _ r3).trans rfl
       have R3 := Lib.hid r3
       have B3 := Lib.hid (Mem.then_ B2.out hb3)
       clear hb3 r3)
    | (go_at_call 8
       with_reducible refine (ops_may_yes _).mono ?_
       rintro e v4 ⟨rfl, hb4⟩
       have r4 := (hb4.block _ (Array.getElem?_eq_some_iff.1 R3.out).1).trans R3.out
       have c40 := (cell_of_row _ _ 0 _ _ _ r4).trans rfl
       have c41 := (cell_of_row _ _ 1 _ _ _ r4).trans rfl
       have c42 := (cell_of_row _ _ 2 _ _ _ r4).trans rfl
       have c43 := (cell_of_row _ _ 3 _ _ _ r4).trans rfl
       have c44 := (cell_of_row _ _ 4 _ _ _ r4).trans rfl
       have c45 := (cell_of_row _ _ 5 _ _ _ r4).trans rfl
       have c46 := (cell_of_row _ _ 6 _ _ _ r4).trans rfl
       have R4 := Lib.hid r4
       have B4 := Lib.hid (Mem.then_ B3.out hb4)
       clear hb4 r4)
    | (go_at_call 8
       with_reducible refine (ops_may_no _).mono ?_
       rintro e v5 ⟨rfl, hb5⟩
       have r5 := (hb5.block _ (Array.getElem?_eq_some_iff.1 R4.out).1).trans R4.out
       have c50 := (cell_of_row _ _ 0 _ _ _ r5).trans rfl
       have c51 := (cell_of_row _ _ 1 _ _ _ r5).trans rfl
       have c52 := (cell_of_row _ _ 2 _ _ _ r5).trans rfl
       have c53 := (cell_of_row _ _ 3 _ _ _ r5).trans rfl
       have c54 := (cell_of_row _ _ 4 _ _ _ r5).trans rfl
       have c55 := (cell_of_row _ _ 5 _ _ _ r5).trans rfl
       have c56 := (cell_of_row _ _ 6 _ _ _ r5).trans rfl
       have R5 := Lib.hid r5
       have B5 := Lib.hid (Mem.then_ B4.out hb5)
       clear hb5 r5)
    )
  go_ret
  exact ⟨rfl, B5.out⟩
end Go.Proofs.Ytdeopfpabfaopaa
