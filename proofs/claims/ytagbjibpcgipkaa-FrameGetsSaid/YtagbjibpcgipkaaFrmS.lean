/- The laws of chapter 05: small walks, FramePuts. -/
import Derived.Test.YtagbjibpcgipkaaFrmR
namespace Go.Proofs.Ytagbjibpcgipkaa
open Go.RowKit

namespace Frm
theorem zero_frame : (Try.prog.info? 28).bind (·.zero) = some (.agg #[.int .i64 0, .int .i64 0, .int .i64 0, .int .i64 0, .string ⟨#[]⟩]) := by kernel_rfl
theorem zero_refframe : (Try.prog.info? 23).bind (·.zero) = some (.agg #[.int .i64 0, .int .i64 0, .int .i64 0, .int .i64 0, .string ⟨#[]⟩]) := by kernel_rfl
theorem size_frame : (Try.prog.info? 28).map (·.size) = some 5 := by kernel_rfl
theorem size_refframe : (Try.prog.info? 23).map (·.size) = some 5 := by kernel_rfl
theorem one_cells (k s q a : Int) (b : ByteArray) : (#[Value.int .i64 k, .int .i64 s, .int .i64 q, .int .i64 a, .string b]).all (·.oneCell') = true := by simp [Value.oneCell']
end Frm

set_option maxRecDepth 100000 in
theorem frame_of (f : Frm.F) (w : World) :
    Calls Try.prog 10 #[Frm.val f] w fun e w' => e = .returned (Frm.val f) ∧ Below w.heap.size w w' := by
  obtain ⟨k, s, q, a, b⟩ := f
  unfold Frm.val Frm.cells
  go_enter Try.func10, Try.ntmps10
  go_wp2_with (first
    | (refine Mem.wpList_box (o := ⟨some 1, _, _, _, _, _⟩) rfl 23 _ rfl (.agg #[.int .i64 k, .int .i64 s, .int .i64 q, .int .i64 a, .string (Mem.str b)]) rfl ?_
       intro w1 hn1
       have e0 := hn1.cell1 0 (v := .int .i64 k) rfl
       have e1 := hn1.cell1 1 (v := .int .i64 s) rfl
       have e2 := hn1.cell1 2 (v := .int .i64 q) rfl
       have e3 := hn1.cell1 3 (v := .int .i64 a) rfl
       have e4 := hn1.cell1 4 (v := .string (Mem.str b)) rfl
       have Hn1 := Lib.hid hn1
       clear hn1)
    | (refine Mem.wpList_alloc (o := ⟨some 2, _, _, _, _, _⟩) rfl 28 rfl _ Frm.zero_frame ?_
       intro w2 hn2
       have f0 := Mem.keep hn2.below e0
       have f1 := Mem.keep hn2.below e1
       have f2 := Mem.keep hn2.below e2
       have f3 := Mem.keep hn2.below e3
       have f4 := Mem.keep hn2.below e4
       have Hn2 := Lib.hid hn2
       clear hn2 e0 e1 e2 e3 e4)
    | (refine Mem.wpList_store rfl 28 (.tmp 2) (.tmp 13) rfl _ #[.int .i64 k, .int .i64 s, .int .i64 q, .int .i64 a, .string (Mem.str b)] rfl rfl _ _ Hn2.out.row Frm.size_frame rfl (Frm.one_cells _ _ _ _ _) ?_
       intro w3 hp
       have Hp := Lib.hid hp
       clear hp))
  refine bodyPost_ret (results_cell_row rfl _ _ w1.heap.size _ _ _ _ rfl Hp.out.row Try.underlying28 rfl Frm.size_frame) rfl ⟨rfl, ?_⟩
  exact (Mem.then_ Hn1.out.below Hn2.out.below).trans (Hp.out.below (by have := Hn1.out.size; omega))

set_option maxRecDepth 100000 in
theorem frame_plain (f : Frm.F) (w : World) :
    Calls Try.prog 16 #[Frm.val f] w fun e w' => e = .returned (Frm.val f) ∧ Below w.heap.size w w' := by
  obtain ⟨k, s, q, a, b⟩ := f
  unfold Frm.val Frm.cells
  go_enter Try.func16, Try.ntmps16
  go_wp2_with (first
    | (refine Mem.wpList_box (o := ⟨some 1, _, _, _, _, _⟩) rfl 28 _ rfl (.agg #[.int .i64 k, .int .i64 s, .int .i64 q, .int .i64 a, .string (Mem.str b)]) rfl ?_
       intro w1 hn1
       have e0 := hn1.cell1 0 (v := .int .i64 k) rfl
       have e1 := hn1.cell1 1 (v := .int .i64 s) rfl
       have e2 := hn1.cell1 2 (v := .int .i64 q) rfl
       have e3 := hn1.cell1 3 (v := .int .i64 a) rfl
       have e4 := hn1.cell1 4 (v := .string (Mem.str b)) rfl
       have Hn1 := Lib.hid hn1
       clear hn1)
    | (refine Mem.wpList_alloc (o := ⟨some 2, _, _, _, _, _⟩) rfl 23 rfl _ Frm.zero_refframe ?_
       intro w2 hn2
       have f0 := Mem.keep hn2.below e0
       have f1 := Mem.keep hn2.below e1
       have f2 := Mem.keep hn2.below e2
       have f3 := Mem.keep hn2.below e3
       have f4 := Mem.keep hn2.below e4
       have Hn2 := Lib.hid hn2
       clear hn2 e0 e1 e2 e3 e4)
    | (refine Mem.wpList_store rfl 23 (.tmp 2) (.tmp 13) rfl _ #[.int .i64 k, .int .i64 s, .int .i64 q, .int .i64 a, .string (Mem.str b)] rfl rfl _ _ Hn2.out.row Frm.size_refframe rfl (Frm.one_cells _ _ _ _ _) ?_
       intro w3 hp
       have Hp := Lib.hid hp
       clear hp))
  refine bodyPost_ret (results_cell_row rfl _ _ w1.heap.size _ _ _ _ rfl Hp.out.row Try.underlying23 rfl Frm.size_refframe) rfl ⟨rfl, ?_⟩
  exact (Mem.then_ Hn1.out.below Hn2.out.below).trans (Hp.out.below (by have := Hn1.out.size; omega))

set_option maxRecDepth 100000 in
theorem frame_alive (w : World) :
    Calls Try.prog 8 #[] w fun e w' => e = .returned (.bool true) ∧ Below w.heap.size w w' := by
  go_enter Try.func8, Try.ntmps8
  go_wp2_with (fail)
  obtain ⟨P, hP⟩ : ∃ P, Frm.put ⟨2, (3 : Nat), 0, (5 : Nat), []⟩ = P := ⟨_, rfl⟩
  have hlen : P.length = 9 := by rw [← hP]; simp [Frm.put, Frm.head, Num.put_lt, Crc.four]
  have hfive : P.take 5 = [70, 83, 2, 3, 5] := by rw [← hP]; simp [Frm.put, Frm.head, Num.put_lt, Crc.four]
  have hsz : (Mem.str P).size = 9 := by rw [Mem.str_size, hlen]
  have hex : (Mem.str P).extract 0 5 = ⟨#[70, 83, 2, 3, 5]⟩ := by rw [Num.str_extract, hfive]; rfl
  have HP := Lib.hid hP
  clear hP hlen hfive
  refine (frame_put_two 3 5 (by omega) (by omega) w).mono ?_
  rw [HP.out]
  rintro e w1 ⟨rfl, hb⟩
  have Hb := Lib.hid hb
  clear hb
  go_wp2
  go_ret
  exact ⟨rfl, Hb.out⟩
end Go.Proofs.Ytagbjibpcgipkaa
