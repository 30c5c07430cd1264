/- The walks of the reference of pace: hearing; the comparison bit by bit. -/
import Derived.Test.YtgkadhogfejheaaZPacW
import Derived.Test.YtgkadhogfejheaaQM
set_option linter.unusedVariables false
set_option linter.unusedSimpArgs false
namespace Go.Proofs.Ytgkadhogfejheaa
open Go.RowKit

namespace Pac
abbrev neg (x : Nat) : Nat := Op.negFloat .f64 x
theorem run_neg (x : Nat) (w : World) : (Op.unary .neg (.float .f64 x)).run Try.prog w = .ok (.float .f64 (neg x)) w := by simp [Op.unary]
/-- what the reference takes for the way: without its sign if it is below 0 -/
def far' (far : Nat) : Nat := if ord far 0 == some .lt then neg far else far
end Pac

set_option maxRecDepth 100000 in
set_option maxHeartbeats 1000000 in
theorem ref_heard_bad (m d t : Nat) (s : Bool) (hmay : Pac.may m d s = false) (w : World) :
    Calls Try.prog 39 #[.agg #[.float .f64 m, .float .f64 d, .bool s], .float .f64 t] w fun e w' =>
      e = .returned (.agg #[.float .f64 0, .float .f64 0, .bool false]) ∧ Below w.heap.size w w' := by
  have HM := Lib.hid hmay
  clear hmay
  go_enter Try.func39, Try.ntmps39
  go_wp2_with (first
    | (refine Mem.wpList_box (o := ⟨some 2, _, _, _, _, _⟩) rfl 50 _ rfl (.agg #[.float .f64 m, .float .f64 d, .bool s]) rfl ?_
       intro w1 hn1
       have e0 := hn1.cell1 0 (v := .float .f64 m) rfl
       have e1 := hn1.cell1 1 (v := .float .f64 d) rfl
       have e2 := hn1.cell1 2 (v := .bool s) rfl
       have Hn1 := Lib.hid hn1
       clear hn1)
    | (refine Mem.wpList_alloc (o := ⟨some 4, _, _, _, _, _⟩) rfl 50 rfl _ Pac.zero_ref ?_
       intro w2 hn2
       have f0 := Mem.keep hn2.below e0
       have f1 := Mem.keep hn2.below e1
       have f2 := Mem.keep hn2.below e2
       have Hn2 := Lib.hid hn2
       clear hn2 e0 e1 e2)
    | (go_at_call 50
       refine (ref_may m d s _).mono ?_
       rw [HM.out]
       rintro e w3 ⟨rfl, hb3⟩
       have Hb3 := Lib.hid hb3
       have Hres := Lib.hid ((Hb3.out.block w1.heap.size (by have := Hn2.out.size; omega)).trans Hn2.out.row)
       clear hb3 f0 f1 f2)
    | (refine Mem.wpList_store rfl 50 (.tmp 4) (.tmp 9) rfl _ #[.float .f64 0, .float .f64 0, .bool false] rfl rfl _ _ Hres.out Pac.size_ref rfl (Pac.one_pace _ _ _) ?_
       intro w7 hp7
       have Hp7 := Lib.hid hp7
       clear hp7))
  exact bodyPost_ret (results_cell_row rfl _ _ w1.heap.size _ _ _ _ rfl Hp7.out.row Try.underlying50 rfl Pac.size_ref) rfl ⟨rfl, (Mem.then_ (Mem.then_ Hn1.out.below Hn2.out.below) Hb3.out).trans (Hp7.out.below (by have := Hn1.out.size; omega))⟩

set_option maxRecDepth 100000 in
set_option maxHeartbeats 600000 in
theorem ref_heard_not (m d t : Nat) (s : Bool) (hmay : Pac.may m d s = true) (hcnt : Pac.cnt t = false) (w : World) :
    Calls Try.prog 39 #[.agg #[.float .f64 m, .float .f64 d, .bool s], .float .f64 t] w fun e w' =>
      e = .returned (.agg #[.float .f64 (Pac.plain m), .float .f64 (Pac.plain d), .bool s]) ∧ Below w.heap.size w w' := by
  have HM := Lib.hid hmay
  have HC := Lib.hid hcnt
  have hst := Pac.run_store_float
  clear hmay hcnt
  go_enter Try.func39, Try.ntmps39
  go_wp2_with (first
    | (refine Mem.wpList_box (o := ⟨some 2, _, _, _, _, _⟩) rfl 50 _ rfl (.agg #[.float .f64 m, .float .f64 d, .bool s]) rfl ?_
       intro w1 hn1
       have e0 := hn1.cell1 0 (v := .float .f64 m) rfl
       have e1 := hn1.cell1 1 (v := .float .f64 d) rfl
       have e2 := hn1.cell1 2 (v := .bool s) rfl
       have Hn1 := Lib.hid hn1
       clear hn1)
    | (refine Mem.wpList_alloc (o := ⟨some 4, _, _, _, _, _⟩) rfl 50 rfl _ Pac.zero_ref ?_
       intro w2 hn2
       have f0 := Mem.keep hn2.below e0
       have f1 := Mem.keep hn2.below e1
       have f2 := Mem.keep hn2.below e2
       have Hn2 := Lib.hid hn2
       clear hn2 e0 e1 e2)
    | (go_at_call 50
       refine (ref_may m d s _).mono ?_
       rw [HM.out]
       rintro e w3 ⟨rfl, hb3⟩
       have Hb3 := Lib.hid hb3
       have hrow := ((Hb3.out.block w.heap.size (by have := Hn1.out.size; have := Hn2.out.size; omega)).trans ((Hn2.out.old (by have := Hn1.out.size; omega)).trans Hn1.out.row))
       have g0 : w3.cell? ⟨w.heap.size, 0, none⟩ = some (.float .f64 m) := (cell_of_row _ _ 0 _ _ _ hrow).trans rfl
       have g1 : w3.cell? ⟨w.heap.size, 1, none⟩ = some (.float .f64 d) := (cell_of_row _ _ 1 _ _ _ hrow).trans rfl
       have g2 : w3.cell? ⟨w.heap.size, 2, none⟩ = some (.bool s) := (cell_of_row _ _ 2 _ _ _ hrow).trans rfl
       have z0 : w3.frozen? ⟨w.heap.size, 0, none⟩ = false := frozen_of_row _ _ _ _ _ hrow
       have z1 : w3.frozen? ⟨w.heap.size, 1, none⟩ = false := frozen_of_row _ _ _ _ _ hrow
       have z2 : w3.frozen? ⟨w.heap.size, 2, none⟩ = false := frozen_of_row _ _ _ _ _ hrow
       have Hrow := Lib.hid hrow
       have Hres := Lib.hid ((Hb3.out.block w1.heap.size (by have := Hn2.out.size; omega)).trans Hn2.out.row)
       have Hne := Lib.hid (show w1.heap.size ≠ w.heap.size by have := Hn1.out.size; omega)
       clear hb3 f0 f1 f2 hrow)
    | (go_at_call 59
       with_reducible refine (ref_counts t _).mono ?_
       rw [HC.out]
       rintro e w5 ⟨rfl, rfl⟩)
    | (go_at_call 61
       with_reducible refine (ref_plain m _).mono ?_
       rintro e w5 ⟨rfl, rfl⟩)
    | (go_at_call 61
       with_reducible refine (ref_plain d _).mono ?_
       rintro e w5 ⟨rfl, rfl⟩
       have Hres2 := Lib.hid (show ((w3.setCell ⟨w.heap.size, 0, none⟩ (.float .f64 (Pac.plain m))).setCell ⟨w.heap.size, 1, none⟩ (.float .f64 (Pac.plain d))).heap[w1.heap.size]? = some (.cells #[.float .f64 0, .float .f64 0, .bool false] 50 (0, 0)) from (heap_setCell_other _ _ _ _ Hne.out).trans ((heap_setCell_other _ _ _ _ Hne.out).trans (Hres.out))))
    | (refine Mem.wpList_store rfl 50 (.tmp 4) (.tmp 51) rfl _ #[.float .f64 (Pac.plain m), .float .f64 (Pac.plain d), .bool s] rfl rfl _ _ Hres2.out Pac.size_ref rfl (Pac.one_pace _ _ _) ?_
       intro w7 hp7
       have Hp7 := Lib.hid hp7
       clear hp7))
  have b3 := (Mem.then_ (Mem.then_ Hn1.out.below Hn2.out.below) Hb3.out)
  have hle := Nat.le_refl w.heap.size
  exact bodyPost_ret (results_cell_row rfl _ _ w1.heap.size _ _ _ _ rfl Hp7.out.row Try.underlying50 rfl Pac.size_ref) rfl ⟨rfl, (((b3).setCell hle _).setCell hle _).trans (Hp7.out.below (by have := Hn1.out.size; omega))⟩

set_option maxRecDepth 100000 in
set_option maxHeartbeats 1000000 in
theorem ref_heard_first (m d t h : Nat) (hmay : Pac.may m d false = true) (hcnt : Pac.cnt t = true) (hq : floatBits .quo .f64 t 4611686018427387904 = some h) (w : World) :
    Calls Try.prog 39 #[.agg #[.float .f64 m, .float .f64 d, .bool false], .float .f64 t] w fun e w' =>
      e = .returned (.agg #[.float .f64 (Pac.plain t), .float .f64 (Pac.plain h), .bool true]) ∧ Below w.heap.size w w' := by
  have HM := Lib.hid hmay
  have HC := Lib.hid hcnt
  have hquo := fun w => run_float_arith (P := Try.prog) w .quo 48 .f64 t 4611686018427387904 h hq
  clear hq
  clear hmay hcnt
  go_enter Try.func39, Try.ntmps39
  go_wp2_with (first
    | (refine Mem.wpList_box (o := ⟨some 2, _, _, _, _, _⟩) rfl 50 _ rfl (.agg #[.float .f64 m, .float .f64 d, .bool false]) rfl ?_
       intro w1 hn1
       have e0 := hn1.cell1 0 (v := .float .f64 m) rfl
       have e1 := hn1.cell1 1 (v := .float .f64 d) rfl
       have e2 := hn1.cell1 2 (v := .bool false) rfl
       have Hn1 := Lib.hid hn1
       clear hn1)
    | (refine Mem.wpList_alloc (o := ⟨some 4, _, _, _, _, _⟩) rfl 50 rfl _ Pac.zero_ref ?_
       intro w2 hn2
       have f0 := Mem.keep hn2.below e0
       have f1 := Mem.keep hn2.below e1
       have f2 := Mem.keep hn2.below e2
       have Hn2 := Lib.hid hn2
       clear hn2 e0 e1 e2)
    | (go_at_call 50
       refine (ref_may m d false _).mono ?_
       rw [HM.out]
       rintro e w3 ⟨rfl, hb3⟩
       have Hb3 := Lib.hid hb3
       have hrow := ((Hb3.out.block w.heap.size (by have := Hn1.out.size; have := Hn2.out.size; omega)).trans ((Hn2.out.old (by have := Hn1.out.size; omega)).trans Hn1.out.row))
       have c0_0 : w3.cell? ⟨w.heap.size, 0, none⟩ = some (.float .f64 m) := (cell_of_row _ _ 0 _ _ _ hrow).trans rfl
       have c0_1 : w3.cell? ⟨w.heap.size, 1, none⟩ = some (.float .f64 d) := (cell_of_row _ _ 1 _ _ _ hrow).trans rfl
       have c0_2 : w3.cell? ⟨w.heap.size, 2, none⟩ = some (.bool false) := (cell_of_row _ _ 2 _ _ _ hrow).trans rfl
       have Hrow0 := Lib.hid hrow
       have Hne := Lib.hid (show w1.heap.size ≠ w.heap.size by have := Hn1.out.size; omega)
       have Hres0 := Lib.hid ((Hb3.out.block w1.heap.size (by have := Hn2.out.size; omega)).trans Hn2.out.row)
       have Hbel0 := Lib.hid (Mem.then_ (Mem.then_ Hn1.out.below Hn2.out.below) Hb3.out)
       clear hb3 f0 f1 f2 hrow)
    | (go_at_call 59
       with_reducible refine (ref_counts t _).mono ?_
       rw [HC.out]
       rintro e w5 ⟨rfl, rfl⟩)
    | (go_at_call 61
       with_reducible refine (ref_plain t _).mono ?_
       rintro e w5 ⟨rfl, rfl⟩)
    | (go_at_call 61
       with_reducible refine (ref_plain h _).mono ?_
       rintro e w5 ⟨rfl, rfl⟩)
    | (refine Mem.wpList_store_cell rfl 48 (.tmp 18) (.tmp 17) rfl w.heap.size 0 rfl (.float .f64 t) rfl (by simp [Value.oneCell']) (by kernel_rfl) _ _ Hrow0.out (show 0 + 1 ≤ 3 by omega) #[.float .f64 t, .float .f64 d, .bool false] rfl ?_
       intro v1 hp
       have c1_0 := Mem.put_cell1 hp 0 (v := .float .f64 t) rfl
       have c1_1 := Mem.put_cell1 hp 1 (v := .float .f64 d) rfl
       have c1_2 := Mem.put_cell1 hp 2 (v := .bool false) rfl
       have Hrow1 := Lib.hid hp.row
       have Hres1 := Lib.hid ((hp.other w1.heap.size Hne.out).trans Hres0.out)
       have Hbel1 := Lib.hid (Hbel0.out.trans (hp.below (Nat.le_refl _)))
       clear hp c0_0 c0_1 c0_2)
    | (refine Mem.wpList_store_cell rfl 48 (.tmp 21) (.tmp 20) rfl w.heap.size 1 rfl (.float .f64 h) rfl (by simp [Value.oneCell']) (by kernel_rfl) _ _ Hrow1.out (show 1 + 1 ≤ 3 by omega) #[.float .f64 t, .float .f64 h, .bool false] rfl ?_
       intro v2 hp
       have c2_0 := Mem.put_cell1 hp 0 (v := .float .f64 t) rfl
       have c2_1 := Mem.put_cell1 hp 1 (v := .float .f64 h) rfl
       have c2_2 := Mem.put_cell1 hp 2 (v := .bool false) rfl
       have Hrow2 := Lib.hid hp.row
       have Hres2 := Lib.hid ((hp.other w1.heap.size Hne.out).trans Hres1.out)
       have Hbel2 := Lib.hid (Hbel1.out.trans (hp.below (Nat.le_refl _)))
       clear hp c1_0 c1_1 c1_2)
    | (refine Mem.wpList_store_cell rfl 4 (.tmp 22) _ rfl w.heap.size 2 rfl (.bool true) rfl (by simp [Value.oneCell']) (by kernel_rfl) _ _ Hrow2.out (show 2 + 1 ≤ 3 by omega) #[.float .f64 t, .float .f64 h, .bool true] rfl ?_
       intro v3 hp
       have c3_0 := Mem.put_cell1 hp 0 (v := .float .f64 t) rfl
       have c3_1 := Mem.put_cell1 hp 1 (v := .float .f64 h) rfl
       have c3_2 := Mem.put_cell1 hp 2 (v := .bool true) rfl
       have Hrow3 := Lib.hid hp.row
       have Hres3 := Lib.hid ((hp.other w1.heap.size Hne.out).trans Hres2.out)
       have Hbel3 := Lib.hid (Hbel2.out.trans (hp.below (Nat.le_refl _)))
       clear hp c2_0 c2_1 c2_2)
    | (refine Mem.wpList_store_cell rfl 48 (.tmp 46) (.tmp 45) rfl w.heap.size 0 rfl (.float .f64 (Pac.plain t)) rfl (by simp [Value.oneCell']) (by kernel_rfl) _ _ Hrow3.out (show 0 + 1 ≤ 3 by omega) #[.float .f64 (Pac.plain t), .float .f64 h, .bool true] rfl ?_
       intro v4 hp
       have c4_0 := Mem.put_cell1 hp 0 (v := .float .f64 (Pac.plain t)) rfl
       have c4_1 := Mem.put_cell1 hp 1 (v := .float .f64 h) rfl
       have c4_2 := Mem.put_cell1 hp 2 (v := .bool true) rfl
       have Hrow4 := Lib.hid hp.row
       have Hres4 := Lib.hid ((hp.other w1.heap.size Hne.out).trans Hres3.out)
       have Hbel4 := Lib.hid (Hbel3.out.trans (hp.below (Nat.le_refl _)))
       clear hp c3_0 c3_1 c3_2)
    | (refine Mem.wpList_store_cell rfl 48 (.tmp 50) (.tmp 49) rfl w.heap.size 1 rfl (.float .f64 (Pac.plain h)) rfl (by simp [Value.oneCell']) (by kernel_rfl) _ _ Hrow4.out (show 1 + 1 ≤ 3 by omega) #[.float .f64 (Pac.plain t), .float .f64 (Pac.plain h), .bool true] rfl ?_
       intro v5 hp
       have c5_0 := Mem.put_cell1 hp 0 (v := .float .f64 (Pac.plain t)) rfl
       have c5_1 := Mem.put_cell1 hp 1 (v := .float .f64 (Pac.plain h)) rfl
       have c5_2 := Mem.put_cell1 hp 2 (v := .bool true) rfl
       have Hrow5 := Lib.hid hp.row
       have Hres5 := Lib.hid ((hp.other w1.heap.size Hne.out).trans Hres4.out)
       have Hbel5 := Lib.hid (Hbel4.out.trans (hp.below (Nat.le_refl _)))
       clear hp c4_0 c4_1 c4_2)
    | (refine Mem.wpList_store rfl 50 (.tmp 4) (.tmp 51) rfl _ #[.float .f64 (Pac.plain t), .float .f64 (Pac.plain h), .bool true] rfl rfl _ _ Hres5.out Pac.size_ref rfl (Pac.one_pace _ _ _) ?_
       intro w7 hp7
       have Hp7 := Lib.hid hp7
       clear hp7))
  exact bodyPost_ret (results_cell_row rfl _ _ w1.heap.size _ _ _ _ rfl Hp7.out.row Try.underlying50 rfl Pac.size_ref) rfl ⟨rfl, Hbel5.out.trans (Hp7.out.below (by have := Hn1.out.size; omega))⟩

set_option maxRecDepth 100000 in
set_option maxHeartbeats 1000000 in
theorem ref_heard_some_true (m d t far D M : Nat) (hmay : Pac.may m d true = true) (hcnt : Pac.cnt t = true) (hfar : floatBits .sub .f64 t m = some far) (hlt : (FloatKind.f64.format.order far 0 == some .lt) = true) (hD : Pac.blend d (Pac.neg far) 4598175219545276416 = some D) (hM : Pac.blend m t 4593671619917905920 = some M) (w : World) :
    Calls Try.prog 39 #[.agg #[.float .f64 m, .float .f64 d, .bool true], .float .f64 t] w fun e w' =>
      e = .returned (.agg #[.float .f64 (Pac.plain M), .float .f64 (Pac.plain D), .bool true]) ∧ Below w.heap.size w w' := by
  have HM := Lib.hid hmay
  have HC := Lib.hid hcnt
  have hsub := fun w => run_float_arith (P := Try.prog) w .sub 48 .f64 t m far hfar
  have hng := Pac.run_neg
  have HD := Lib.hid hD
  have HMM := Lib.hid hM
  clear hfar hD hM
  clear hmay hcnt
  go_enter Try.func39, Try.ntmps39
  go_wp2_with (first
    | (refine Mem.wpList_box (o := ⟨some 2, _, _, _, _, _⟩) rfl 50 _ rfl (.agg #[.float .f64 m, .float .f64 d, .bool true]) rfl ?_
       intro w1 hn1
       have e0 := hn1.cell1 0 (v := .float .f64 m) rfl
       have e1 := hn1.cell1 1 (v := .float .f64 d) rfl
       have e2 := hn1.cell1 2 (v := .bool true) rfl
       have Hn1 := Lib.hid hn1
       clear hn1)
    | (refine Mem.wpList_alloc (o := ⟨some 4, _, _, _, _, _⟩) rfl 50 rfl _ Pac.zero_ref ?_
       intro w2 hn2
       have f0 := Mem.keep hn2.below e0
       have f1 := Mem.keep hn2.below e1
       have f2 := Mem.keep hn2.below e2
       have Hn2 := Lib.hid hn2
       clear hn2 e0 e1 e2)
    | (go_at_call 50
       refine (ref_may m d true _).mono ?_
       rw [HM.out]
       rintro e w3 ⟨rfl, hb3⟩
       have Hb3 := Lib.hid hb3
       have hrow := ((Hb3.out.block w.heap.size (by have := Hn1.out.size; have := Hn2.out.size; omega)).trans ((Hn2.out.old (by have := Hn1.out.size; omega)).trans Hn1.out.row))
       have c0_0 : w3.cell? ⟨w.heap.size, 0, none⟩ = some (.float .f64 m) := (cell_of_row _ _ 0 _ _ _ hrow).trans rfl
       have c0_1 : w3.cell? ⟨w.heap.size, 1, none⟩ = some (.float .f64 d) := (cell_of_row _ _ 1 _ _ _ hrow).trans rfl
       have c0_2 : w3.cell? ⟨w.heap.size, 2, none⟩ = some (.bool true) := (cell_of_row _ _ 2 _ _ _ hrow).trans rfl
       have Hrow0 := Lib.hid hrow
       have Hne := Lib.hid (show w1.heap.size ≠ w.heap.size by have := Hn1.out.size; omega)
       have Hres0 := Lib.hid ((Hb3.out.block w1.heap.size (by have := Hn2.out.size; omega)).trans Hn2.out.row)
       have Hbel0 := Lib.hid (Mem.then_ (Mem.then_ Hn1.out.below Hn2.out.below) Hb3.out)
       clear hb3 f0 f1 f2 hrow)
    | (go_at_call 59
       with_reducible refine (ref_counts t _).mono ?_
       rw [HC.out]
       rintro e w5 ⟨rfl, rfl⟩)
    | (go_at_call 60
       with_reducible refine (ref_blend d (Pac.neg far) _ D HD.out _).mono ?_
       rintro e w5 ⟨rfl, rfl⟩)
    | (go_at_call 60
       with_reducible refine (ref_blend m t _ M HMM.out _).mono ?_
       rintro e w5 ⟨rfl, rfl⟩)
    | (go_at_call 61
       with_reducible refine (ref_plain M _).mono ?_
       rintro e w5 ⟨rfl, rfl⟩)
    | (go_at_call 61
       with_reducible refine (ref_plain D _).mono ?_
       rintro e w5 ⟨rfl, rfl⟩)
    | (refine Mem.wpList_store_cell rfl 48 (.tmp 37) (.tmp 36) rfl w.heap.size 1 rfl (.float .f64 D) rfl (by simp [Value.oneCell']) (by kernel_rfl) _ _ Hrow0.out (show 1 + 1 ≤ 3 by omega) #[.float .f64 m, .float .f64 D, .bool true] rfl ?_
       intro v1 hp
       have c1_0 := Mem.put_cell1 hp 0 (v := .float .f64 m) rfl
       have c1_1 := Mem.put_cell1 hp 1 (v := .float .f64 D) rfl
       have c1_2 := Mem.put_cell1 hp 2 (v := .bool true) rfl
       have Hrow1 := Lib.hid hp.row
       have Hres1 := Lib.hid ((hp.other w1.heap.size Hne.out).trans Hres0.out)
       have Hbel1 := Lib.hid (Hbel0.out.trans (hp.below (Nat.le_refl _)))
       clear hp c0_0 c0_1 c0_2)
    | (refine Mem.wpList_store_cell rfl 48 (.tmp 42) (.tmp 41) rfl w.heap.size 0 rfl (.float .f64 M) rfl (by simp [Value.oneCell']) (by kernel_rfl) _ _ Hrow1.out (show 0 + 1 ≤ 3 by omega) #[.float .f64 M, .float .f64 D, .bool true] rfl ?_
       intro v2 hp
       have c2_0 := Mem.put_cell1 hp 0 (v := .float .f64 M) rfl
       have c2_1 := Mem.put_cell1 hp 1 (v := .float .f64 D) rfl
       have c2_2 := Mem.put_cell1 hp 2 (v := .bool true) rfl
       have Hrow2 := Lib.hid hp.row
       have Hres2 := Lib.hid ((hp.other w1.heap.size Hne.out).trans Hres1.out)
       have Hbel2 := Lib.hid (Hbel1.out.trans (hp.below (Nat.le_refl _)))
       clear hp c1_0 c1_1 c1_2)
    | (refine Mem.wpList_store_cell rfl 48 (.tmp 46) (.tmp 45) rfl w.heap.size 0 rfl (.float .f64 (Pac.plain M)) rfl (by simp [Value.oneCell']) (by kernel_rfl) _ _ Hrow2.out (show 0 + 1 ≤ 3 by omega) #[.float .f64 (Pac.plain M), .float .f64 D, .bool true] rfl ?_
       intro v3 hp
       have c3_0 := Mem.put_cell1 hp 0 (v := .float .f64 (Pac.plain M)) rfl
       have c3_1 := Mem.put_cell1 hp 1 (v := .float .f64 D) rfl
       have c3_2 := Mem.put_cell1 hp 2 (v := .bool true) rfl
       have Hrow3 := Lib.hid hp.row
       have Hres3 := Lib.hid ((hp.other w1.heap.size Hne.out).trans Hres2.out)
       have Hbel3 := Lib.hid (Hbel2.out.trans (hp.below (Nat.le_refl _)))
       clear hp c2_0 c2_1 c2_2)
    | (refine Mem.wpList_store_cell rfl 48 (.tmp 50) (.tmp 49) rfl w.heap.size 1 rfl (.float .f64 (Pac.plain D)) rfl (by simp [Value.oneCell']) (by kernel_rfl) _ _ Hrow3.out (show 1 + 1 ≤ 3 by omega) #[.float .f64 (Pac.plain M), .float .f64 (Pac.plain D), .bool true] rfl ?_
       intro v4 hp
       have c4_0 := Mem.put_cell1 hp 0 (v := .float .f64 (Pac.plain M)) rfl
       have c4_1 := Mem.put_cell1 hp 1 (v := .float .f64 (Pac.plain D)) rfl
       have c4_2 := Mem.put_cell1 hp 2 (v := .bool true) rfl
       have Hrow4 := Lib.hid hp.row
       have Hres4 := Lib.hid ((hp.other w1.heap.size Hne.out).trans Hres3.out)
       have Hbel4 := Lib.hid (Hbel3.out.trans (hp.below (Nat.le_refl _)))
       clear hp c3_0 c3_1 c3_2)
    | (refine Mem.wpList_store rfl 50 (.tmp 4) (.tmp 51) rfl _ #[.float .f64 (Pac.plain M), .float .f64 (Pac.plain D), .bool true] rfl rfl _ _ Hres4.out Pac.size_ref rfl (Pac.one_pace _ _ _) ?_
       intro w7 hp7
       have Hp7 := Lib.hid hp7
       clear hp7))
  exact bodyPost_ret (results_cell_row rfl _ _ w1.heap.size _ _ _ _ rfl Hp7.out.row Try.underlying50 rfl Pac.size_ref) rfl ⟨rfl, Hbel4.out.trans (Hp7.out.below (by have := Hn1.out.size; omega))⟩

set_option maxRecDepth 100000 in
set_option maxHeartbeats 1000000 in
theorem ref_heard_some_false (m d t far D M : Nat) (hmay : Pac.may m d true = true) (hcnt : Pac.cnt t = true) (hfar : floatBits .sub .f64 t m = some far) (hlt : (FloatKind.f64.format.order far 0 == some .lt) = false) (hD : Pac.blend d (far) 4598175219545276416 = some D) (hM : Pac.blend m t 4593671619917905920 = some M) (w : World) :
    Calls Try.prog 39 #[.agg #[.float .f64 m, .float .f64 d, .bool true], .float .f64 t] w fun e w' =>
      e = .returned (.agg #[.float .f64 (Pac.plain M), .float .f64 (Pac.plain D), .bool true]) ∧ Below w.heap.size w w' := by
  have HM := Lib.hid hmay
  have HC := Lib.hid hcnt
  have hsub := fun w => run_float_arith (P := Try.prog) w .sub 48 .f64 t m far hfar
  have HD := Lib.hid hD
  have HMM := Lib.hid hM
  clear hfar hD hM
  clear hmay hcnt
  go_enter Try.func39, Try.ntmps39
  go_wp2_with (first
    | (refine Mem.wpList_box (o := ⟨some 2, _, _, _, _, _⟩) rfl 50 _ rfl (.agg #[.float .f64 m, .float .f64 d, .bool true]) rfl ?_
       intro w1 hn1
       have e0 := hn1.cell1 0 (v := .float .f64 m) rfl
       have e1 := hn1.cell1 1 (v := .float .f64 d) rfl
       have e2 := hn1.cell1 2 (v := .bool true) rfl
       have Hn1 := Lib.hid hn1
       clear hn1)
    | (refine Mem.wpList_alloc (o := ⟨some 4, _, _, _, _, _⟩) rfl 50 rfl _ Pac.zero_ref ?_
       intro w2 hn2
       have f0 := Mem.keep hn2.below e0
       have f1 := Mem.keep hn2.below e1
       have f2 := Mem.keep hn2.below e2
       have Hn2 := Lib.hid hn2
       clear hn2 e0 e1 e2)
    | (go_at_call 50
       refine (ref_may m d true _).mono ?_
       rw [HM.out]
       rintro e w3 ⟨rfl, hb3⟩
       have Hb3 := Lib.hid hb3
       have hrow := ((Hb3.out.block w.heap.size (by have := Hn1.out.size; have := Hn2.out.size; omega)).trans ((Hn2.out.old (by have := Hn1.out.size; omega)).trans Hn1.out.row))
       have c0_0 : w3.cell? ⟨w.heap.size, 0, none⟩ = some (.float .f64 m) := (cell_of_row _ _ 0 _ _ _ hrow).trans rfl
       have c0_1 : w3.cell? ⟨w.heap.size, 1, none⟩ = some (.float .f64 d) := (cell_of_row _ _ 1 _ _ _ hrow).trans rfl
       have c0_2 : w3.cell? ⟨w.heap.size, 2, none⟩ = some (.bool true) := (cell_of_row _ _ 2 _ _ _ hrow).trans rfl
       have Hrow0 := Lib.hid hrow
       have Hne := Lib.hid (show w1.heap.size ≠ w.heap.size by have := Hn1.out.size; omega)
       have Hres0 := Lib.hid ((Hb3.out.block w1.heap.size (by have := Hn2.out.size; omega)).trans Hn2.out.row)
       have Hbel0 := Lib.hid (Mem.then_ (Mem.then_ Hn1.out.below Hn2.out.below) Hb3.out)
       clear hb3 f0 f1 f2 hrow)
    | (go_at_call 59
       with_reducible refine (ref_counts t _).mono ?_
       rw [HC.out]
       rintro e w5 ⟨rfl, rfl⟩)
    | (go_at_call 60
       with_reducible refine (ref_blend d (far) _ D HD.out _).mono ?_
       rintro e w5 ⟨rfl, rfl⟩)
    | (go_at_call 60
       with_reducible refine (ref_blend m t _ M HMM.out _).mono ?_
       rintro e w5 ⟨rfl, rfl⟩)
    | (go_at_call 61
       with_reducible refine (ref_plain M _).mono ?_
       rintro e w5 ⟨rfl, rfl⟩)
    | (go_at_call 61
       with_reducible refine (ref_plain D _).mono ?_
       rintro e w5 ⟨rfl, rfl⟩)
    | (refine Mem.wpList_store_cell rfl 48 (.tmp 37) (.tmp 36) rfl w.heap.size 1 rfl (.float .f64 D) rfl (by simp [Value.oneCell']) (by kernel_rfl) _ _ Hrow0.out (show 1 + 1 ≤ 3 by omega) #[.float .f64 m, .float .f64 D, .bool true] rfl ?_
       intro v1 hp
       have c1_0 := Mem.put_cell1 hp 0 (v := .float .f64 m) rfl
       have c1_1 := Mem.put_cell1 hp 1 (v := .float .f64 D) rfl
       have c1_2 := Mem.put_cell1 hp 2 (v := .bool true) rfl
       have Hrow1 := Lib.hid hp.row
       have Hres1 := Lib.hid ((hp.other w1.heap.size Hne.out).trans Hres0.out)
       have Hbel1 := Lib.hid (Hbel0.out.trans (hp.below (Nat.le_refl _)))
       clear hp c0_0 c0_1 c0_2)
    | (refine Mem.wpList_store_cell rfl 48 (.tmp 42) (.tmp 41) rfl w.heap.size 0 rfl (.float .f64 M) rfl (by simp [Value.oneCell']) (by kernel_rfl) _ _ Hrow1.out (show 0 + 1 ≤ 3 by omega) #[.float .f64 M, .float .f64 D, .bool true] rfl ?_
       intro v2 hp
       have c2_0 := Mem.put_cell1 hp 0 (v := .float .f64 M) rfl
       have c2_1 := Mem.put_cell1 hp 1 (v := .float .f64 D) rfl
       have c2_2 := Mem.put_cell1 hp 2 (v := .bool true) rfl
       have Hrow2 := Lib.hid hp.row
       have Hres2 := Lib.hid ((hp.other w1.heap.size Hne.out).trans Hres1.out)
       have Hbel2 := Lib.hid (Hbel1.out.trans (hp.below (Nat.le_refl _)))
       clear hp c1_0 c1_1 c1_2)
    | (refine Mem.wpList_store_cell rfl 48 (.tmp 46) (.tmp 45) rfl w.heap.size 0 rfl (.float .f64 (Pac.plain M)) rfl (by simp [Value.oneCell']) (by kernel_rfl) _ _ Hrow2.out (show 0 + 1 ≤ 3 by omega) #[.float .f64 (Pac.plain M), .float .f64 D, .bool true] rfl ?_
       intro v3 hp
       have c3_0 := Mem.put_cell1 hp 0 (v := .float .f64 (Pac.plain M)) rfl
       have c3_1 := Mem.put_cell1 hp 1 (v := .float .f64 D) rfl
       have c3_2 := Mem.put_cell1 hp 2 (v := .bool true) rfl
       have Hrow3 := Lib.hid hp.row
       have Hres3 := Lib.hid ((hp.other w1.heap.size Hne.out).trans Hres2.out)
       have Hbel3 := Lib.hid (Hbel2.out.trans (hp.below (Nat.le_refl _)))
       clear hp c2_0 c2_1 c2_2)
    | (refine Mem.wpList_store_cell rfl 48 (.tmp 50) (.tmp 49) rfl w.heap.size 1 rfl (.float .f64 (Pac.plain D)) rfl (by simp [Value.oneCell']) (by kernel_rfl) _ _ Hrow3.out (show 1 + 1 ≤ 3 by omega) #[.float .f64 (Pac.plain M), .float .f64 (Pac.plain D), .bool true] rfl ?_
       intro v4 hp
       have c4_0 := Mem.put_cell1 hp 0 (v := .float .f64 (Pac.plain M)) rfl
       have c4_1 := Mem.put_cell1 hp 1 (v := .float .f64 (Pac.plain D)) rfl
       have c4_2 := Mem.put_cell1 hp 2 (v := .bool true) rfl
       have Hrow4 := Lib.hid hp.row
       have Hres4 := Lib.hid ((hp.other w1.heap.size Hne.out).trans Hres3.out)
       have Hbel4 := Lib.hid (Hbel3.out.trans (hp.below (Nat.le_refl _)))
       clear hp c3_0 c3_1 c3_2)
    | (refine Mem.wpList_store rfl 50 (.tmp 4) (.tmp 51) rfl _ #[.float .f64 (Pac.plain M), .float .f64 (Pac.plain D), .bool true] rfl rfl _ _ Hres4.out Pac.size_ref rfl (Pac.one_pace _ _ _) ?_
       intro w7 hp7
       have Hp7 := Lib.hid hp7
       clear hp7))
  exact bodyPost_ret (results_cell_row rfl _ _ w1.heap.size _ _ _ _ rfl Hp7.out.row Try.underlying50 rfl Pac.size_ref) rfl ⟨rfl, Hbel4.out.trans (Hp7.out.below (by have := Hn1.out.size; omega))⟩

end Go.Proofs.Ytgkadhogfejheaa
