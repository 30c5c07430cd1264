/- The walks of package pace: hearing. -/
import Derived.Test.YtgkadhogfejheaaZPacQ
import Derived.StillTailTactics
set_option linter.unusedVariables false
set_option linter.unusedSimpArgs false
namespace Go.Proofs.Ytgkadhogfejheaa
open Go.RowKit

namespace Pac
theorem run_store_float (a : Addr) (n : Nat) (m : Mode) (w : World) : (store a (.float .f64 n) m).run Try.prog w = stored Try.prog w a (.float .f64 n) m := run_store Try.prog w a _ m rfl
/-- a quiet contract, as a region wants it -/
theorem still {f : FuncId} {args : Array Value} {w : World} {v : Value} (h : Calls Try.prog f args w fun e w' => e = .returned v ∧ w = w') : Calls Try.prog f args w fun e w' => e = .returned v ∧ w' = w :=
  h.mono fun _ _ ⟨h1, h2⟩ => ⟨h1, h2.symm⟩
end Pac

set_option maxRecDepth 100000 in
set_option maxHeartbeats 1000000 in
theorem pace_heard_some (m d t far D M : Nat) (hmay : Pac.may m d true = true) (hcnt : Pac.cnt t = true) (hfar : floatBits .sub .f64 t m = some far)
    (hD : Pac.blend d (Pac.abs far) 4598175219545276416 = some D) (hM : Pac.blend m t 4593671619917905920 = some M) (w : World) :
    Calls Try.prog 56 #[.agg #[.float .f64 m, .float .f64 d, .bool true], .float .f64 t] w fun e w' =>
      e = .returned (.agg #[.float .f64 (Pac.plain M), .float .f64 (Pac.plain D), .bool true]) ∧ Below w.heap.size w w' := by
  have HM := Lib.hid hmay
  have HC := Lib.hid hcnt
  have hsub := fun w => run_float_arith (P := Try.prog) w .sub 48 .f64 t m far hfar
  have HD := Lib.hid hD
  have HMM := Lib.hid hM
  clear hmay hcnt hfar hD hM
  obtain ⟨ab, hab⟩ : ∃ ab, Pac.abs far = ab := ⟨_, rfl⟩
  have Hab := Lib.hid hab
  have hbD := HD.out
  rw [hab] at hbD
  have HbD := Lib.hid hbD
  clear hab hbD
  go_enter Try.func56, Try.ntmps56
  go_wp2_with (first
    | (refine Mem.wpList_box (o := ⟨some 2, _, _, _, _, _⟩) rfl 75 _ rfl (.agg #[.float .f64 m, .float .f64 d, .bool true]) rfl ?_
       intro w1 hn1
       have e0 := hn1.cell1 0 (v := .float .f64 m) rfl
       have e1 := hn1.cell1 1 (v := .float .f64 d) rfl
       have e2 := hn1.cell1 2 (v := .bool true) rfl
       have Hn1 := Lib.hid hn1
       clear hn1)
    | (refine Mem.wpList_alloc (o := ⟨some 4, _, _, _, _, _⟩) rfl 75 rfl _ Pac.zero_pace ?_
       intro w2 hn2
       have f0 := Mem.keep hn2.below e0
       have f1 := Mem.keep hn2.below e1
       have f2 := Mem.keep hn2.below e2
       have Hn2 := Lib.hid hn2
       clear hn2 e0 e1 e2)
    | (go_at_call 63
       refine (pace_may m d true _).mono ?_
       rw [HM.out]
       rintro e w3 ⟨rfl, hb3⟩
       have e0 := Mem.keep hb3 f0
       have e1 := Mem.keep hb3 f1
       have e2 := Mem.keep hb3 f2
       have Hb3 := Lib.hid hb3
       clear hb3 f0 f1 f2)
    | (go_at_call 72
       with_reducible refine (pace_counts t _).mono ?_
       rw [HC.out]
       rintro e w5 ⟨rfl, rfl⟩))
  have hrow : w3.drew.heap[w.heap.size]? = some (.cells #[.float .f64 m, .float .f64 d, .bool true] 75 (0, 0)) := by
    have h1 := Hn1.out.row
    have h2 : w2.heap[w.heap.size]? = w1.heap[w.heap.size]? := Hn2.out.old (by have := Hn1.out.size; omega)
    have h3 : w3.heap[w.heap.size]? = w2.heap[w.heap.size]? := Hb3.out.block _ (by have := Hn1.out.size; have := Hn2.out.size; omega)
    exact (h3.trans h2).trans h1
  have hres : w3.drew.heap[w1.heap.size]? = some (.cells #[.float .f64 0, .float .f64 0, .bool false] 75 (0, 0)) := by
    have h3 : w3.heap[w1.heap.size]? = w2.heap[w1.heap.size]? := Hb3.out.block _ (by have := Hn2.out.size; omega)
    exact h3.trans Hn2.out.row
  have g0 : w3.drew.cell? ⟨w.heap.size, 0, none⟩ = some (.float .f64 m) := e0
  have g1 : w3.drew.cell? ⟨w.heap.size, 1, none⟩ = some (.float .f64 d) := e1
  have g2 : w3.drew.cell? ⟨w.heap.size, 2, none⟩ = some (.bool true) := e2
  have gf : w3.drew.frozen? ⟨w.heap.size, 1, none⟩ = false := frozen_of_row _ _ _ _ _ hrow
  have gf0 : w3.drew.frozen? ⟨w.heap.size, 0, none⟩ = false := frozen_of_row _ _ _ _ _ hrow
  have hbel : Below w.heap.size w w3.drew := ((Mem.then_ (Mem.then_ Hn1.out.below Hn2.out.below) Hb3.out)).drew
  have hne : w.heap.size < w1.heap.size := by have := Hn1.out.size; omega
  clear e0 e1 e2
  refine wp_region_still_tail 9 (by kernel_rfl) (by kernel_rfl) ?_
  simp only [List.take_succ_cons, List.take_zero, List.drop_succ_cons, List.drop_zero]
  change wpStill _ _ w3.drew (fun a' => wpList _ _ _ _ a' w3.drew) _ _
  generalize w3.drew = w4 at hrow hres g0 g1 g2 gf gf0 hbel ⊢
  have Hrow := Lib.hid hrow
  have Hres := Lib.hid hres
  have Hbel := Lib.hid hbel
  clear hrow hres hbel
  repeat still_step
  still_call (Pac.still (by have := math_abs far w4; rw [Hab.out] at this; exact this))
  repeat still_step
  still_call (Pac.still (pace_blend d ab _ D HbD.out w4))
  repeat still_step
  refine wpStill_nil ?_
  have hst := Pac.run_store_float
  go_wp2_with (
    go_at_call 73
    with_reducible refine (pace_blend m t _ M HMM.out _).mono ?_
    rintro e w5 ⟨rfl, rfl⟩)
  have hp1 := Mem.put_setCell w4 w.heap.size 1 (.float .f64 D) _ _ Hrow.out
  have hp2 := Mem.put_setCell _ w.heap.size 0 (.float .f64 M) _ _ hp1.row
  have hres2 := (hp2.other w1.heap.size (Nat.ne_of_gt hne)).trans ((hp1.other w1.heap.size (Nat.ne_of_gt hne)).trans Hres.out)
  have hbel2 := (Hbel.out.trans (hp1.below (Nat.le_refl _))).trans (hp2.below (Nat.le_refl _))
  refine wp_region_still_tail 9 (by kernel_rfl) (by kernel_rfl) ?_
  simp only [List.take_succ_cons, List.take_zero, List.drop_succ_cons, List.drop_zero]
  change wpStill _ _ ((w4.setCell ⟨w.heap.size, 1, none⟩ (.float .f64 D)).setCell ⟨w.heap.size, 0, none⟩ (.float .f64 M)).drew (fun a' => wpList _ _ _ _ a' ((w4.setCell ⟨w.heap.size, 1, none⟩ (.float .f64 D)).setCell ⟨w.heap.size, 0, none⟩ (.float .f64 M)).drew) _ _
  have hrow6 : ((w4.setCell ⟨w.heap.size, 1, none⟩ (.float .f64 D)).setCell ⟨w.heap.size, 0, none⟩ (.float .f64 M)).drew.heap[w.heap.size]? = some (.cells #[.float .f64 M, .float .f64 D, .bool true] 75 (0, 0)) := hp2.row
  have hres6 : ((w4.setCell ⟨w.heap.size, 1, none⟩ (.float .f64 D)).setCell ⟨w.heap.size, 0, none⟩ (.float .f64 M)).drew.heap[w1.heap.size]? = some (.cells #[.float .f64 0, .float .f64 0, .bool false] 75 (0, 0)) := hres2
  have hbel6 := hbel2.drew
  clear hp1 hp2 hres2 hbel2 g0 g1 g2 gf gf0
  generalize ((w4.setCell ⟨w.heap.size, 1, none⟩ (.float .f64 D)).setCell ⟨w.heap.size, 0, none⟩ (.float .f64 M)).drew = w6 at hrow6 hres6 hbel6 ⊢
  have g0 : w6.cell? ⟨w.heap.size, 0, none⟩ = some (.float .f64 M) := (cell_of_row _ _ 0 _ _ _ hrow6).trans rfl
  have g1 : w6.cell? ⟨w.heap.size, 1, none⟩ = some (.float .f64 D) := (cell_of_row _ _ 1 _ _ _ hrow6).trans rfl
  have g2 : w6.cell? ⟨w.heap.size, 2, none⟩ = some (.bool true) := (cell_of_row _ _ 2 _ _ _ hrow6).trans rfl
  have Hres6 := Lib.hid hres6
  have Hbel6 := Lib.hid hbel6
  clear hrow6 hres6 hbel6
  repeat still_step
  still_call (Pac.still (pace_plain M w6))
  repeat still_step
  still_call (Pac.still (pace_plain D w6))
  repeat still_step
  refine wpStill_nil ?_
  go_wp2_with (
    refine Mem.wpList_store rfl 75 (.tmp 4) (.tmp 39) rfl _ #[.float .f64 (Pac.plain M), .float .f64 (Pac.plain D), .bool true] rfl rfl _ _ Hres6.out Pac.size_pace rfl (Pac.one_pace _ _ _) ?_
    intro w7 hp7
    have Hp7 := Lib.hid hp7
    clear hp7)
  exact bodyPost_ret (results_cell_row rfl _ _ w1.heap.size _ _ _ _ rfl Hp7.out.row Try.underlying75 rfl Pac.size_pace) rfl ⟨rfl, Hbel6.out.trans (Hp7.out.below (Nat.le_of_lt hne))⟩

set_option maxRecDepth 100000 in
set_option maxHeartbeats 1000000 in
theorem pace_heard_first (m d t h : Nat) (hmay : Pac.may m d false = true) (hcnt : Pac.cnt t = true) (hq : floatBits .quo .f64 t 4611686018427387904 = some h) (w : World) :
    Calls Try.prog 56 #[.agg #[.float .f64 m, .float .f64 d, .bool false], .float .f64 t] w fun e w' =>
      e = .returned (.agg #[.float .f64 (Pac.plain t), .float .f64 (Pac.plain h), .bool true]) ∧ Below w.heap.size w w' := by
  have HM := Lib.hid hmay
  have HC := Lib.hid hcnt
  have hquo := fun w => run_float_arith (P := Try.prog) w .quo 48 .f64 t 4611686018427387904 h hq
  clear hmay hcnt hq
  go_enter Try.func56, Try.ntmps56
  go_wp2_with (first
    | (refine Mem.wpList_box (o := ⟨some 2, _, _, _, _, _⟩) rfl 75 _ rfl (.agg #[.float .f64 m, .float .f64 d, .bool false]) rfl ?_
       intro w1 hn1
       have e0 := hn1.cell1 0 (v := .float .f64 m) rfl
       have e1 := hn1.cell1 1 (v := .float .f64 d) rfl
       have e2 := hn1.cell1 2 (v := .bool false) rfl
       have Hn1 := Lib.hid hn1
       clear hn1)
    | (refine Mem.wpList_alloc (o := ⟨some 4, _, _, _, _, _⟩) rfl 75 rfl _ Pac.zero_pace ?_
       intro w2 hn2
       have f0 := Mem.keep hn2.below e0
       have f1 := Mem.keep hn2.below e1
       have f2 := Mem.keep hn2.below e2
       have Hn2 := Lib.hid hn2
       clear hn2 e0 e1 e2)
    | (go_at_call 63
       refine (pace_may m d false _).mono ?_
       rw [HM.out]
       rintro e w3 ⟨rfl, hb3⟩
       have e0 := Mem.keep hb3 f0
       have e1 := Mem.keep hb3 f1
       have e2 := Mem.keep hb3 f2
       have Hb3 := Lib.hid hb3
       have Hrow := Lib.hid ((Hb3.out.block w.heap.size (by have := Hn1.out.size; have := Hn2.out.size; omega)).trans ((Hn2.out.old (by have := Hn1.out.size; omega)).trans Hn1.out.row))
       have Hres := Lib.hid ((Hb3.out.block w1.heap.size (by have := Hn2.out.size; omega)).trans Hn2.out.row)
       clear hb3 f0 f1 f2)
    | (go_at_call 72
       with_reducible refine (pace_counts t _).mono ?_
       rw [HC.out]
       rintro e w5 ⟨rfl, rfl⟩)
    | (refine Mem.wpList_store rfl 75 (.tmp 2) (.tmp 30) rfl _ #[.float .f64 t, .float .f64 h, .bool true] rfl rfl _ _ Hrow.out Pac.size_pace rfl (Pac.one_pace _ _ _) ?_
       intro w4 hp4
       have Hp4 := Lib.hid hp4
       clear hp4 e0 e1 e2))
  have hne : w.heap.size < w1.heap.size := by have := Hn1.out.size; omega
  refine wp_region_still_tail 9 (by kernel_rfl) (by kernel_rfl) ?_
  simp only [List.take_succ_cons, List.take_zero, List.drop_succ_cons, List.drop_zero]
  change wpStill _ _ w4.drew (fun a' => wpList _ _ _ _ a' w4.drew) _ _
  have hrow6 : w4.drew.heap[w.heap.size]? = some (.cells #[.float .f64 t, .float .f64 h, .bool true] 75 (0, 0)) := Hp4.out.row
  have hres6 : w4.drew.heap[w1.heap.size]? = some (.cells #[.float .f64 0, .float .f64 0, .bool false] 75 (0, 0)) := (Hp4.out.other w1.heap.size (Nat.ne_of_gt hne)).trans Hres.out
  have hbel6 : Below w.heap.size w w4.drew := (((Mem.then_ (Mem.then_ Hn1.out.below Hn2.out.below) Hb3.out)).trans (Hp4.out.below (Nat.le_refl _))).drew
  generalize w4.drew = w6 at hrow6 hres6 hbel6 ⊢
  have g0 : w6.cell? ⟨w.heap.size, 0, none⟩ = some (.float .f64 t) := (cell_of_row _ _ 0 _ _ _ hrow6).trans rfl
  have g1 : w6.cell? ⟨w.heap.size, 1, none⟩ = some (.float .f64 h) := (cell_of_row _ _ 1 _ _ _ hrow6).trans rfl
  have g2 : w6.cell? ⟨w.heap.size, 2, none⟩ = some (.bool true) := (cell_of_row _ _ 2 _ _ _ hrow6).trans rfl
  have Hres6 := Lib.hid hres6
  have Hbel6 := Lib.hid hbel6
  clear hrow6 hres6 hbel6
  repeat still_step
  still_call (Pac.still (pace_plain t w6))
  repeat still_step
  still_call (Pac.still (pace_plain h w6))
  repeat still_step
  refine wpStill_nil ?_
  go_wp2_with (
    refine Mem.wpList_store rfl 75 (.tmp 4) (.tmp 39) rfl _ #[.float .f64 (Pac.plain t), .float .f64 (Pac.plain h), .bool true] rfl rfl _ _ Hres6.out Pac.size_pace rfl (Pac.one_pace _ _ _) ?_
    intro w7 hp7
    have Hp7 := Lib.hid hp7
    clear hp7)
  exact bodyPost_ret (results_cell_row rfl _ _ w1.heap.size _ _ _ _ rfl Hp7.out.row Try.underlying75 rfl Pac.size_pace) rfl ⟨rfl, Hbel6.out.trans (Hp7.out.below (Nat.le_of_lt hne))⟩

set_option maxRecDepth 100000 in
set_option maxHeartbeats 1000000 in
theorem pace_heard_not (m d t : Nat) (s : Bool) (hmay : Pac.may m d s = true) (hcnt : Pac.cnt t = false) (w : World) :
    Calls Try.prog 56 #[.agg #[.float .f64 m, .float .f64 d, .bool s], .float .f64 t] w fun e w' =>
      e = .returned (.agg #[.float .f64 (Pac.plain m), .float .f64 (Pac.plain d), .bool s]) ∧ Below w.heap.size w w' := by
  have HM := Lib.hid hmay
  have HC := Lib.hid hcnt
  clear hmay hcnt
  go_enter Try.func56, Try.ntmps56
  go_wp2_with (first
    | (refine Mem.wpList_box (o := ⟨some 2, _, _, _, _, _⟩) rfl 75 _ rfl (.agg #[.float .f64 m, .float .f64 d, .bool s]) rfl ?_
       intro w1 hn1
       have e0 := hn1.cell1 0 (v := .float .f64 m) rfl
       have e1 := hn1.cell1 1 (v := .float .f64 d) rfl
       have e2 := hn1.cell1 2 (v := .bool s) rfl
       have Hn1 := Lib.hid hn1
       clear hn1)
    | (refine Mem.wpList_alloc (o := ⟨some 4, _, _, _, _, _⟩) rfl 75 rfl _ Pac.zero_pace ?_
       intro w2 hn2
       have f0 := Mem.keep hn2.below e0
       have f1 := Mem.keep hn2.below e1
       have f2 := Mem.keep hn2.below e2
       have Hn2 := Lib.hid hn2
       clear hn2 e0 e1 e2)
    | (go_at_call 63
       refine (pace_may m d s _).mono ?_
       rw [HM.out]
       rintro e w3 ⟨rfl, hb3⟩
       have Hb3 := Lib.hid hb3
       have Hrow := Lib.hid ((Hb3.out.block w.heap.size (by have := Hn1.out.size; have := Hn2.out.size; omega)).trans ((Hn2.out.old (by have := Hn1.out.size; omega)).trans Hn1.out.row))
       have Hres := Lib.hid ((Hb3.out.block w1.heap.size (by have := Hn2.out.size; omega)).trans Hn2.out.row)
       clear hb3 f0 f1 f2)
    | (go_at_call 72
       with_reducible refine (pace_counts t _).mono ?_
       rw [HC.out]
       rintro e w5 ⟨rfl, rfl⟩))
  have hne : w.heap.size < w1.heap.size := by have := Hn1.out.size; omega
  refine wp_region_still_tail 9 (by kernel_rfl) (by kernel_rfl) ?_
  simp only [List.take_succ_cons, List.take_zero, List.drop_succ_cons, List.drop_zero]
  change wpStill _ _ w3.drew (fun a' => wpList _ _ _ _ a' w3.drew) _ _
  have hrow6 : w3.drew.heap[w.heap.size]? = some (.cells #[.float .f64 m, .float .f64 d, .bool s] 75 (0, 0)) := Hrow.out
  have hres6 : w3.drew.heap[w1.heap.size]? = some (.cells #[.float .f64 0, .float .f64 0, .bool false] 75 (0, 0)) := Hres.out
  have hbel6 : Below w.heap.size w w3.drew := ((Mem.then_ (Mem.then_ Hn1.out.below Hn2.out.below) Hb3.out)).drew
  generalize w3.drew = w6 at hrow6 hres6 hbel6 ⊢
  have g0 : w6.cell? ⟨w.heap.size, 0, none⟩ = some (.float .f64 m) := (cell_of_row _ _ 0 _ _ _ hrow6).trans rfl
  have g1 : w6.cell? ⟨w.heap.size, 1, none⟩ = some (.float .f64 d) := (cell_of_row _ _ 1 _ _ _ hrow6).trans rfl
  have g2 : w6.cell? ⟨w.heap.size, 2, none⟩ = some (.bool s) := (cell_of_row _ _ 2 _ _ _ hrow6).trans rfl
  have Hres6 := Lib.hid hres6
  have Hbel6 := Lib.hid hbel6
  clear hrow6 hres6 hbel6
  repeat still_step
  still_call (Pac.still (pace_plain m w6))
  repeat still_step
  still_call (Pac.still (pace_plain d w6))
  repeat still_step
  refine wpStill_nil ?_
  go_wp2_with (
    refine Mem.wpList_store rfl 75 (.tmp 4) (.tmp 39) rfl _ #[.float .f64 (Pac.plain m), .float .f64 (Pac.plain d), .bool s] rfl rfl _ _ Hres6.out Pac.size_pace rfl (Pac.one_pace _ _ _) ?_
    intro w7 hp7
    have Hp7 := Lib.hid hp7
    clear hp7)
  exact bodyPost_ret (results_cell_row rfl _ _ w1.heap.size _ _ _ _ rfl Hp7.out.row Try.underlying75 rfl Pac.size_pace) rfl ⟨rfl, Hbel6.out.trans (Hp7.out.below (Nat.le_of_lt hne))⟩

set_option maxRecDepth 100000 in
set_option maxHeartbeats 1000000 in
theorem pace_heard_bad (m d t : Nat) (s : Bool) (hmay : Pac.may m d s = false) (w : World) :
    Calls Try.prog 56 #[.agg #[.float .f64 m, .float .f64 d, .bool s], .float .f64 t] w fun e w' =>
      e = .returned (.agg #[.float .f64 0, .float .f64 0, .bool false]) ∧ Below w.heap.size w w' := by
  have HM := Lib.hid hmay
  clear hmay
  go_enter Try.func56, Try.ntmps56
  go_wp2_with (first
    | (refine Mem.wpList_box (o := ⟨some 2, _, _, _, _, _⟩) rfl 75 _ rfl (.agg #[.float .f64 m, .float .f64 d, .bool s]) rfl ?_
       intro w1 hn1
       have e0 := hn1.cell1 0 (v := .float .f64 m) rfl
       have e1 := hn1.cell1 1 (v := .float .f64 d) rfl
       have e2 := hn1.cell1 2 (v := .bool s) rfl
       have Hn1 := Lib.hid hn1
       clear hn1)
    | (refine Mem.wpList_alloc (o := ⟨some 4, _, _, _, _, _⟩) rfl 75 rfl _ Pac.zero_pace ?_
       intro w2 hn2
       have f0 := Mem.keep hn2.below e0
       have f1 := Mem.keep hn2.below e1
       have f2 := Mem.keep hn2.below e2
       have Hn2 := Lib.hid hn2
       clear hn2 e0 e1 e2)
    | (go_at_call 63
       refine (pace_may m d s _).mono ?_
       rw [HM.out]
       rintro e w3 ⟨rfl, hb3⟩
       have Hb3 := Lib.hid hb3
       have Hres := Lib.hid ((Hb3.out.block w1.heap.size (by have := Hn2.out.size; omega)).trans Hn2.out.row)
       clear hb3 f0 f1 f2)
    | (refine Mem.wpList_store rfl 75 (.tmp 4) (.tmp 8) rfl _ #[.float .f64 0, .float .f64 0, .bool false] rfl rfl _ _ Hres.out Pac.size_pace rfl (Pac.one_pace _ _ _) ?_
       intro w7 hp7
       have Hp7 := Lib.hid hp7
       clear hp7))
  exact bodyPost_ret (results_cell_row rfl _ _ w1.heap.size _ _ _ _ rfl Hp7.out.row Try.underlying75 rfl Pac.size_pace) rfl ⟨rfl, (Mem.then_ (Mem.then_ Hn1.out.below Hn2.out.below) Hb3.out).trans (Hp7.out.below (by have := Hn1.out.size; omega))⟩
end Go.Proofs.Ytgkadhogfejheaa
