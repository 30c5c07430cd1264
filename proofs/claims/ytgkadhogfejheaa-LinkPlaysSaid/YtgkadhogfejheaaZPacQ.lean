/- The walks of package pace: which may be. -/
import Derived.Test.YtgkadhogfejheaaZPacP
import Derived.BigGuardPart
set_option linter.unusedVariables false
set_option linter.unusedSimpArgs false
namespace Go.Proofs.Ytgkadhogfejheaa
open Go.RowKit

namespace Mem
theorem put_cell1 {w w1 : World} {g : Nat} {cs : Array Value} {t : TypeId} (h : Put w w1 g cs t) (i : Nat) {v : Value} (hv : cs[i]? = some v) : w1.cell? ⟨g, i, none⟩ = some v := (cell_of_row w1 g i _ _ _ h.row).trans hv
end Mem
namespace Pac
theorem zero_two : (Try.prog.info? 138).bind (·.zero) = some (.agg #[.float .f64 0, .float .f64 0]) := by kernel_rfl
theorem size_two : (Try.prog.info? 138).map (·.size) = some 2 := by kernel_rfl
theorem one_two (a b : Nat) : (#[Value.float .f64 a, .float .f64 b]).all (·.oneCell') = true := by simp [Value.oneCell']
theorem zero_pace : (Try.prog.info? 75).bind (·.zero) = some (.agg #[.float .f64 0, .float .f64 0, .bool false]) := by kernel_rfl
theorem size_pace : (Try.prog.info? 75).map (·.size) = some 3 := by kernel_rfl
theorem zero_ref : (Try.prog.info? 50).bind (·.zero) = some (.agg #[.float .f64 0, .float .f64 0, .bool false]) := by kernel_rfl
theorem size_ref : (Try.prog.info? 50).map (·.size) = some 3 := by kernel_rfl
theorem one_pace (a b : Nat) (s : Bool) : (#[Value.float .f64 a, .float .f64 b, .bool s]).all (·.oneCell') = true := by simp [Value.oneCell']
end Pac

set_option maxRecDepth 100000 in
theorem pace_numbers (m d : Nat) (s : Bool) (w : World) :
    Calls Try.prog 77 #[.agg #[.float .f64 m, .float .f64 d, .bool s]] w fun e w' => e = .returned (.agg #[.float .f64 m, .float .f64 d]) ∧ Below w.heap.size w w' := by
  go_enter Try.func77, Try.ntmps77
  go_wp2_with (first
    | (refine Mem.wpList_box (o := ⟨some 1, _, _, _, _, _⟩) rfl 75 _ rfl (.agg #[.float .f64 m, .float .f64 d, .bool s]) rfl ?_
       intro w1 hn1
       have e0 := hn1.cell1 0 (v := .float .f64 m) rfl
       have e1 := hn1.cell1 1 (v := .float .f64 d) rfl
       have Hn1 := Lib.hid hn1
       clear hn1)
    | (refine Mem.wpList_alloc (o := ⟨some 2, _, _, _, _, _⟩) rfl 138 rfl _ Pac.zero_two ?_
       intro w2 hn2
       have f0 := Mem.keep hn2.below e0
       have f1 := Mem.keep hn2.below e1
       have Hn2 := Lib.hid hn2
       clear hn2 e0 e1)
    | (refine Mem.wpList_store rfl 138 (.tmp 2) (.tmp 7) rfl _ #[.float .f64 m, .float .f64 d] rfl rfl _ _ Hn2.out.row Pac.size_two rfl (Pac.one_two _ _) ?_
       intro w3 hp
       have Hp := Lib.hid hp
       clear hp))
  refine bodyPost_ret (results_cell_row rfl _ _ w1.heap.size _ _ _ _ rfl Hp.out.row Try.underlying138 rfl Pac.size_two) rfl ⟨rfl, ?_⟩
  exact (Mem.then_ Hn1.out.below Hn2.out.below).trans (Hp.out.below (by have := Hn1.out.size; omega))

set_option maxRecDepth 100000 in
set_option maxHeartbeats 1000000 in
theorem ref_may_n1 (m d : Nat) (s : Bool) (h1 : Pac.cnt m = false) (w : World) :
    Calls Try.prog 50 #[.agg #[.float .f64 m, .float .f64 d, .bool s]] w fun e w' => e = .returned (.bool false) ∧ Below w.heap.size w w' := by
  have H1 := Lib.hid h1
  clear h1
  go_enter Try.func50, Try.ntmps50
  go_wp2_with (first
    | (refine Mem.wpList_box (o := ⟨some 1, _, _, _, _, _⟩) rfl 50 _ rfl (.agg #[.float .f64 m, .float .f64 d, .bool s]) rfl ?_
       intro w1 hn1
       have e0 := hn1.cell1 0 (v := .float .f64 m) rfl
       have e1 := hn1.cell1 1 (v := .float .f64 d) rfl
       have e2 := hn1.cell1 2 (v := .bool s) rfl
       have Hn1 := Lib.hid hn1
       clear hn1)
    | (go_at_call 59
       with_reducible refine (ref_counts m _).mono ?_
       rw [H1.out]
       rintro e w5 ⟨rfl, rfl⟩))
  go_ret
  exact ⟨rfl, Hn1.out.below⟩

set_option maxRecDepth 100000 in
set_option maxHeartbeats 1000000 in
theorem ref_may_n2 (m d : Nat) (s : Bool) (h1 : Pac.cnt m = true) (h2 : Pac.cnt d = false) (w : World) :
    Calls Try.prog 50 #[.agg #[.float .f64 m, .float .f64 d, .bool s]] w fun e w' => e = .returned (.bool false) ∧ Below w.heap.size w w' := by
  have H1 := Lib.hid h1
  have H2 := Lib.hid h2
  clear h1 h2
  go_enter Try.func50, Try.ntmps50
  go_wp2_with (first
    | (refine Mem.wpList_box (o := ⟨some 1, _, _, _, _, _⟩) rfl 50 _ rfl (.agg #[.float .f64 m, .float .f64 d, .bool s]) rfl ?_
       intro w1 hn1
       have e0 := hn1.cell1 0 (v := .float .f64 m) rfl
       have e1 := hn1.cell1 1 (v := .float .f64 d) rfl
       have e2 := hn1.cell1 2 (v := .bool s) rfl
       have Hn1 := Lib.hid hn1
       clear hn1)
    | (go_at_call 59
       with_reducible refine (ref_counts m _).mono ?_
       rw [H1.out]
       rintro e w5 ⟨rfl, rfl⟩)
    | (go_at_call 59
       with_reducible refine (ref_counts d _).mono ?_
       rw [H2.out]
       rintro e w5 ⟨rfl, rfl⟩))
  go_ret
  exact ⟨rfl, Hn1.out.below⟩

set_option maxRecDepth 100000 in
set_option maxHeartbeats 1000000 in
theorem ref_may_y (m d : Nat) (h1 : Pac.cnt m = true) (h2 : Pac.cnt d = true) (w : World) :
    Calls Try.prog 50 #[.agg #[.float .f64 m, .float .f64 d, .bool true]] w fun e w' => e = .returned (.bool true) ∧ Below w.heap.size w w' := by
  have H1 := Lib.hid h1
  have H2 := Lib.hid h2
  clear h1 h2
  go_enter Try.func50, Try.ntmps50
  go_upto_region 3 with (first
    | (refine Mem.wpList_box (o := ⟨some 1, _, _, _, _, _⟩) rfl 50 _ rfl (.agg #[.float .f64 m, .float .f64 d, .bool true]) rfl ?_
       intro w1 hn1
       have e0 := hn1.cell1 0 (v := .float .f64 m) rfl
       have e1 := hn1.cell1 1 (v := .float .f64 d) rfl
       have e2 := hn1.cell1 2 (v := .bool true) rfl
       have Hn1 := Lib.hid hn1
       clear hn1)
    | (go_at_call 59
       with_reducible refine (ref_counts m _).mono ?_
       rw [H1.out]
       rintro e w5 ⟨rfl, rfl⟩)
    | (go_at_call 59
       with_reducible refine (ref_counts d _).mono ?_
       rw [H2.out]
       rintro e w5 ⟨rfl, rfl⟩))
  repeat (first | go_skip | go_guarded | go_step | go_upon | go_back)
  go_ret
  exact ⟨rfl, Hn1.out.below⟩

set_option maxRecDepth 100000 in
set_option maxHeartbeats 1000000 in
theorem ref_may_zf (m d : Nat) (h1 : Pac.cnt m = true) (h2 : Pac.cnt d = true) (h3 : (FloatKind.f64.format.order m 0 == some .eq) = false)  (w : World) :
    Calls Try.prog 50 #[.agg #[.float .f64 m, .float .f64 d, .bool false]] w fun e w' => e = .returned (.bool false) ∧ Below w.heap.size w w' := by
  have H1 := Lib.hid h1
  have H2 := Lib.hid h2
  clear h1 h2
  go_enter Try.func50, Try.ntmps50
  go_wp2_with (first
    | (refine Mem.wpList_box (o := ⟨some 1, _, _, _, _, _⟩) rfl 50 _ rfl (.agg #[.float .f64 m, .float .f64 d, .bool false]) rfl ?_
       intro w1 hn1
       have e0 := hn1.cell1 0 (v := .float .f64 m) rfl
       have e1 := hn1.cell1 1 (v := .float .f64 d) rfl
       have e2 := hn1.cell1 2 (v := .bool false) rfl
       have Hn1 := Lib.hid hn1
       clear hn1)
    | (go_at_call 59
       with_reducible refine (ref_counts m _).mono ?_
       rw [H1.out]
       rintro e w5 ⟨rfl, rfl⟩)
    | (go_at_call 59
       with_reducible refine (ref_counts d _).mono ?_
       rw [H2.out]
       rintro e w5 ⟨rfl, rfl⟩))
  go_ret
  exact ⟨rfl, Hn1.out.below⟩

set_option maxRecDepth 100000 in
set_option maxHeartbeats 1000000 in
theorem ref_may_ztf (m d : Nat) (h1 : Pac.cnt m = true) (h2 : Pac.cnt d = true) (h3 : (FloatKind.f64.format.order m 0 == some .eq) = true) (h4 : (FloatKind.f64.format.order d 0 == some .eq) = false) (w : World) :
    Calls Try.prog 50 #[.agg #[.float .f64 m, .float .f64 d, .bool false]] w fun e w' => e = .returned (.bool false) ∧ Below w.heap.size w w' := by
  have H1 := Lib.hid h1
  have H2 := Lib.hid h2
  clear h1 h2
  go_enter Try.func50, Try.ntmps50
  go_wp2_with (first
    | (refine Mem.wpList_box (o := ⟨some 1, _, _, _, _, _⟩) rfl 50 _ rfl (.agg #[.float .f64 m, .float .f64 d, .bool false]) rfl ?_
       intro w1 hn1
       have e0 := hn1.cell1 0 (v := .float .f64 m) rfl
       have e1 := hn1.cell1 1 (v := .float .f64 d) rfl
       have e2 := hn1.cell1 2 (v := .bool false) rfl
       have Hn1 := Lib.hid hn1
       clear hn1)
    | (go_at_call 59
       with_reducible refine (ref_counts m _).mono ?_
       rw [H1.out]
       rintro e w5 ⟨rfl, rfl⟩)
    | (go_at_call 59
       with_reducible refine (ref_counts d _).mono ?_
       rw [H2.out]
       rintro e w5 ⟨rfl, rfl⟩))
  go_ret
  exact ⟨rfl, Hn1.out.below⟩

set_option maxRecDepth 100000 in
set_option maxHeartbeats 1000000 in
theorem ref_may_ztt (m d : Nat) (h1 : Pac.cnt m = true) (h2 : Pac.cnt d = true) (h3 : (FloatKind.f64.format.order m 0 == some .eq) = true) (h4 : (FloatKind.f64.format.order d 0 == some .eq) = true) (w : World) :
    Calls Try.prog 50 #[.agg #[.float .f64 m, .float .f64 d, .bool false]] w fun e w' => e = .returned (.bool true) ∧ Below w.heap.size w w' := by
  have H1 := Lib.hid h1
  have H2 := Lib.hid h2
  clear h1 h2
  go_enter Try.func50, Try.ntmps50
  go_wp2_with (first
    | (refine Mem.wpList_box (o := ⟨some 1, _, _, _, _, _⟩) rfl 50 _ rfl (.agg #[.float .f64 m, .float .f64 d, .bool false]) rfl ?_
       intro w1 hn1
       have e0 := hn1.cell1 0 (v := .float .f64 m) rfl
       have e1 := hn1.cell1 1 (v := .float .f64 d) rfl
       have e2 := hn1.cell1 2 (v := .bool false) rfl
       have Hn1 := Lib.hid hn1
       clear hn1)
    | (go_at_call 59
       with_reducible refine (ref_counts m _).mono ?_
       rw [H1.out]
       rintro e w5 ⟨rfl, rfl⟩)
    | (go_at_call 59
       with_reducible refine (ref_counts d _).mono ?_
       rw [H2.out]
       rintro e w5 ⟨rfl, rfl⟩))
  go_ret
  exact ⟨rfl, Hn1.out.below⟩

theorem ref_may (m d : Nat) (s : Bool) (w : World) :
    Calls Try.prog 50 #[.agg #[.float .f64 m, .float .f64 d, .bool s]] w fun e w' => e = .returned (.bool (Pac.may m d s)) ∧ Below w.heap.size w w' := by
  unfold Pac.may Pac.eqB
  cases h1 : Pac.cnt m
  · exact ref_may_n1 m d s h1 w
  · cases h2 : Pac.cnt d
    · exact ref_may_n2 m d s h1 h2 w
    · cases s
      · cases h3 : (Pac.ord m 0 == some .eq)
        · exact ref_may_zf m d h1 h2 h3 w
        · cases h4 : (Pac.ord d 0 == some .eq)
          · exact ref_may_ztf m d h1 h2 h3 h4 w
          · exact ref_may_ztt m d h1 h2 h3 h4 w
      · exact ref_may_y m d h1 h2 w

namespace Pac
theorem cells_float : Try.prog.cellsOf 48 = 1 := by kernel_rfl
theorem info_float : (Try.prog.info? 48).isSome = true := by kernel_rfl
theorem part_float (xs : Array Value) (i : Nat) (v : Value) (h : xs[i]? = some v) (w : World) : (part 48 xs i).run Try.prog w = .ok v w := by
  have hi : i < xs.size := by
    rcases Nat.lt_or_ge i xs.size with h2 | h2
    · exact h2
    · rw [Array.getElem?_eq_none h2] at h; cases h
  have hv : xs[i] = v := by rw [Array.getElem?_eq_getElem hi] at h; injection h
  simp [part, isAgg, run_underlying Try.underlying48, hi, hv]
theorem run_eq_float (d : Nat) (a b : Nat) (w : World) : (Op.equalIn (d + 1) 48 (.float .f64 a) (.float .f64 b)).run Try.prog w = .ok (FloatKind.f64.format.order a b == some .eq) w := by
  simp [Op.equalIn, run_underlying Try.underlying48, Op.floatEq]
theorem eq_two (m d : Nat) (w : World) (b1 b2 : Bool) (h1 : (FloatKind.f64.format.order m 0 == some .eq) = b1) (h2 : (FloatKind.f64.format.order d 0 == some .eq) = b2) :
    (Op.equalIn 10000 138 (.agg #[.float .f64 m, .float .f64 d]) (.agg #[.float .f64 0, .float .f64 0])).run Try.prog w = .ok (b1 && b2) w := by
  obtain ⟨i, hi⟩ := Option.isSome_iff_exists.1 info_float
  rw [run_equalIn_array w 9999 _ _ Try.underlying138 hi, cells_float, show List.range 2 = [0, 1] from rfl]
  simp only [Op.eqItems, Sem.run_bind, Nat.mul_one]
  rw [part_float _ 0 (.float .f64 m) rfl]
  simp only [Result.andThen_ok]
  rw [part_float _ 0 (.float .f64 0) rfl]
  simp only [Result.andThen_ok]
  rw [run_eq_float, h1]
  simp only [Result.andThen_ok]
  cases b1
  · simp
  · simp only [Bool.not_true, Bool.false_eq_true, if_false, Sem.run_bind]
    rw [part_float _ 1 (.float .f64 d) rfl]
    simp only [Result.andThen_ok]
    rw [part_float _ 1 (.float .f64 0) rfl]
    simp only [Result.andThen_ok]
    rw [run_eq_float, h2]
    simp only [Result.andThen_ok]
    cases b2 <;> simp
end Pac

set_option maxRecDepth 100000 in
set_option maxHeartbeats 1000000 in
theorem pace_may_n1 (m d : Nat) (s : Bool) (h1 : Pac.cnt m = false) (w : World) :
    Calls Try.prog 63 #[.agg #[.float .f64 m, .float .f64 d, .bool s]] w fun e w' => e = .returned (.bool false) ∧ Below w.heap.size w w' := by
  have H1 := Lib.hid h1
  clear h1
  go_enter Try.func63, Try.ntmps63
  go_upto_region 2 with (first
    | (refine Mem.wpList_box (o := ⟨some 1, _, _, _, _, _⟩) rfl 75 _ rfl (.agg #[.float .f64 m, .float .f64 d, .bool s]) rfl ?_
       intro w1 hn1
       have e0 := hn1.cell1 0 (v := .float .f64 m) rfl
       have e1 := hn1.cell1 1 (v := .float .f64 d) rfl
       have e2 := hn1.cell1 2 (v := .bool s) rfl
       have Hn1 := Lib.hid hn1
       clear hn1)
    | (go_at_call 77
       refine (pace_numbers m d s _).mono ?_
       rintro e w2 ⟨rfl, hb2⟩
       have f2 := Mem.keep hb2 e2
       have Hb2 := Lib.hid hb2
       clear hb2 e0 e1 e2)
    | (refine Mem.wpList_alloc (o := ⟨some 3, _, _, _, _, _⟩) rfl 138 rfl _ Pac.zero_two ?_
       intro w3 hn3
       have e2 := Mem.keep hn3.below f2
       have Hn3 := Lib.hid hn3
       clear hn3 f2)
    | (refine Mem.wpList_store rfl 138 (.tmp 3) (.tmp 5) rfl _ #[.float .f64 m, .float .f64 d] rfl rfl _ _ Hn3.out.row Pac.size_two rfl (Pac.one_two _ _) ?_
       intro w4 hp4
       have f2 := Mem.keep_but (Mem.But.of_put (S := fun i => i = w2.heap.size) hp4 rfl) (by have := block_lt_of_cell e2; have := Hn1.out.size; have := Hb2.out.size; show ¬ w.heap.size = w2.heap.size; omega) e2
       have q0 := Mem.put_cell1 hp4 0 (v := .float .f64 m) rfl
       have q1 := Mem.put_cell1 hp4 1 (v := .float .f64 d) rfl
       have Hp4 := Lib.hid hp4
       clear hp4 e2))
  repeat (first | go_skip | go_guarded | go_step | go_upon | go_back)
  refine (pace_counts m _).mono ?_
  rw [H1.out]
  rintro e w5 ⟨rfl, rfl⟩
  dsimp only
  repeat (first | go_skip | go_guarded | go_step | go_upon | go_back)
  go_ret
  exact ⟨rfl, (Mem.then_ (Mem.then_ Hn1.out.below Hb2.out) Hn3.out.below).trans (Hp4.out.below (Mem.then_ Hn1.out.below Hb2.out).size)⟩

set_option maxRecDepth 100000 in
set_option maxHeartbeats 1000000 in
theorem pace_may_n2 (m d : Nat) (s : Bool) (h1 : Pac.cnt m = true) (h2 : Pac.cnt d = false) (w : World) :
    Calls Try.prog 63 #[.agg #[.float .f64 m, .float .f64 d, .bool s]] w fun e w' => e = .returned (.bool false) ∧ Below w.heap.size w w' := by
  have H1 := Lib.hid h1
  have H2 := Lib.hid h2
  clear h1 h2
  go_enter Try.func63, Try.ntmps63
  go_upto_region 2 with (first
    | (refine Mem.wpList_box (o := ⟨some 1, _, _, _, _, _⟩) rfl 75 _ rfl (.agg #[.float .f64 m, .float .f64 d, .bool s]) rfl ?_
       intro w1 hn1
       have e0 := hn1.cell1 0 (v := .float .f64 m) rfl
       have e1 := hn1.cell1 1 (v := .float .f64 d) rfl
       have e2 := hn1.cell1 2 (v := .bool s) rfl
       have Hn1 := Lib.hid hn1
       clear hn1)
    | (go_at_call 77
       refine (pace_numbers m d s _).mono ?_
       rintro e w2 ⟨rfl, hb2⟩
       have f2 := Mem.keep hb2 e2
       have Hb2 := Lib.hid hb2
       clear hb2 e0 e1 e2)
    | (refine Mem.wpList_alloc (o := ⟨some 3, _, _, _, _, _⟩) rfl 138 rfl _ Pac.zero_two ?_
       intro w3 hn3
       have e2 := Mem.keep hn3.below f2
       have Hn3 := Lib.hid hn3
       clear hn3 f2)
    | (refine Mem.wpList_store rfl 138 (.tmp 3) (.tmp 5) rfl _ #[.float .f64 m, .float .f64 d] rfl rfl _ _ Hn3.out.row Pac.size_two rfl (Pac.one_two _ _) ?_
       intro w4 hp4
       have f2 := Mem.keep_but (Mem.But.of_put (S := fun i => i = w2.heap.size) hp4 rfl) (by have := block_lt_of_cell e2; have := Hn1.out.size; have := Hb2.out.size; show ¬ w.heap.size = w2.heap.size; omega) e2
       have q0 := Mem.put_cell1 hp4 0 (v := .float .f64 m) rfl
       have q1 := Mem.put_cell1 hp4 1 (v := .float .f64 d) rfl
       have Hp4 := Lib.hid hp4
       clear hp4 e2))
  repeat (first | go_skip | go_guarded | go_step | go_upon | go_back)
  refine (pace_counts m _).mono ?_
  rw [H1.out]
  rintro e w5 ⟨rfl, rfl⟩
  dsimp only
  repeat (first | go_skip | go_guarded | go_step | go_upon | go_back)
  refine (pace_counts d _).mono ?_
  rw [H2.out]
  rintro e w5 ⟨rfl, rfl⟩
  dsimp only
  repeat (first | go_skip | go_guarded | go_step | go_upon | go_back)
  go_ret
  exact ⟨rfl, (Mem.then_ (Mem.then_ Hn1.out.below Hb2.out) Hn3.out.below).trans (Hp4.out.below (Mem.then_ Hn1.out.below Hb2.out).size)⟩

set_option maxRecDepth 100000 in
set_option maxHeartbeats 1000000 in
theorem pace_may_y (m d : Nat) (h1 : Pac.cnt m = true) (h2 : Pac.cnt d = true) (w : World) :
    Calls Try.prog 63 #[.agg #[.float .f64 m, .float .f64 d, .bool true]] w fun e w' => e = .returned (.bool true) ∧ Below w.heap.size w w' := by
  have H1 := Lib.hid h1
  have H2 := Lib.hid h2
  clear h1 h2
  go_enter Try.func63, Try.ntmps63
  go_wp2_with (first
    | (refine Mem.wpList_box (o := ⟨some 1, _, _, _, _, _⟩) rfl 75 _ rfl (.agg #[.float .f64 m, .float .f64 d, .bool true]) rfl ?_
       intro w1 hn1
       have e0 := hn1.cell1 0 (v := .float .f64 m) rfl
       have e1 := hn1.cell1 1 (v := .float .f64 d) rfl
       have e2 := hn1.cell1 2 (v := .bool true) rfl
       have Hn1 := Lib.hid hn1
       clear hn1)
    | (go_at_call 77
       refine (pace_numbers m d true _).mono ?_
       rintro e w2 ⟨rfl, hb2⟩
       have f2 := Mem.keep hb2 e2
       have Hb2 := Lib.hid hb2
       clear hb2 e0 e1 e2)
    | (refine Mem.wpList_alloc (o := ⟨some 3, _, _, _, _, _⟩) rfl 138 rfl _ Pac.zero_two ?_
       intro w3 hn3
       have e2 := Mem.keep hn3.below f2
       have Hn3 := Lib.hid hn3
       clear hn3 f2)
    | (refine Mem.wpList_store rfl 138 (.tmp 3) (.tmp 5) rfl _ #[.float .f64 m, .float .f64 d] rfl rfl _ _ Hn3.out.row Pac.size_two rfl (Pac.one_two _ _) ?_
       intro w4 hp4
       have f2 := Mem.keep_but (Mem.But.of_put (S := fun i => i = w2.heap.size) hp4 rfl) (by have := block_lt_of_cell e2; have := Hn1.out.size; have := Hb2.out.size; show ¬ w.heap.size = w2.heap.size; omega) e2
       have q0 := Mem.put_cell1 hp4 0 (v := .float .f64 m) rfl
       have q1 := Mem.put_cell1 hp4 1 (v := .float .f64 d) rfl
       have Hp4 := Lib.hid hp4
       clear hp4 e2)
    | (go_at_call 72
       with_reducible refine (pace_counts m _).mono ?_
       rw [H1.out]
       rintro e w5 ⟨rfl, rfl⟩)
    | (go_at_call 72
       with_reducible refine (pace_counts d _).mono ?_
       rw [H2.out]
       rintro e w5 ⟨rfl, rfl⟩))
  go_ret
  exact ⟨rfl, (Mem.then_ (Mem.then_ Hn1.out.below Hb2.out) Hn3.out.below).trans (Hp4.out.below (Mem.then_ Hn1.out.below Hb2.out).size)⟩

set_option maxRecDepth 100000 in
set_option maxHeartbeats 1000000 in
theorem pace_may_zf (m d : Nat) (h1 : Pac.cnt m = true) (h2 : Pac.cnt d = true) (h3 : (FloatKind.f64.format.order m 0 == some .eq) = false)  (w : World) :
    Calls Try.prog 63 #[.agg #[.float .f64 m, .float .f64 d, .bool false]] w fun e w' => e = .returned (.bool false) ∧ Below w.heap.size w w' := by
  have H1 := Lib.hid h1
  have H2 := Lib.hid h2
  have hq := fun w => Pac.eq_two m d w false (FloatKind.f64.format.order d 0 == some .eq) h3 rfl
  clear h3
  clear h1 h2
  go_enter Try.func63, Try.ntmps63
  go_wp2_with (first
    | (refine Mem.wpList_box (o := ⟨some 1, _, _, _, _, _⟩) rfl 75 _ rfl (.agg #[.float .f64 m, .float .f64 d, .bool false]) rfl ?_
       intro w1 hn1
       have e0 := hn1.cell1 0 (v := .float .f64 m) rfl
       have e1 := hn1.cell1 1 (v := .float .f64 d) rfl
       have e2 := hn1.cell1 2 (v := .bool false) rfl
       have Hn1 := Lib.hid hn1
       clear hn1)
    | (go_at_call 77
       refine (pace_numbers m d false _).mono ?_
       rintro e w2 ⟨rfl, hb2⟩
       have f2 := Mem.keep hb2 e2
       have Hb2 := Lib.hid hb2
       clear hb2 e0 e1 e2)
    | (refine Mem.wpList_alloc (o := ⟨some 3, _, _, _, _, _⟩) rfl 138 rfl _ Pac.zero_two ?_
       intro w3 hn3
       have e2 := Mem.keep hn3.below f2
       have Hn3 := Lib.hid hn3
       clear hn3 f2)
    | (refine Mem.wpList_store rfl 138 (.tmp 3) (.tmp 5) rfl _ #[.float .f64 m, .float .f64 d] rfl rfl _ _ Hn3.out.row Pac.size_two rfl (Pac.one_two _ _) ?_
       intro w4 hp4
       have f2 := Mem.keep_but (Mem.But.of_put (S := fun i => i = w2.heap.size) hp4 rfl) (by have := block_lt_of_cell e2; have := Hn1.out.size; have := Hb2.out.size; show ¬ w.heap.size = w2.heap.size; omega) e2
       have q0 := Mem.put_cell1 hp4 0 (v := .float .f64 m) rfl
       have q1 := Mem.put_cell1 hp4 1 (v := .float .f64 d) rfl
       have Hp4 := Lib.hid hp4
       clear hp4 e2)
    | (go_at_call 72
       with_reducible refine (pace_counts m _).mono ?_
       rw [H1.out]
       rintro e w5 ⟨rfl, rfl⟩)
    | (go_at_call 72
       with_reducible refine (pace_counts d _).mono ?_
       rw [H2.out]
       rintro e w5 ⟨rfl, rfl⟩))
  go_ret
  exact ⟨rfl, (Mem.then_ (Mem.then_ Hn1.out.below Hb2.out) Hn3.out.below).trans (Hp4.out.below (Mem.then_ Hn1.out.below Hb2.out).size)⟩

set_option maxRecDepth 100000 in
set_option maxHeartbeats 1000000 in
theorem pace_may_ztf (m d : Nat) (h1 : Pac.cnt m = true) (h2 : Pac.cnt d = true) (h3 : (FloatKind.f64.format.order m 0 == some .eq) = true) (h4 : (FloatKind.f64.format.order d 0 == some .eq) = false) (w : World) :
    Calls Try.prog 63 #[.agg #[.float .f64 m, .float .f64 d, .bool false]] w fun e w' => e = .returned (.bool false) ∧ Below w.heap.size w w' := by
  have H1 := Lib.hid h1
  have H2 := Lib.hid h2
  have hq := fun w => Pac.eq_two m d w true false h3 h4
  clear h3 h4
  clear h1 h2
  go_enter Try.func63, Try.ntmps63
  go_wp2_with (first
    | (refine Mem.wpList_box (o := ⟨some 1, _, _, _, _, _⟩) rfl 75 _ rfl (.agg #[.float .f64 m, .float .f64 d, .bool false]) rfl ?_
       intro w1 hn1
       have e0 := hn1.cell1 0 (v := .float .f64 m) rfl
       have e1 := hn1.cell1 1 (v := .float .f64 d) rfl
       have e2 := hn1.cell1 2 (v := .bool false) rfl
       have Hn1 := Lib.hid hn1
       clear hn1)
    | (go_at_call 77
       refine (pace_numbers m d false _).mono ?_
       rintro e w2 ⟨rfl, hb2⟩
       have f2 := Mem.keep hb2 e2
       have Hb2 := Lib.hid hb2
       clear hb2 e0 e1 e2)
    | (refine Mem.wpList_alloc (o := ⟨some 3, _, _, _, _, _⟩) rfl 138 rfl _ Pac.zero_two ?_
       intro w3 hn3
       have e2 := Mem.keep hn3.below f2
       have Hn3 := Lib.hid hn3
       clear hn3 f2)
    | (refine Mem.wpList_store rfl 138 (.tmp 3) (.tmp 5) rfl _ #[.float .f64 m, .float .f64 d] rfl rfl _ _ Hn3.out.row Pac.size_two rfl (Pac.one_two _ _) ?_
       intro w4 hp4
       have f2 := Mem.keep_but (Mem.But.of_put (S := fun i => i = w2.heap.size) hp4 rfl) (by have := block_lt_of_cell e2; have := Hn1.out.size; have := Hb2.out.size; show ¬ w.heap.size = w2.heap.size; omega) e2
       have q0 := Mem.put_cell1 hp4 0 (v := .float .f64 m) rfl
       have q1 := Mem.put_cell1 hp4 1 (v := .float .f64 d) rfl
       have Hp4 := Lib.hid hp4
       clear hp4 e2)
    | (go_at_call 72
       with_reducible refine (pace_counts m _).mono ?_
       rw [H1.out]
       rintro e w5 ⟨rfl, rfl⟩)
    | (go_at_call 72
       with_reducible refine (pace_counts d _).mono ?_
       rw [H2.out]
       rintro e w5 ⟨rfl, rfl⟩))
  go_ret
  exact ⟨rfl, (Mem.then_ (Mem.then_ Hn1.out.below Hb2.out) Hn3.out.below).trans (Hp4.out.below (Mem.then_ Hn1.out.below Hb2.out).size)⟩

set_option maxRecDepth 100000 in
set_option maxHeartbeats 1000000 in
theorem pace_may_ztt (m d : Nat) (h1 : Pac.cnt m = true) (h2 : Pac.cnt d = true) (h3 : (FloatKind.f64.format.order m 0 == some .eq) = true) (h4 : (FloatKind.f64.format.order d 0 == some .eq) = true) (w : World) :
    Calls Try.prog 63 #[.agg #[.float .f64 m, .float .f64 d, .bool false]] w fun e w' => e = .returned (.bool true) ∧ Below w.heap.size w w' := by
  have H1 := Lib.hid h1
  have H2 := Lib.hid h2
  have hq := fun w => Pac.eq_two m d w true true h3 h4
  clear h3 h4
  clear h1 h2
  go_enter Try.func63, Try.ntmps63
  go_wp2_with (first
    | (refine Mem.wpList_box (o := ⟨some 1, _, _, _, _, _⟩) rfl 75 _ rfl (.agg #[.float .f64 m, .float .f64 d, .bool false]) rfl ?_
       intro w1 hn1
       have e0 := hn1.cell1 0 (v := .float .f64 m) rfl
       have e1 := hn1.cell1 1 (v := .float .f64 d) rfl
       have e2 := hn1.cell1 2 (v := .bool false) rfl
       have Hn1 := Lib.hid hn1
       clear hn1)
    | (go_at_call 77
       refine (pace_numbers m d false _).mono ?_
       rintro e w2 ⟨rfl, hb2⟩
       have f2 := Mem.keep hb2 e2
       have Hb2 := Lib.hid hb2
       clear hb2 e0 e1 e2)
    | (refine Mem.wpList_alloc (o := ⟨some 3, _, _, _, _, _⟩) rfl 138 rfl _ Pac.zero_two ?_
       intro w3 hn3
       have e2 := Mem.keep hn3.below f2
       have Hn3 := Lib.hid hn3
       clear hn3 f2)
    | (refine Mem.wpList_store rfl 138 (.tmp 3) (.tmp 5) rfl _ #[.float .f64 m, .float .f64 d] rfl rfl _ _ Hn3.out.row Pac.size_two rfl (Pac.one_two _ _) ?_
       intro w4 hp4
       have f2 := Mem.keep_but (Mem.But.of_put (S := fun i => i = w2.heap.size) hp4 rfl) (by have := block_lt_of_cell e2; have := Hn1.out.size; have := Hb2.out.size; show ¬ w.heap.size = w2.heap.size; omega) e2
       have q0 := Mem.put_cell1 hp4 0 (v := .float .f64 m) rfl
       have q1 := Mem.put_cell1 hp4 1 (v := .float .f64 d) rfl
       have Hp4 := Lib.hid hp4
       clear hp4 e2)
    | (go_at_call 72
       with_reducible refine (pace_counts m _).mono ?_
       rw [H1.out]
       rintro e w5 ⟨rfl, rfl⟩)
    | (go_at_call 72
       with_reducible refine (pace_counts d _).mono ?_
       rw [H2.out]
       rintro e w5 ⟨rfl, rfl⟩))
  go_ret
  exact ⟨rfl, (Mem.then_ (Mem.then_ Hn1.out.below Hb2.out) Hn3.out.below).trans (Hp4.out.below (Mem.then_ Hn1.out.below Hb2.out).size)⟩

theorem pace_may (m d : Nat) (s : Bool) (w : World) :
    Calls Try.prog 63 #[.agg #[.float .f64 m, .float .f64 d, .bool s]] w fun e w' => e = .returned (.bool (Pac.may m d s)) ∧ Below w.heap.size w w' := by
  unfold Pac.may Pac.eqB
  cases h1 : Pac.cnt m
  · exact pace_may_n1 m d s h1 w
  · cases h2 : Pac.cnt d
    · exact pace_may_n2 m d s h1 h2 w
    · cases s
      · cases h3 : (Pac.ord m 0 == some .eq)
        · exact pace_may_zf m d h1 h2 h3 w
        · cases h4 : (Pac.ord d 0 == some .eq)
          · exact pace_may_ztf m d h1 h2 h3 h4 w
          · exact pace_may_ztt m d h1 h2 h3 h4 w
      · exact pace_may_y m d h1 h2 w
end Go.Proofs.Ytgkadhogfejheaa
