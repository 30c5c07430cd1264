/- The walks of package pace and of its reference: waiting; PaceWaits. -/
import Derived.Test.YtgkadhogfejheaaZPacG
set_option linter.unusedVariables false
set_option linter.unusedSimpArgs false
namespace Go.Proofs.Ytgkadhogfejheaa
open Go.RowKit

set_option maxRecDepth 100000 in
set_option maxHeartbeats 1000000 in
theorem pace_wait_bad (m d : Nat) (s : Bool) (tries : Int) (hmay : Pac.may m d s = false) (htr : tries ≤ 9223372036854775807) (w : World) :
    Calls Try.prog 44 #[.agg #[.float .f64 m, .float .f64 d, .bool s], .int .i64 tries] w fun e w' =>
      e = .returned (.int .i64 (Pac.dbl 8 tries.toNat)) ∧ Below w.heap.size w w' := by
  have HM := Lib.hid hmay
  obtain ⟨n, hn⟩ : ∃ n : Nat, n = 8 := ⟨_, rfl⟩
  obtain ⟨R, hR⟩ : ∃ R, Pac.dbl 8 tries.toNat = R := ⟨_, rfl⟩
  rw [hR]
  have HR := Lib.hid hR
  have Htr := Lib.hid htr
  clear hmay hR htr hn
  go_enter Try.func44, Try.ntmps44
  go_wp2_with (first
    | (refine Mem.wpList_box (o := ⟨some 2, _, _, _, _, _⟩) rfl 75 _ rfl (.agg #[.float .f64 m, .float .f64 d, .bool s]) rfl ?_
       intro w1 hn1
       have f0 := hn1.cell1 0 (v := .float .f64 m) rfl
       have f1 := hn1.cell1 1 (v := .float .f64 d) rfl
       have f2 := hn1.cell1 2 (v := .bool s) rfl
       have Hn1 := Lib.hid hn1
       clear hn1)
    | (go_at_call 63
       refine (pace_may m d s _).mono ?_
       rw [HM.out]
       rintro e w3 ⟨rfl, hb3⟩
       have g2 := Mem.keep hb3 f2
       have Hb3 := Lib.hid hb3
       clear hb3 f0 f1 f2))
  clear g2
  go_loop [1, 5] (fun t1 t5 => ∃ (t : Int) (k : Nat), t1 = .int .i64 t ∧ t5 = .int .i64 k ∧ t ≤ 9223372036854775807 ∧ 2 ≤ k ∧ k ≤ 64 ∧ Pac.dbl k t.toNat = R) (fun t1 _ => (intOf t1).toNat)
  case atStart => exact ⟨tries, 8, rfl, rfl, Htr.out, by omega, by omega, HR.out⟩
  case round =>
    obtain ⟨t, k, rfl, rfl, ht, hk2, hk64, hrel⟩ := hrel
    by_cases hgo : 0 < t ∧ k < 64
    · obtain ⟨h1, h2⟩ := hgo
      have d1 : decide ((0 : Int) < t) = true := decide_eq_true h1
      have d2 : decide ((k : Int) < 64) = true := decide_eq_true (by omega)
      have h2' : (k : Int) < 64 := by omega
      have hstep : Pac.dbl (min (2 * k) 64) (t - 1).toNat = R := by
        rw [← hrel]
        have : t.toNat = (t - 1).toNat + 1 := by omega
        rw [this]; simp [Pac.dbl, h2]
      have Hstep := Lib.hid hstep
      clear hstep hrel
      by_cases h3 : 2 * k ≤ 64
      · have hmin : ¬ (64 : Int) < 2 * (k : Int) := by omega
        go_wp2
        go_round
        case rel => exact ⟨t - 1, 2 * k, rfl, by go_num, by omega, by omega, h3, by have := Hstep.out; rw [Nat.min_eq_left h3] at this; exact this⟩
        case measure => simp [intOf]; omega
      · have hmin : (64 : Int) < 2 * (k : Int) := by omega
        go_wp2
        go_round
        case rel => exact ⟨t - 1, 64, rfl, rfl, by omega, by omega, by omega, by have := Hstep.out; rw [Nat.min_eq_right (by omega)] at this; exact this⟩
        case measure => simp [intOf]; omega
    · have hR : R = k := by
        rw [← hrel]
        by_cases h1 : 0 < t
        · exact Pac.dbl_top k _ (by omega)
        · have : t.toNat = 0 := by omega
          rw [this]; rfl
      clear hrel
      by_cases h1 : 0 < t
      · have d1 : decide ((0 : Int) < t) = true := decide_eq_true h1
        have d2 : decide ((k : Int) < 64) = false := decide_eq_false (by omega)
        have h2' : ¬ (k : Int) < 64 := by omega
        have HRk := Lib.hid hR
        clear hR hgo
        go_wp2
        go_ret
        exact ⟨by rw [HRk.out]; rfl, Mem.then_ Hn1.out.below Hb3.out⟩
      · have d1 : decide ((0 : Int) < t) = false := decide_eq_false h1
        have HRk := Lib.hid hR
        clear hR hgo
        go_wp2
        go_ret
        exact ⟨by rw [HRk.out]; rfl, Mem.then_ Hn1.out.below Hb3.out⟩

set_option maxRecDepth 100000 in
set_option maxHeartbeats 1000000 in
theorem pace_wait_none (m d : Nat) (tries : Int) (hmay : Pac.may m d false = true) (htr : tries ≤ 9223372036854775807) (w : World) :
    Calls Try.prog 44 #[.agg #[.float .f64 m, .float .f64 d, .bool false], .int .i64 tries] w fun e w' =>
      e = .returned (.int .i64 (Pac.dbl 8 tries.toNat)) ∧ Below w.heap.size w w' := by
  have HM := Lib.hid hmay
  obtain ⟨n, hn⟩ : ∃ n : Nat, n = 8 := ⟨_, rfl⟩
  obtain ⟨R, hR⟩ : ∃ R, Pac.dbl 8 tries.toNat = R := ⟨_, rfl⟩
  rw [hR]
  have HR := Lib.hid hR
  have Htr := Lib.hid htr
  clear hmay hR htr hn
  go_enter Try.func44, Try.ntmps44
  go_wp2_with (first
    | (refine Mem.wpList_box (o := ⟨some 2, _, _, _, _, _⟩) rfl 75 _ rfl (.agg #[.float .f64 m, .float .f64 d, .bool false]) rfl ?_
       intro w1 hn1
       have f0 := hn1.cell1 0 (v := .float .f64 m) rfl
       have f1 := hn1.cell1 1 (v := .float .f64 d) rfl
       have f2 := hn1.cell1 2 (v := .bool false) rfl
       have Hn1 := Lib.hid hn1
       clear hn1)
    | (go_at_call 63
       refine (pace_may m d false _).mono ?_
       rw [HM.out]
       rintro e w3 ⟨rfl, hb3⟩
       have g2 := Mem.keep hb3 f2
       have Hb3 := Lib.hid hb3
       clear hb3 f0 f1 f2))
  clear g2
  go_loop [1, 5] (fun t1 t5 => ∃ (t : Int) (k : Nat), t1 = .int .i64 t ∧ t5 = .int .i64 k ∧ t ≤ 9223372036854775807 ∧ 2 ≤ k ∧ k ≤ 64 ∧ Pac.dbl k t.toNat = R) (fun t1 _ => (intOf t1).toNat)
  case atStart => exact ⟨tries, 8, rfl, rfl, Htr.out, by omega, by omega, HR.out⟩
  case round =>
    obtain ⟨t, k, rfl, rfl, ht, hk2, hk64, hrel⟩ := hrel
    by_cases hgo : 0 < t ∧ k < 64
    · obtain ⟨h1, h2⟩ := hgo
      have d1 : decide ((0 : Int) < t) = true := decide_eq_true h1
      have d2 : decide ((k : Int) < 64) = true := decide_eq_true (by omega)
      have h2' : (k : Int) < 64 := by omega
      have hstep : Pac.dbl (min (2 * k) 64) (t - 1).toNat = R := by
        rw [← hrel]
        have : t.toNat = (t - 1).toNat + 1 := by omega
        rw [this]; simp [Pac.dbl, h2]
      have Hstep := Lib.hid hstep
      clear hstep hrel
      by_cases h3 : 2 * k ≤ 64
      · have hmin : ¬ (64 : Int) < 2 * (k : Int) := by omega
        go_wp2
        go_round
        case rel => exact ⟨t - 1, 2 * k, rfl, by go_num, by omega, by omega, h3, by have := Hstep.out; rw [Nat.min_eq_left h3] at this; exact this⟩
        case measure => simp [intOf]; omega
      · have hmin : (64 : Int) < 2 * (k : Int) := by omega
        go_wp2
        go_round
        case rel => exact ⟨t - 1, 64, rfl, rfl, by omega, by omega, by omega, by have := Hstep.out; rw [Nat.min_eq_right (by omega)] at this; exact this⟩
        case measure => simp [intOf]; omega
    · have hR : R = k := by
        rw [← hrel]
        by_cases h1 : 0 < t
        · exact Pac.dbl_top k _ (by omega)
        · have : t.toNat = 0 := by omega
          rw [this]; rfl
      clear hrel
      by_cases h1 : 0 < t
      · have d1 : decide ((0 : Int) < t) = true := decide_eq_true h1
        have d2 : decide ((k : Int) < 64) = false := decide_eq_false (by omega)
        have h2' : ¬ (k : Int) < 64 := by omega
        have HRk := Lib.hid hR
        clear hR hgo
        go_wp2
        go_ret
        exact ⟨by rw [HRk.out]; rfl, Mem.then_ Hn1.out.below Hb3.out⟩
      · have d1 : decide ((0 : Int) < t) = false := decide_eq_false h1
        have HRk := Lib.hid hR
        clear hR hgo
        go_wp2
        go_ret
        exact ⟨by rw [HRk.out]; rfl, Mem.then_ Hn1.out.below Hb3.out⟩

set_option maxRecDepth 100000 in
set_option maxHeartbeats 1000000 in
theorem ref_wait_bad (m d : Nat) (s : Bool) (tries : Int) (hmay : Pac.may m d s = false) (htr : tries ≤ 9223372036854775807) (w : World) :
    Calls Try.prog 33 #[.agg #[.float .f64 m, .float .f64 d, .bool s], .int .i64 tries] w fun e w' =>
      e = .returned (.int .i64 (Pac.dbl 8 tries.toNat)) ∧ Below w.heap.size w w' := by
  have HM := Lib.hid hmay
  obtain ⟨R, hR⟩ : ∃ R, Pac.dbl 8 tries.toNat = R := ⟨_, rfl⟩
  rw [hR]
  have HR := Lib.hid (show Pac.dbl (min 8 64) (tries - ((0 : Nat) : Int)).toNat = R by rw [← hR, Nat.min_eq_left (by omega)]; simp)
  have Htr := Lib.hid htr
  clear hmay hR htr
  go_enter Try.func33, Try.ntmps33
  go_wp2_with (first
    | (refine Mem.wpList_box (o := ⟨some 2, _, _, _, _, _⟩) rfl 50 _ rfl (.agg #[.float .f64 m, .float .f64 d, .bool s]) rfl ?_
       intro w1 hn1
       have f0 := hn1.cell1 0 (v := .float .f64 m) rfl
       have f1 := hn1.cell1 1 (v := .float .f64 d) rfl
       have f2 := hn1.cell1 2 (v := .bool s) rfl
       have Hn1 := Lib.hid hn1
       clear hn1)
    | (go_at_call 50
       refine (ref_may m d s _).mono ?_
       rw [HM.out]
       rintro e w3 ⟨rfl, hb3⟩
       have g0 := Mem.keep hb3 f0
       have g1 := Mem.keep hb3 f1
       have g2 := Mem.keep hb3 f2
       have Hb3 := Lib.hid hb3
       clear hb3 f0 f1 f2))
  clear g0 g1 g2
  go_loop [5, 8] (fun t5 t8 => ∃ (i k : Nat), t8 = .int .i64 i ∧ t5 = .int .i64 k ∧ (i : Int) ≤ 9223372036854775807 ∧ k ≤ 126 ∧ ((i : Int) ≤ tries ∨ i = 0) ∧ Pac.dbl (min k 64) (tries - i).toNat = R) (fun _ t8 => tries.toNat - (intOf t8).toNat)
  case atStart => exact ⟨0, 8, rfl, rfl, by omega, by omega, .inr rfl, by rw [← HR.out]⟩
  case round =>
    obtain ⟨i, k, rfl, rfl, hi, hk, hit, hrel⟩ := hrel
    by_cases hgo : (i : Int) < tries ∧ k < 64
    · obtain ⟨h1, h2⟩ := hgo
      have d1 : decide ((i : Int) < tries) = true := decide_eq_true h1
      have d2 : decide ((k : Int) < 64) = true := decide_eq_true (by omega)
      have h2' : (k : Int) < 64 := by omega
      have htl := Htr.out
      have hstep : Pac.dbl (min (2 * k) 64) (tries - ((i + 1 : Nat) : Int)).toNat = R := by
        rw [← hrel, Nat.min_eq_left (by omega : k ≤ 64)]
        have : (tries - (i : Int)).toNat = (tries - ((i + 1 : Nat) : Int)).toNat + 1 := by omega
        rw [this]; simp [Pac.dbl, h2]
      have Hstep := Lib.hid hstep
      have hi2 : (i : Int) + 1 ≤ 9223372036854775807 := by omega
      clear hstep hrel hit
      go_wp2
      go_round
      case rel => exact ⟨i + 1, 2 * k, by go_num, by go_num, by omega, by omega, .inl (by omega), Hstep.out⟩
      case measure => simp [intOf]; omega
    · have hR : R = min k 64 := by
        rw [← hrel]
        by_cases h1 : (i : Int) < tries
        · rw [Nat.min_eq_right (by omega)]; exact Pac.dbl_top 64 _ (by omega)
        · have : (tries - (i : Int)).toNat = 0 := by omega
          rw [this]; rfl
      clear hrel hit
      by_cases h3 : 64 < k
      · have hR2 : R = 64 := by omega
        have HRk := Lib.hid hR2
        have d3 : decide ((64 : Int) < (k : Int)) = true := decide_eq_true (by omega)
        have h3' : (64 : Int) < (k : Int) := by omega
        have d2 : decide ((k : Int) < 64) = false := decide_eq_false (by omega)
        have h2' : ¬ (k : Int) < 64 := by omega
        by_cases h1 : (i : Int) < tries
        · have d1 : decide ((i : Int) < tries) = true := decide_eq_true h1
          clear hR hR2 hgo
          go_wp2
          go_ret
          exact ⟨by rw [HRk.out]; rfl, Mem.then_ Hn1.out.below Hb3.out⟩
        · have d1 : decide ((i : Int) < tries) = false := decide_eq_false h1
          clear hR hR2 hgo
          go_wp2
          go_ret
          exact ⟨by rw [HRk.out]; rfl, Mem.then_ Hn1.out.below Hb3.out⟩
      · have hR2 : R = k := by omega
        have HRk := Lib.hid hR2
        have d3 : decide ((64 : Int) < (k : Int)) = false := decide_eq_false (by omega)
        have h3' : ¬ (64 : Int) < (k : Int) := by omega
        by_cases h1 : (i : Int) < tries
        · have d1 : decide ((i : Int) < tries) = true := decide_eq_true h1
          have d2 : decide ((k : Int) < 64) = false := decide_eq_false (by omega)
          have h2' : ¬ (k : Int) < 64 := by omega
          clear hR hR2 hgo
          go_wp2
          go_ret
          exact ⟨by rw [HRk.out]; rfl, Mem.then_ Hn1.out.below Hb3.out⟩
        · have d1 : decide ((i : Int) < tries) = false := decide_eq_false h1
          clear hR hR2 hgo
          go_wp2
          go_ret
          exact ⟨by rw [HRk.out]; rfl, Mem.then_ Hn1.out.below Hb3.out⟩

set_option maxRecDepth 100000 in
set_option maxHeartbeats 1000000 in
theorem ref_wait_none (m d : Nat) (tries : Int) (hmay : Pac.may m d false = true) (htr : tries ≤ 9223372036854775807) (w : World) :
    Calls Try.prog 33 #[.agg #[.float .f64 m, .float .f64 d, .bool false], .int .i64 tries] w fun e w' =>
      e = .returned (.int .i64 (Pac.dbl 8 tries.toNat)) ∧ Below w.heap.size w w' := by
  have HM := Lib.hid hmay
  obtain ⟨R, hR⟩ : ∃ R, Pac.dbl 8 tries.toNat = R := ⟨_, rfl⟩
  rw [hR]
  have HR := Lib.hid (show Pac.dbl (min 8 64) (tries - ((0 : Nat) : Int)).toNat = R by rw [← hR, Nat.min_eq_left (by omega)]; simp)
  have Htr := Lib.hid htr
  clear hmay hR htr
  go_enter Try.func33, Try.ntmps33
  go_wp2_with (first
    | (refine Mem.wpList_box (o := ⟨some 2, _, _, _, _, _⟩) rfl 50 _ rfl (.agg #[.float .f64 m, .float .f64 d, .bool false]) rfl ?_
       intro w1 hn1
       have f0 := hn1.cell1 0 (v := .float .f64 m) rfl
       have f1 := hn1.cell1 1 (v := .float .f64 d) rfl
       have f2 := hn1.cell1 2 (v := .bool false) rfl
       have Hn1 := Lib.hid hn1
       clear hn1)
    | (go_at_call 50
       refine (ref_may m d false _).mono ?_
       rw [HM.out]
       rintro e w3 ⟨rfl, hb3⟩
       have g0 := Mem.keep hb3 f0
       have g1 := Mem.keep hb3 f1
       have g2 := Mem.keep hb3 f2
       have Hb3 := Lib.hid hb3
       clear hb3 f0 f1 f2))
  clear g0 g1 g2
  go_loop [5, 8] (fun t5 t8 => ∃ (i k : Nat), t8 = .int .i64 i ∧ t5 = .int .i64 k ∧ (i : Int) ≤ 9223372036854775807 ∧ k ≤ 126 ∧ ((i : Int) ≤ tries ∨ i = 0) ∧ Pac.dbl (min k 64) (tries - i).toNat = R) (fun _ t8 => tries.toNat - (intOf t8).toNat)
  case atStart => exact ⟨0, 8, rfl, rfl, by omega, by omega, .inr rfl, by rw [← HR.out]⟩
  case round =>
    obtain ⟨i, k, rfl, rfl, hi, hk, hit, hrel⟩ := hrel
    by_cases hgo : (i : Int) < tries ∧ k < 64
    · obtain ⟨h1, h2⟩ := hgo
      have d1 : decide ((i : Int) < tries) = true := decide_eq_true h1
      have d2 : decide ((k : Int) < 64) = true := decide_eq_true (by omega)
      have h2' : (k : Int) < 64 := by omega
      have htl := Htr.out
      have hstep : Pac.dbl (min (2 * k) 64) (tries - ((i + 1 : Nat) : Int)).toNat = R := by
        rw [← hrel, Nat.min_eq_left (by omega : k ≤ 64)]
        have : (tries - (i : Int)).toNat = (tries - ((i + 1 : Nat) : Int)).toNat + 1 := by omega
        rw [this]; simp [Pac.dbl, h2]
      have Hstep := Lib.hid hstep
      have hi2 : (i : Int) + 1 ≤ 9223372036854775807 := by omega
      clear hstep hrel hit
      go_wp2
      go_round
      case rel => exact ⟨i + 1, 2 * k, by go_num, by go_num, by omega, by omega, .inl (by omega), Hstep.out⟩
      case measure => simp [intOf]; omega
    · have hR : R = min k 64 := by
        rw [← hrel]
        by_cases h1 : (i : Int) < tries
        · rw [Nat.min_eq_right (by omega)]; exact Pac.dbl_top 64 _ (by omega)
        · have : (tries - (i : Int)).toNat = 0 := by omega
          rw [this]; rfl
      clear hrel hit
      by_cases h3 : 64 < k
      · have hR2 : R = 64 := by omega
        have HRk := Lib.hid hR2
        have d3 : decide ((64 : Int) < (k : Int)) = true := decide_eq_true (by omega)
        have h3' : (64 : Int) < (k : Int) := by omega
        have d2 : decide ((k : Int) < 64) = false := decide_eq_false (by omega)
        have h2' : ¬ (k : Int) < 64 := by omega
        by_cases h1 : (i : Int) < tries
        · have d1 : decide ((i : Int) < tries) = true := decide_eq_true h1
          clear hR hR2 hgo
          go_wp2
          go_ret
          exact ⟨by rw [HRk.out]; rfl, Mem.then_ Hn1.out.below Hb3.out⟩
        · have d1 : decide ((i : Int) < tries) = false := decide_eq_false h1
          clear hR hR2 hgo
          go_wp2
          go_ret
          exact ⟨by rw [HRk.out]; rfl, Mem.then_ Hn1.out.below Hb3.out⟩
      · have hR2 : R = k := by omega
        have HRk := Lib.hid hR2
        have d3 : decide ((64 : Int) < (k : Int)) = false := decide_eq_false (by omega)
        have h3' : ¬ (64 : Int) < (k : Int) := by omega
        by_cases h1 : (i : Int) < tries
        · have d1 : decide ((i : Int) < tries) = true := decide_eq_true h1
          have d2 : decide ((k : Int) < 64) = false := decide_eq_false (by omega)
          have h2' : ¬ (k : Int) < 64 := by omega
          clear hR hR2 hgo
          go_wp2
          go_ret
          exact ⟨by rw [HRk.out]; rfl, Mem.then_ Hn1.out.below Hb3.out⟩
        · have d1 : decide ((i : Int) < tries) = false := decide_eq_false h1
          clear hR hR2 hgo
          go_wp2
          go_ret
          exact ⟨by rw [HRk.out]; rfl, Mem.then_ Hn1.out.below Hb3.out⟩

set_option maxRecDepth 100000 in
set_option maxHeartbeats 1000000 in
theorem ref_wait_some (m d q x n : Nat) (tries : Int) (hmay : Pac.may m d true = true) (hq : floatBits .mul .f64 4616189618054758400 d = some q) (hx : floatBits .add .f64 m q = some x) (hn : 2 ≤ n ∧ n ≤ 64) (hj : ∀ j : Nat, 2 ≤ j → j < 64 → (Pac.ord (floatOfInt .f64 j) x == some .lt) = decide (j < n)) (htr : tries ≤ 9223372036854775807) (w : World) :
    Calls Try.prog 33 #[.agg #[.float .f64 m, .float .f64 d, .bool true], .int .i64 tries] w fun e w' =>
      e = .returned (.int .i64 (Pac.dbl n tries.toNat)) ∧ Below w.heap.size w w' := by
  have HM := Lib.hid hmay
  have e1 := fun w => run_float_arith (P := Try.prog) w .mul 48 .f64 4616189618054758400 d q hq
  have e2 := fun w => run_float_arith (P := Try.prog) w .add 48 .f64 m q x hx
  obtain ⟨hn1', hn2'⟩ := hn
  have HJ := Lib.hid hj
  obtain ⟨R, hR⟩ : ∃ R, Pac.dbl n tries.toNat = R := ⟨_, rfl⟩
  rw [hR]
  have HR := Lib.hid (show Pac.dbl (min n 64) (tries - ((0 : Nat) : Int)).toNat = R by rw [← hR, Nat.min_eq_left (by omega)]; simp)
  have Htr := Lib.hid htr
  clear hmay hR htr hq hx hj
  go_enter Try.func33, Try.ntmps33
  go_wp2_with (first
    | (refine Mem.wpList_box (o := ⟨some 2, _, _, _, _, _⟩) rfl 50 _ rfl (.agg #[.float .f64 m, .float .f64 d, .bool true]) rfl ?_
       intro w1 hn1
       have f0 := hn1.cell1 0 (v := .float .f64 m) rfl
       have f1 := hn1.cell1 1 (v := .float .f64 d) rfl
       have f2 := hn1.cell1 2 (v := .bool true) rfl
       have Hn1 := Lib.hid hn1
       clear hn1)
    | (go_at_call 50
       refine (ref_may m d true _).mono ?_
       rw [HM.out]
       rintro e w3 ⟨rfl, hb3⟩
       have g0 := Mem.keep hb3 f0
       have g1 := Mem.keep hb3 f1
       have g2 := Mem.keep hb3 f2
       have Hb3 := Lib.hid hb3
       clear hb3 f0 f1 f2))
  clear g0 g1 g2 e1 e2
  go_loop [5] (fun t5 => ∃ j : Nat, t5 = .int .i64 j ∧ 2 ≤ j ∧ j ≤ n) (fun t5 => n - (intOf t5).toNat)
  case atStart => exact ⟨2, rfl, by omega, by omega⟩
  case round =>
    obtain ⟨j, rfl, hj2, hjn⟩ := hrel
    by_cases hlt : j < n
    · have d1 : decide ((j : Int) < 64) = true := decide_eq_true (by omega)
      have h1 : (j : Int) < 64 := by omega
      have d2 : (FloatKind.f64.format.order (floatOfInt .f64 j) x == some .lt) = true := by rw [HJ.out j hj2 (by omega)]; exact decide_eq_true hlt
      go_wp2
      go_round
      case rel => exact ⟨j + 1, by go_num, by omega, by omega⟩
      case measure => simp [intOf]; omega
    · have hjn2 : j = n := by omega
      subst hjn2
      by_cases h64 : j < 64
      · have d1 : decide ((j : Int) < 64) = true := decide_eq_true (by omega)
        have h1 : (j : Int) < 64 := by omega
        have d2 : (FloatKind.f64.format.order (floatOfInt .f64 j) x == some .lt) = false := by rw [HJ.out j hj2 h64]; exact decide_eq_false hlt
        clear hlt hjn
        go_wp2
        go_loop [5, 8] (fun t5 t8 => ∃ (i k : Nat), t8 = .int .i64 i ∧ t5 = .int .i64 k ∧ (i : Int) ≤ 9223372036854775807 ∧ k ≤ 126 ∧ ((i : Int) ≤ tries ∨ i = 0) ∧ Pac.dbl (min k 64) (tries - i).toNat = R) (fun _ t8 => tries.toNat - (intOf t8).toNat)
        case atStart => exact ⟨0, j, rfl, rfl, by omega, by omega, .inr rfl, by rw [← HR.out]⟩
        case round =>
          obtain ⟨i, k, rfl, rfl, hi, hk, hit, hrel⟩ := hrel
          by_cases hgo : (i : Int) < tries ∧ k < 64
          · obtain ⟨h1, h2⟩ := hgo
            have d1 : decide ((i : Int) < tries) = true := decide_eq_true h1
            have d2 : decide ((k : Int) < 64) = true := decide_eq_true (by omega)
            have h2' : (k : Int) < 64 := by omega
            have htl := Htr.out
            have hstep : Pac.dbl (min (2 * k) 64) (tries - ((i + 1 : Nat) : Int)).toNat = R := by
              rw [← hrel, Nat.min_eq_left (by omega : k ≤ 64)]
              have : (tries - (i : Int)).toNat = (tries - ((i + 1 : Nat) : Int)).toNat + 1 := by omega
              rw [this]; simp [Pac.dbl, h2]
            have Hstep := Lib.hid hstep
            have hi2 : (i : Int) + 1 ≤ 9223372036854775807 := by omega
            clear hstep hrel hit
            go_wp2
            go_round
            case rel => exact ⟨i + 1, 2 * k, by go_num, by go_num, by omega, by omega, .inl (by omega), Hstep.out⟩
            case measure => simp [intOf]; omega
          · have hR : R = min k 64 := by
              rw [← hrel]
              by_cases h1 : (i : Int) < tries
              · rw [Nat.min_eq_right (by omega)]; exact Pac.dbl_top 64 _ (by omega)
              · have : (tries - (i : Int)).toNat = 0 := by omega
                rw [this]; rfl
            clear hrel hit
            by_cases h3 : 64 < k
            · have hR2 : R = 64 := by omega
              have HRk := Lib.hid hR2
              have d3 : decide ((64 : Int) < (k : Int)) = true := decide_eq_true (by omega)
              have h3' : (64 : Int) < (k : Int) := by omega
              have d2 : decide ((k : Int) < 64) = false := decide_eq_false (by omega)
              have h2' : ¬ (k : Int) < 64 := by omega
              by_cases h1 : (i : Int) < tries
              · have d1 : decide ((i : Int) < tries) = true := decide_eq_true h1
                clear hR hR2 hgo
                go_wp2
                go_ret
                exact ⟨by rw [HRk.out]; rfl, Mem.then_ Hn1.out.below Hb3.out⟩
              · have d1 : decide ((i : Int) < tries) = false := decide_eq_false h1
                clear hR hR2 hgo
                go_wp2
                go_ret
                exact ⟨by rw [HRk.out]; rfl, Mem.then_ Hn1.out.below Hb3.out⟩
            · have hR2 : R = k := by omega
              have HRk := Lib.hid hR2
              have d3 : decide ((64 : Int) < (k : Int)) = false := decide_eq_false (by omega)
              have h3' : ¬ (64 : Int) < (k : Int) := by omega
              by_cases h1 : (i : Int) < tries
              · have d1 : decide ((i : Int) < tries) = true := decide_eq_true h1
                have d2 : decide ((k : Int) < 64) = false := decide_eq_false (by omega)
                have h2' : ¬ (k : Int) < 64 := by omega
                clear hR hR2 hgo
                go_wp2
                go_ret
                exact ⟨by rw [HRk.out]; rfl, Mem.then_ Hn1.out.below Hb3.out⟩
              · have d1 : decide ((i : Int) < tries) = false := decide_eq_false h1
                clear hR hR2 hgo
                go_wp2
                go_ret
                exact ⟨by rw [HRk.out]; rfl, Mem.then_ Hn1.out.below Hb3.out⟩
      · have d1 : decide ((j : Int) < 64) = false := decide_eq_false (by omega)
        have h1 : ¬ (j : Int) < 64 := by omega
        clear hlt hjn
        go_wp2
        go_loop [5, 8] (fun t5 t8 => ∃ (i k : Nat), t8 = .int .i64 i ∧ t5 = .int .i64 k ∧ (i : Int) ≤ 9223372036854775807 ∧ k ≤ 126 ∧ ((i : Int) ≤ tries ∨ i = 0) ∧ Pac.dbl (min k 64) (tries - i).toNat = R) (fun _ t8 => tries.toNat - (intOf t8).toNat)
        case atStart => exact ⟨0, j, rfl, rfl, by omega, by omega, .inr rfl, by rw [← HR.out]⟩
        case round =>
          obtain ⟨i, k, rfl, rfl, hi, hk, hit, hrel⟩ := hrel
          by_cases hgo : (i : Int) < tries ∧ k < 64
          · obtain ⟨h1, h2⟩ := hgo
            have d1 : decide ((i : Int) < tries) = true := decide_eq_true h1
            have d2 : decide ((k : Int) < 64) = true := decide_eq_true (by omega)
            have h2' : (k : Int) < 64 := by omega
            have htl := Htr.out
            have hstep : Pac.dbl (min (2 * k) 64) (tries - ((i + 1 : Nat) : Int)).toNat = R := by
              rw [← hrel, Nat.min_eq_left (by omega : k ≤ 64)]
              have : (tries - (i : Int)).toNat = (tries - ((i + 1 : Nat) : Int)).toNat + 1 := by omega
              rw [this]; simp [Pac.dbl, h2]
            have Hstep := Lib.hid hstep
            have hi2 : (i : Int) + 1 ≤ 9223372036854775807 := by omega
            clear hstep hrel hit
            go_wp2
            go_round
            case rel => exact ⟨i + 1, 2 * k, by go_num, by go_num, by omega, by omega, .inl (by omega), Hstep.out⟩
            case measure => simp [intOf]; omega
          · have hR : R = min k 64 := by
              rw [← hrel]
              by_cases h1 : (i : Int) < tries
              · rw [Nat.min_eq_right (by omega)]; exact Pac.dbl_top 64 _ (by omega)
              · have : (tries - (i : Int)).toNat = 0 := by omega
                rw [this]; rfl
            clear hrel hit
            by_cases h3 : 64 < k
            · have hR2 : R = 64 := by omega
              have HRk := Lib.hid hR2
              have d3 : decide ((64 : Int) < (k : Int)) = true := decide_eq_true (by omega)
              have h3' : (64 : Int) < (k : Int) := by omega
              have d2 : decide ((k : Int) < 64) = false := decide_eq_false (by omega)
              have h2' : ¬ (k : Int) < 64 := by omega
              by_cases h1 : (i : Int) < tries
              · have d1 : decide ((i : Int) < tries) = true := decide_eq_true h1
                clear hR hR2 hgo
                go_wp2
                go_ret
                exact ⟨by rw [HRk.out]; rfl, Mem.then_ Hn1.out.below Hb3.out⟩
              · have d1 : decide ((i : Int) < tries) = false := decide_eq_false h1
                clear hR hR2 hgo
                go_wp2
                go_ret
                exact ⟨by rw [HRk.out]; rfl, Mem.then_ Hn1.out.below Hb3.out⟩
            · have hR2 : R = k := by omega
              have HRk := Lib.hid hR2
              have d3 : decide ((64 : Int) < (k : Int)) = false := decide_eq_false (by omega)
              have h3' : ¬ (64 : Int) < (k : Int) := by omega
              by_cases h1 : (i : Int) < tries
              · have d1 : decide ((i : Int) < tries) = true := decide_eq_true h1
                have d2 : decide ((k : Int) < 64) = false := decide_eq_false (by omega)
                have h2' : ¬ (k : Int) < 64 := by omega
                clear hR hR2 hgo
                go_wp2
                go_ret
                exact ⟨by rw [HRk.out]; rfl, Mem.then_ Hn1.out.below Hb3.out⟩
              · have d1 : decide ((i : Int) < tries) = false := decide_eq_false h1
                clear hR hR2 hgo
                go_wp2
                go_ret
                exact ⟨by rw [HRk.out]; rfl, Mem.then_ Hn1.out.below Hb3.out⟩

/-- how long is waited: both say the same -/
theorem waits_both (m d : Nat) (s : Bool) : ∃ n : Nat, (2 ≤ n ∧ n ≤ 64) ∧
    (∀ (tries : Int) (w : World), tries ≤ 9223372036854775807 → Calls Try.prog 44 #[.agg #[.float .f64 m, .float .f64 d, .bool s], .int .i64 tries] w fun e w' => e = .returned (.int .i64 (Pac.dbl n tries.toNat)) ∧ Below w.heap.size w w') ∧
    (∀ (tries : Int) (w : World), tries ≤ 9223372036854775807 → Calls Try.prog 33 #[.agg #[.float .f64 m, .float .f64 d, .bool s], .int .i64 tries] w fun e w' => e = .returned (.int .i64 (Pac.dbl n tries.toNat)) ∧ Below w.heap.size w w') := by
  cases hmay : Pac.may m d s with
  | false => exact ⟨8, by omega, fun tries w h => pace_wait_bad m d s tries hmay h w, fun tries w h => ref_wait_bad m d s tries hmay h w⟩
  | true =>
    cases s with
    | false => exact ⟨8, by omega, fun tries w h => pace_wait_none m d tries hmay h w, fun tries w h => ref_wait_none m d tries hmay h w⟩
    | true =>
      obtain ⟨hm, hd⟩ := Pac.may_cnt hmay
      obtain ⟨q, x, hq, hx, hp⟩ := Pac.pace_waits hm hd
      obtain ⟨c, y, z, n, h1, h2, h3, h4, h5, h6, h7, h8⟩ := Pac.waits x hp
      exact ⟨n, h7, fun tries w h => pace_wait_some m d q x c y z n tries hmay hq hx h1 h2 h3 h4 h5 h6 h7 h w, fun tries w h => ref_wait_some m d q x n tries hmay hq hx h7 h8 h w⟩

end Go.Proofs.Ytgkadhogfejheaa
