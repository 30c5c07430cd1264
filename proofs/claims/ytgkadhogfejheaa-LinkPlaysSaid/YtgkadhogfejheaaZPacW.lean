/- The walks of package pace: waiting. -/
import Derived.Test.YtgkadhogfejheaaZPacR
set_option linter.unusedVariables false
set_option linter.unusedSimpArgs false
namespace Go.Proofs.Ytgkadhogfejheaa
open Go.RowKit

namespace Pac
def fmax (x y : Nat) : Nat := match ord x y with | some .lt => y | some .gt => x | _ => if (FloatKind.f64.decode x).neg then y else x
def fmin (x y : Nat) : Nat := match ord x y with | some .lt => x | some .gt => y | _ => if (FloatKind.f64.decode x).neg then x else y
theorem run_max_float (x y z : Nat) (h : ord x y ≠ none) (hz : fmax x y = z) (ts : Array TypeId) (t : TypeId) (w : World) : (Builtin.max_ ts t #[.float .f64 x, .float .f64 y]).run Try.prog w = .ok (.float .f64 z) w := by
  subst hz
  unfold fmax ord at *
  cases h2 : FloatKind.f64.format.order x y with
  | none => exact absurd h2 h
  | some o => cases o <;> simp [Builtin.max_, Builtin.max2, h2]
theorem run_min_float (x y z : Nat) (h : ord x y ≠ none) (hz : fmin x y = z) (ts : Array TypeId) (t : TypeId) (w : World) : (Builtin.min_ ts t #[.float .f64 x, .float .f64 y]).run Try.prog w = .ok (.float .f64 z) w := by
  subst hz
  unfold fmin ord at *
  cases h2 : FloatKind.f64.format.order x y with
  | none => exact absurd h2 h
  | some o => cases o <;> simp [Builtin.min_, Builtin.min2, h2]
def ceilB (x : Nat) : Option Nat := match FloatKind.f64.decode x with | .nan .. => none | d => some (FloatKind.f64.encode (d.integral .up))
theorem run_ceil (x c : Nat) (h : ceilB x = some c) (w : World) : (callFunc 78 #[.float .f64 x]).run Try.prog w = .ok (.value (.float .f64 c)) w := by
  rw [run_callFunc_extern (e := Extern.MathFloor.toIntegral "math.archCeil" .up) Try.func78 (by kernel_rfl) (by kernel_rfl) (by kernel_rfl) (by kernel_rfl)]
  obtain ⟨fn, fd, key, hfd⟩ : ∃ (fn : Bool → Nat → Sem Value) (fd : Ieee.Datum → Sem Value), Extern.MathFloor.toIntegral "math.archCeil" .up #[.float .f64 x] = (match FloatKind.f64.decode x with | .nan s t => fn s t | d => fd d) ∧
      (∀ d, fd d = pure (.float .f64 (FloatKind.f64.encode (d.integral .up)))) := ⟨_, _, rfl, fun _ => rfl⟩
  rw [key]
  unfold ceilB at h
  cases hd : FloatKind.f64.decode x with
  | nan s t => rw [hd] at h; cases h
  | number s m e => rw [hd] at h; injection h with h; simp only [hfd]; rw [h]; rfl
  | infinity s => rw [hd] at h; injection h with h; simp only [hfd]; rw [h]; rfl
/-- n doubled k times, but not above 64 -/
def dbl (n : Nat) : Nat → Nat
  | 0 => n
  | k + 1 => if n < 64 then dbl (min (2 * n) 64) k else n
theorem dbl_top (n k : Nat) (h : ¬ n < 64) : dbl n k = n := by
  cases k with
  | zero => rfl
  | succ k => simp [dbl, h]
end Pac

theorem math_ceil (x c : Nat) (h : Pac.ceilB x = some c) (w : World) :
    Calls Try.prog 64 #[.float .f64 x] w fun e w' => e = .returned (.float .f64 c) ∧ w = w' := by
  have h1 := Pac.run_ceil x c h
  clear h
  go_enter Try.func64, Try.ntmps64
  go_wp2
  go_ret
  exact ⟨rfl, rfl⟩

set_option maxRecDepth 100000 in
set_option maxHeartbeats 1000000 in
theorem pace_wait_some (m d q x c y z n : Nat) (tries : Int) (hmay : Pac.may m d true = true) (hq : floatBits .mul .f64 4616189618054758400 d = some q) (hx : floatBits .add .f64 m q = some x)
    (hc : Pac.ceilB x = some c) (hy : Pac.ord c 4611686018427387904 ≠ none) (hy2 : Pac.fmax c 4611686018427387904 = y) (hz : Pac.ord y 4634204016564240384 ≠ none) (hz2 : Pac.fmin y 4634204016564240384 = z)
    (hn : floatToIntVal .f64 z .i64 = some (n : Int)) (hn2 : 2 ≤ n ∧ n ≤ 64) (htr : tries ≤ 9223372036854775807) (w : World) :
    Calls Try.prog 44 #[.agg #[.float .f64 m, .float .f64 d, .bool true], .int .i64 tries] w fun e w' =>
      e = .returned (.int .i64 (Pac.dbl n tries.toNat)) ∧ Below w.heap.size w w' := by
  have HM := Lib.hid hmay
  have HC := Lib.hid hc
  have e1 := fun w => run_float_arith (P := Try.prog) w .mul 48 .f64 4616189618054758400 d q hq
  have e2 := fun w => run_float_arith (P := Try.prog) w .add 48 .f64 m q x hx
  have e3 := Pac.run_max_float c _ y hy hy2
  have e4 := Pac.run_min_float y _ z hz hz2
  have e5 := fun w => run_convert_float_int (P := Try.prog) w 48 3 .f64 .i64 z n (by rw [Try.underlying48]; rfl) Try.underlying3 hn
  obtain ⟨R, hR⟩ : ∃ R, Pac.dbl n tries.toNat = R := ⟨_, rfl⟩
  rw [hR]
  have HR := Lib.hid hR
  have Hn2 := Lib.hid hn2
  have Htr := Lib.hid htr
  clear hmay hq hx hc hy hy2 hz hz2 hn hn2 hR htr
  go_enter Try.func44, Try.ntmps44
  go_wp2_with (first
    | (refine Mem.wpList_box (o := ⟨some 2, _, _, _, _, _⟩) rfl 75 _ rfl (.agg #[.float .f64 m, .float .f64 d, .bool true]) rfl ?_
       intro w1 hn1
       have f0 := hn1.cell1 0 (v := .float .f64 m) rfl
       have f1 := hn1.cell1 1 (v := .float .f64 d) rfl
       have f2 := hn1.cell1 2 (v := .bool true) rfl
       have Hn1 := Lib.hid hn1
       clear hn1)
    | (go_at_call 63
       refine (pace_may m d true _).mono ?_
       rw [HM.out]
       rintro e w3 ⟨rfl, hb3⟩
       have g0 := Mem.keep hb3 f0
       have g1 := Mem.keep hb3 f1
       have g2 := Mem.keep hb3 f2
       have Hb3 := Lib.hid hb3
       clear hb3 f0 f1 f2)
    | (go_at_call 64
       with_reducible refine (math_ceil x c HC.out _).mono ?_
       rintro e w5 ⟨rfl, rfl⟩))
  clear e1 e2 e3 e4 e5 g0 g1 g2
  go_loop [1, 5] (fun t1 t5 => ∃ (t : Int) (k : Nat), t1 = .int .i64 t ∧ t5 = .int .i64 k ∧ t ≤ 9223372036854775807 ∧ 2 ≤ k ∧ k ≤ 64 ∧ Pac.dbl k t.toNat = R) (fun t1 _ => (intOf t1).toNat)
  case atStart => exact ⟨tries, n, rfl, rfl, Htr.out, Hn2.out.1, Hn2.out.2, HR.out⟩
  case round =>
    obtain ⟨t, k, rfl, rfl, ht, hk2, hk64, hrel⟩ := hrel
    by_cases hgo : 0 < t ∧ k < 64
    · obtain ⟨h1, h2⟩ := hgo
      have d1 : decide ((0 : Int) < t) = true := decide_eq_true h1
      have d2 : decide ((k : Int) < 64) = true := decide_eq_true (by omega)
      have h2' : (k : Int) < 64 := by omega
      have hstep : Pac.dbl (min (2 * k) 64) (t - 1).toNat = R := by
        rw [← hrel]
        have : t.toNat = (t - 1).toNat + 1 := by omega
        rw [this]; simp [Pac.dbl, h2]
      have Hstep := Lib.hid hstep
      clear hstep hrel
      by_cases h3 : 2 * k ≤ 64
      · have hmin : ¬ (64 : Int) < 2 * (k : Int) := by omega
        go_wp2
        go_round
        case rel => exact ⟨t - 1, 2 * k, rfl, by go_num, by omega, by omega, h3, by have := Hstep.out; rw [Nat.min_eq_left h3] at this; exact this⟩
        case measure => simp [intOf]; omega
      · have hmin : (64 : Int) < 2 * (k : Int) := by omega
        go_wp2
        go_round
        case rel => exact ⟨t - 1, 64, rfl, rfl, by omega, by omega, by omega, by have := Hstep.out; rw [Nat.min_eq_right (by omega)] at this; exact this⟩
        case measure => simp [intOf]; omega
    · have hR : R = k := by
        rw [← hrel]
        by_cases h1 : 0 < t
        · exact Pac.dbl_top k _ (by omega)
        · have : t.toNat = 0 := by omega
          rw [this]; rfl
      clear hrel
      by_cases h1 : 0 < t
      · have d1 : decide ((0 : Int) < t) = true := decide_eq_true h1
        have d2 : decide ((k : Int) < 64) = false := decide_eq_false (by omega)
        have h2' : ¬ (k : Int) < 64 := by omega
        have HRk := Lib.hid hR
        clear hR hgo
        go_wp2
        go_ret
        exact ⟨by rw [HRk.out]; rfl, Mem.then_ Hn1.out.below Hb3.out⟩
      · have d1 : decide ((0 : Int) < t) = false := decide_eq_false h1
        have HRk := Lib.hid hR
        clear hR hgo
        go_wp2
        go_ret
        exact ⟨by rw [HRk.out]; rfl, Mem.then_ Hn1.out.below Hb3.out⟩
end Go.Proofs.Ytgkadhogfejheaa
