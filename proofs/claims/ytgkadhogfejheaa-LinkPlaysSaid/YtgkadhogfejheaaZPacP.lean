/- The walks of package pace: small ones. -/
import Derived.Test.YtgkadhogfejheaaQM
import Derived.WalkLawsBesides
import Derived.Laws.Externs
import Derived.Deep.RegionHeld3
import Derived.Deep.DeepCutAuto
import Derived.Deep.QuietTactic
import Derived.BigQuiet
import Derived.Laws.StructEq
set_option linter.unusedVariables false
set_option linter.unusedSimpArgs false
namespace Go.Proofs.Ytgkadhogfejheaa
open Go.RowKit

namespace Pac
abbrev ord (x y : Nat) : Option Ordering := FloatKind.f64.format.order x y
def eqB (x y : Nat) : Bool := ord x y == some .eq
def leB (x y : Nat) : Bool := ord x y == some .lt || ord x y == some .eq
def geB (x y : Nat) : Bool := ord x y == some .gt || ord x y == some .eq
/-- is a number from 0 to a million? -/
def cnt (x : Nat) : Bool := geB x 0 && leB x 4696837146684686336
def may (m d : Nat) (s : Bool) : Bool := cnt m && (cnt d && (s || (eqB m 0 && eqB d 0)))
def blend (a b s : Nat) : Option Nat := (floatBits .sub .f64 b a).bind fun x => (floatBits .mul .f64 s x).bind fun y => floatBits .add .f64 a y
def plain (x : Nat) : Nat := if eqB x 0 then 0 else x
/-- without its sign -/
def abs (x : Nat) : Nat := (bits .andNot .u64 (x : Int) 9223372036854775808).toNat
theorem run_bits (x : Nat) (w : World) : (callFunc 86 #[.float .f64 x]).run Try.prog w = .ok (.value (.int .u64 x)) w := by
  rw [run_callFunc_extern (e := Extern.MathFloatBits.float64bits) Try.func86 (by kernel_rfl) (by kernel_rfl) (by kernel_rfl) (by kernel_rfl)]
  rfl
theorem run_frombits (n : Int) (w : World) : (callFunc 85 #[.int .u64 n]).run Try.prog w = .ok (.value (.float .f64 n.toNat)) w := by
  rw [run_callFunc_extern (e := Extern.MathFloatBits.float64frombits) Try.func85 (by kernel_rfl) (by kernel_rfl) (by kernel_rfl) (by kernel_rfl)]
  rfl
end Pac

theorem pace_counts (x : Nat) (w : World) :
    Calls Try.prog 72 #[.float .f64 x] w fun e w' => e = .returned (.bool (Pac.cnt x)) ∧ w = w' := by
  have h : Pac.cnt x = Pac.cnt x := rfl
  unfold Pac.cnt Pac.geB Pac.leB at h ⊢
  clear h
  go_enter Try.func72, Try.ntmps72
  go_wp2
  all_goals (go_ret; refine ⟨congrArg (fun b => Ending.returned (.bool b)) ?_, rfl⟩)
  all_goals (first | (simp_all; done) | skip)
theorem ref_counts (x : Nat) (w : World) :
    Calls Try.prog 59 #[.float .f64 x] w fun e w' => e = .returned (.bool (Pac.cnt x)) ∧ w = w' := by
  unfold Pac.cnt Pac.geB Pac.leB
  go_enter Try.func59, Try.ntmps59
  go_wp2
  all_goals (go_ret; refine ⟨congrArg (fun b => Ending.returned (.bool b)) ?_, rfl⟩)
  all_goals (first | (simp_all; done) | skip)
theorem pace_plain (x : Nat) (w : World) :
    Calls Try.prog 75 #[.float .f64 x] w fun e w' => e = .returned (.float .f64 (Pac.plain x)) ∧ w = w' := by
  unfold Pac.plain Pac.eqB
  by_cases h : (FloatKind.f64.format.order x 0 == some .eq) = true
  · rw [if_pos h]
    go_enter Try.func75, Try.ntmps75
    go_wp2
    go_ret
    exact ⟨rfl, rfl⟩
  · rw [if_neg h]
    have h' : (FloatKind.f64.format.order x 0 == some .eq) = false := by simpa using h
    clear h
    go_enter Try.func75, Try.ntmps75
    go_wp2
    go_ret
    exact ⟨rfl, rfl⟩
theorem ref_plain (x : Nat) (w : World) :
    Calls Try.prog 61 #[.float .f64 x] w fun e w' => e = .returned (.float .f64 (Pac.plain x)) ∧ w = w' := by
  unfold Pac.plain Pac.eqB
  by_cases h : (FloatKind.f64.format.order x 0 == some .eq) = true
  · rw [if_pos h]
    go_enter Try.func61, Try.ntmps61
    go_wp2
    go_ret
    exact ⟨rfl, rfl⟩
  · rw [if_neg h]
    have h' : (FloatKind.f64.format.order x 0 == some .eq) = false := by simpa using h
    clear h
    go_enter Try.func61, Try.ntmps61
    go_wp2
    go_ret
    exact ⟨rfl, rfl⟩
theorem math_abs (x : Nat) (w : World) :
    Calls Try.prog 74 #[.float .f64 x] w fun e w' => e = .returned (.float .f64 (Pac.abs x)) ∧ w = w' := by
  unfold Pac.abs
  have h1 := Pac.run_bits x
  have h2 := Pac.run_frombits
  go_enter Try.func74, Try.ntmps74
  go_wp2
  go_ret
  exact ⟨rfl, rfl⟩
theorem pace_blend (a b s r : Nat) (h : Pac.blend a b s = some r) (w : World) :
    Calls Try.prog 73 #[.float .f64 a, .float .f64 b, .float .f64 s] w fun e w' => e = .returned (.float .f64 r) ∧ w = w' := by
  unfold Pac.blend at h
  obtain ⟨x, hx, h⟩ := Option.bind_eq_some_iff.1 h
  obtain ⟨y, hy, h⟩ := Option.bind_eq_some_iff.1 h
  have e1 := fun w => run_float_arith (P := Try.prog) w .sub 48 .f64 b a x hx
  have e2 := fun w => run_float_arith (P := Try.prog) w .mul 48 .f64 s x y hy
  have e3 := fun w => run_float_arith (P := Try.prog) w .add 48 .f64 a y r h
  clear hx hy h
  go_enter Try.func73, Try.ntmps73
  go_wp2
  go_ret
  exact ⟨rfl, rfl⟩
theorem ref_blend (a b s r : Nat) (h : Pac.blend a b s = some r) (w : World) :
    Calls Try.prog 60 #[.float .f64 a, .float .f64 b, .float .f64 s] w fun e w' => e = .returned (.float .f64 r) ∧ w = w' := by
  unfold Pac.blend at h
  obtain ⟨x, hx, h⟩ := Option.bind_eq_some_iff.1 h
  obtain ⟨y, hy, h⟩ := Option.bind_eq_some_iff.1 h
  have e1 := fun w => run_float_arith (P := Try.prog) w .sub 48 .f64 b a x hx
  have e2 := fun w => run_float_arith (P := Try.prog) w .mul 48 .f64 s x y hy
  have e3 := fun w => run_float_arith (P := Try.prog) w .add 48 .f64 a y r h
  clear hx hy h
  go_enter Try.func60, Try.ntmps60
  go_wp2
  go_ret
  exact ⟨rfl, rfl⟩
end Go.Proofs.Ytgkadhogfejheaa
