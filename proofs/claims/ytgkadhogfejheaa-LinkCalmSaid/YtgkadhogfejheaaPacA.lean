/- The laws of chapter 19: the document's example; PaceBlends. -/
import Derived.Test.YtgkadhogfejheaaPacW
namespace Go.Proofs.Ytgkadhogfejheaa
open Go.RowKit

theorem pace_p (w : World) : Calls Try.prog 56 #[.agg #[.float .f64 0, .float .f64 0, .bool false], .float .f64 4616189618054758400] w fun e w' =>
    e = .returned (.agg #[.float .f64 4616189618054758400, .float .f64 4611686018427387904, .bool true]) ∧ Below w.heap.size w w' := by
  have h := pace_heard_first 0 0 4616189618054758400 4611686018427387904 (by kernel_rfl) (by kernel_rfl) (by kernel_rfl) w
  rw [show Pac.plain 4616189618054758400 = 4616189618054758400 by kernel_rfl, show Pac.plain 4611686018427387904 = 4611686018427387904 by kernel_rfl] at h
  exact h
theorem pace_q (w : World) : Calls Try.prog 56 #[.agg #[.float .f64 4616189618054758400, .float .f64 4611686018427387904, .bool true], .float .f64 4622945017495814144] w fun e w' =>
    e = .returned (.agg #[.float .f64 4617315517961601024, .float .f64 4615063718147915776, .bool true]) ∧ Below w.heap.size w w' := by
  have h := pace_heard_some 4616189618054758400 4611686018427387904 4622945017495814144 4620693217682128896 4615063718147915776 4617315517961601024 (by kernel_rfl) (by kernel_rfl) (by kernel_rfl) (by kernel_rfl) (by kernel_rfl) w
  rw [show Pac.plain 4617315517961601024 = 4617315517961601024 by kernel_rfl, show Pac.plain 4615063718147915776 = 4615063718147915776 by kernel_rfl] at h
  exact h
theorem pace_wait4 (tries : Int) (htr : tries ≤ 9223372036854775807) (w : World) : Calls Try.prog 44 #[.agg #[.float .f64 4616189618054758400, .float .f64 4611686018427387904, .bool true], .int .i64 tries] w fun e w' =>
    e = .returned (.int .i64 (Pac.dbl 12 tries.toNat)) ∧ Below w.heap.size w w' :=
  pace_wait_some 4616189618054758400 4611686018427387904 4620693217682128896 4622945017495814144 4622945017495814144 4622945017495814144 4622945017495814144 12 tries
    (by kernel_rfl) (by kernel_rfl) (by kernel_rfl) (by kernel_rfl) (by decide +kernel) (by kernel_rfl) (by decide +kernel) (by kernel_rfl) (by kernel_rfl) (by omega) htr w

end Go.Proofs.Ytgkadhogfejheaa
