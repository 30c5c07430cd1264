/- The pair's Do: a frame comes, stays, or is lost. -/
import Derived.Test.YtgkadhogfejheaaZLnkO
import Derived.Test.YtgkadhogfejheaaQM
set_option linter.unusedVariables false
set_option linter.unusedSimpArgs false
/-! The pair's Do: a frame comes, stays, or is lost. -/
namespace Go.Proofs.Ytgkadhogfejheaa
open Go.RowKit
set_option linter.unusedVariables false

namespace Mem
theorem Row.front {w : World} {base size n cap p off : Nat} {e : TypeId} {xs : List Value} (h : Row w base e size (.slice (some ⟨p, off, none⟩) n cap) n xs) {k : Nat} (hk : k ≤ n) :
    Row w base e size (.slice (some ⟨p, off, none⟩) k cap) k (xs.take (k * size)) := by
  have hks := Nat.mul_le_mul_right size hk
  refine ⟨by rw [List.length_take, h.1]; omega, ?_⟩
  rcases h.2 with ⟨h0, _⟩ | ⟨b, off', cap', cur, h0, h1, h2, h3, h4, h5, h6⟩
  · cases h0
  · cases h0
    refine .inr ⟨p, off, cap, cur, rfl, h1, h2, by omega, h4, h5, fun j u hj => ?_⟩
    rw [List.getElem?_take] at hj
    split at hj
    · exact h6 j u hj
    · cases hj
end Mem

namespace Lnk
theorem strs_take (l : List (List UInt8)) (k : Nat) : (strs l).take (k * 1) = strs (l.take k) := by rw [Nat.mul_one]; unfold strs; rw [List.map_take]
end Lnk

-- BEGIN way

-- END way
end Go.Proofs.Ytgkadhogfejheaa

/-! The pair's Do: a frame comes, stays, or is lost. -/
namespace Go.Proofs.Ytgkadhogfejheaa
open Go.RowKit
set_option linter.unusedVariables false

namespace Lnk
end Lnk

-- BEGIN way

-- END way
end Go.Proofs.Ytgkadhogfejheaa

/-! The pair's Do: a frame comes, stays, or is lost. -/
namespace Go.Proofs.Ytgkadhogfejheaa
open Go.RowKit
set_option linter.unusedVariables false

-- BEGIN way

-- END way
end Go.Proofs.Ytgkadhogfejheaa
