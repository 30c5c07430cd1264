/- The pair's Do: ticks, and what is given to send. -/
import Derived.Test.YtgkadhogfejheaaZLnkN
set_option linter.unusedVariables false
set_option linter.unusedSimpArgs false
namespace Go.Proofs.Ytgkadhogfejheaa
open Go.RowKit
set_option linter.unusedVariables false

namespace Lnk
theorem tick_len (n : Nat) (e : St) : (tick n e).2.length ≤ 9 := by
  unfold tick
  simp only
  split
  · simp
  · exact Nat.le_trans (sentAt_le (Nat.le_refl 8)) (by omega)
end Lnk

namespace Lnk
theorem PAt.below {w w1 : World} {B q : Nat} {e : Nat → St} {c : Nat → List (List UInt8)} (h : PAt w B q e c) (hb : Below w.heap.size w w1) : PAt w1 B q e c := by
  obtain ⟨g, F, s, h⟩ := h
  exact ⟨g, F, s, h.below hb⟩
end Lnk

-- BEGIN do12

-- END do12
end Go.Proofs.Ytgkadhogfejheaa
