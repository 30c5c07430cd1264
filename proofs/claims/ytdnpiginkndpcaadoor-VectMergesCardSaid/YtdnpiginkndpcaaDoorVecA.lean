/- The walk of what Covers hands on. -/
import Derived.Test.YtdnpiginkndpcaaDoorVecP
import Derived.Test.YtdnpiginkndpcaaDoorCell
namespace Go.Proofs.YtdnpiginkndpcaaDoor
open Go.RowKit

set_option maxRecDepth 100000 in
theorem covers_one (x y : Int) (r : Bool) (g : Nat) (w : World) (hg : w.heap[g]? = some (.cells #[.bool r] 4 (0, 0))) :
    Calls Tryd.prog 38 #[.int .i64 x, .int .i64 y, .pointer (some ⟨g, 0, none⟩)] w fun e w' => e = .returned (.bool (r && decide (y ≤ x))) ∧ Mem.Put w w' g #[.bool (r && decide (y ≤ x))] 4 := by
  have c0 : w.cell? ⟨g, 0, none⟩ = some (.bool r) := (cell_of_row _ _ 0 _ _ _ hg).trans rfl
  have f0 := frozen_of_row _ g 0 _ _ hg
  have Hg := Lib.hid hg
  clear hg
  cases r with
  | false =>
    go_enter Tryd.func38, Tryd.ntmps38
    go_wp2
    go_ret
    exact ⟨rfl, Mem.put_setCell w g 0 (.bool false) _ _ Hg.out⟩
  | true =>
    obtain ⟨d, hd⟩ : ∃ d, decide (y ≤ x) = d := ⟨_, rfl⟩
    go_enter Tryd.func38, Tryd.ntmps38
    go_wp2
    go_ret
    rw [Bool.true_and, hd]
    exact ⟨rfl, Mem.put_setCell w g 0 (.bool d) _ _ Hg.out⟩
end Go.Proofs.YtdnpiginkndpcaaDoor
