/- LinkPlays: the walk. -/
import Derived.Test.YtgkadhogfejheaaZPlyI
import Derived.Test.YtgkadhogfejheaaZPlyJ
import Derived.Test.YtgkadhogfejheaaZPlyK
import Derived.Test.YtgkadhogfejheaaZPlyL
set_option linter.unusedVariables false
set_option linter.unusedSimpArgs false
namespace Go.Proofs.Ytgkadhogfejheaa
open Go.RowKit

theorem linkPlays_walk (a0 : Int) (a1 : Option Addr) (len1 cap1 : Nat) (w : World) (wa0 : (Lit.int .i64 a0).wf = true) (h1 : ∃ (H : Type) (enc : TypeId × Value → H) (d : DataW H) (p : List MemPlace), DataW.Trod enc Try.prog w 0 (fun _ => true) true 41 (.slice a1 len1 cap1) d p) :
    Calls Try.prog 5 #[.int .i64 a0, .slice a1 len1 cap1] w fun e w' => e = .returned (.bool true) ∧ Below w.heap.size w w' :=
  linkPlays_skel.all linkPlays_ticks linkPlays_send linkPlays_take linkPlays_frames a0 a1 len1 cap1 w wa0 h1
end Go.Proofs.Ytgkadhogfejheaa
