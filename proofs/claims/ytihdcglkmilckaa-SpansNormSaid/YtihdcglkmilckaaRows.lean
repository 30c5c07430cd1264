/-
  No cell of these rows narrows 'for every input' (looked for: loops, veiled, ifaces, maps, wideKeys, modest, calm, conditions, laid).
  DERIVED. THE GIVEN ROWS OF THIS SEAT. 5 by the template 'for every input the law returns true; each argument reads behind the call as it read before'; 0 by the template 'total and deterministic' (their statements: YtihdcglkmilckaaTotals.lean).
  GIVEN WITH THE SEED: the statements are not yours to turn. If you find one false, say at which input.
  Laid BY PROGRAM, IN A SANDBOX (cutbox-rows.mjs): the forced cells as the released guide's own fill.sh prints them over the translation 81e81e401700b1a1… (all of the seat's roots in one cut). By AI agents, Wed Nov 11 2026. No macro, syntax, notation, axiom, sorry.
-/
import Derived.Test.YtihdcglkmilckaaChecked
import GoSem.Claim
import GoSem.ClaimJoined
import GoSem.ClaimMapViews
import Derived.JoinedTies
import Derived.KernelRfl
namespace Go.Proofs.Ytihdcglkmilckaa
/- THE CELL 'sum', in the pinned program and in every row, IS THE sha256 OF THE DUMP (.gsa) THAT YtihdcglkmilckaaProg.lean LOADS. Nothing in Lean hashes anything: it is a label: what it is worth is what the hold of that sum in a sandbox is worth. -/
noncomputable def Try.pinned : Pinned := { name := "ytihdcglkmilckaa", sum := "81e81e401700b1a1b1d77c5f7a31d3ed80a5887cb2973b64c95f294c85c00dca", checked := Try.checked }
namespace Rows
def none {H : Type} : Left H := { results := [], args := [] }

/-- 'foolscaplaw07.SpansAsk': WHATEVER THE INPUT: true; the input reads as it did. -/
def spansAskSpec : ChangeSpec := { name := "spansAsk", fn := fun _ => fun
  | [d1, d2] => { results := [.lit (.bool true)], args := [d1, d2] }
  | _ => none }
def spansAskRow : OpenClaim := { program := "ytihdcglkmilckaa", sum := "81e81e401700b1a1b1d77c5f7a31d3ed80a5887cb2973b64c95f294c85c00dca", func := "foolscap/foolscaplaw07.SpansAsk", spec := "spansAsk", unfollowed := true, recurses := true, apart := false }
def SpansAskSaid : Prop := spansAskRow.holds Try.pinned (OpenSpec.ofChange spansAskSpec)

/-- ITS FALSE NEIGHBOUR: 'it returns false'. Refute it at one input. -/
def spansAskWrong : ChangeSpec := { name := "spansAsk", fn := fun _ => fun
  | [d1, d2] => { results := [.lit (.bool false)], args := [d1, d2] }
  | _ => none }
def SpansAskWrongFalsely : Prop := spansAskRow.holds Try.pinned (OpenSpec.ofChange spansAskWrong)

/-- 'foolscaplaw07.SpansOpen': WHATEVER THE INPUT: true; the input reads as it did. -/
def spansOpenSpec : ChangeSpec := { name := "spansOpen", fn := fun _ => fun
  | [d1, d2, d3] => { results := [.lit (.bool true)], args := [d1, d2, d3] }
  | _ => none }
def spansOpenRow : OpenClaim := { program := "ytihdcglkmilckaa", sum := "81e81e401700b1a1b1d77c5f7a31d3ed80a5887cb2973b64c95f294c85c00dca", func := "foolscap/foolscaplaw07.SpansOpen", spec := "spansOpen", apart := false }
def SpansOpenSaid : Prop := spansOpenRow.holds Try.pinned (OpenSpec.ofChange spansOpenSpec)

/-- ITS FALSE NEIGHBOUR: 'it returns false'. Refute it at one input. -/
def spansOpenWrong : ChangeSpec := { name := "spansOpen", fn := fun _ => fun
  | [d1, d2, d3] => { results := [.lit (.bool false)], args := [d1, d2, d3] }
  | _ => none }
def SpansOpenWrongFalsely : Prop := spansOpenRow.holds Try.pinned (OpenSpec.ofChange spansOpenWrong)

/-- 'foolscaplaw07.SpansTwo': WHATEVER THE INPUT: true; the input reads as it did. -/
def spansTwoSpec : ChangeSpec := { name := "spansTwo", fn := fun _ => fun
  | [d1, d2] => { results := [.lit (.bool true)], args := [d1, d2] }
  | _ => none }
def spansTwoRow : OpenClaim := { program := "ytihdcglkmilckaa", sum := "81e81e401700b1a1b1d77c5f7a31d3ed80a5887cb2973b64c95f294c85c00dca", func := "foolscap/foolscaplaw07.SpansTwo", spec := "spansTwo", unfollowed := true, recurses := true, apart := false }
def SpansTwoSaid : Prop := spansTwoRow.holds Try.pinned (OpenSpec.ofChange spansTwoSpec)

/-- ITS FALSE NEIGHBOUR: 'it returns false'. Refute it at one input. -/
def spansTwoWrong : ChangeSpec := { name := "spansTwo", fn := fun _ => fun
  | [d1, d2] => { results := [.lit (.bool false)], args := [d1, d2] }
  | _ => none }
def SpansTwoWrongFalsely : Prop := spansTwoRow.holds Try.pinned (OpenSpec.ofChange spansTwoWrong)

/-- 'foolscaplaw07.SpansParts': WHATEVER THE INPUT: true; the input reads as it did. -/
def spansPartsSpec : ChangeSpec := { name := "spansParts", fn := fun _ => fun
  | [d1, d2, d3] => { results := [.lit (.bool true)], args := [d1, d2, d3] }
  | _ => none }
def spansPartsRow : OpenClaim := { program := "ytihdcglkmilckaa", sum := "81e81e401700b1a1b1d77c5f7a31d3ed80a5887cb2973b64c95f294c85c00dca", func := "foolscap/foolscaplaw07.SpansParts", spec := "spansParts", unfollowed := true, recurses := true, apart := false }
def SpansPartsSaid : Prop := spansPartsRow.holds Try.pinned (OpenSpec.ofChange spansPartsSpec)

/-- ITS FALSE NEIGHBOUR: 'it returns false'. Refute it at one input. -/
def spansPartsWrong : ChangeSpec := { name := "spansParts", fn := fun _ => fun
  | [d1, d2, d3] => { results := [.lit (.bool false)], args := [d1, d2, d3] }
  | _ => none }
def SpansPartsWrongFalsely : Prop := spansPartsRow.holds Try.pinned (OpenSpec.ofChange spansPartsWrong)

/-- 'foolscaplaw07.SpansNorm': WHATEVER THE INPUT: true; the input reads as it did. -/
def spansNormSpec : ChangeSpec := { name := "spansNorm", fn := fun _ => fun
  | [d] => { results := [.lit (.bool true)], args := [d] }
  | _ => none }
def spansNormRow : OpenClaim := { program := "ytihdcglkmilckaa", sum := "81e81e401700b1a1b1d77c5f7a31d3ed80a5887cb2973b64c95f294c85c00dca", func := "foolscap/foolscaplaw07.SpansNorm", spec := "spansNorm", unfollowed := true, recurses := true, apart := false }
def SpansNormSaid : Prop := spansNormRow.holds Try.pinned (OpenSpec.ofChange spansNormSpec)

/-- ITS FALSE NEIGHBOUR: 'it returns false'. Refute it at one input. -/
def spansNormWrong : ChangeSpec := { name := "spansNorm", fn := fun _ => fun
  | [d] => { results := [.lit (.bool false)], args := [d] }
  | _ => none }
def SpansNormWrongFalsely : Prop := spansNormRow.holds Try.pinned (OpenSpec.ofChange spansNormWrong)

/- THE SECOND FORM. 'bulk': how many values and letters a reading holds, each counted each time it is reached (what is shared counts as often as it is met; a slice's spare places count too). A statement '..UptoSaid' is the law's where the arguments, and the package variables that the reading takes, are together of bulk at most 1048576: NARROWER than '..Said'. Prove '..Said' where nothing that the law and all that it calls make is longer than what came in: it says more and counts as full. Else prove '..UptoSaid'. A law counts once. -/
mutual
def uptoBulk {H : Type} : DataW H → Nat
  | .lit (.string bytes) => bytes.length + 1
  | .lit _ => 1
  | .nil => 1
  | .ptr d => uptoBulk d + 1
  | .slice elems spare => uptoBulkAll elems + uptoBulkAll spare + 1
  | .agg parts => uptoBulkAll parts + 1
  | .iface _ d => uptoBulk d + 1
  | .map entries => uptoBulkEntries entries + 1
  | .held _ => 1
def uptoBulkAll {H : Type} : List (DataW H) → Nat
  | [] => 0
  | d :: r => uptoBulk d + uptoBulkAll r
def uptoBulkEntries {H : Type} : List (Lit × DataW H) → Nat
  | [] => 0
  | x :: r => uptoBulkEntry x + uptoBulkEntries r
def uptoBulkEntry {H : Type} : Lit × DataW H → Nat
  | (.string bytes, d) => bytes.length + uptoBulk d + 1
  | (_, d) => uptoBulk d + 1
 end
def uptoSmall : (H : Type) → List (DataW H) → Bool := fun _ ds => decide (uptoBulkAll ds ≤ 1048576)
def OpenSpec.upto (s : _root_.Go.ChangeSpec) : _root_.Go.OpenSpec := { _root_.Go.OpenSpec.ofChange s with cond := some uptoSmall }

/-- 'foolscaplaw07.SpansAsk', WHERE WHAT IT READS IS OF BULK AT MOST 1048576: true; the input reads as it did. -/
def spansAskUptoRow : OpenClaim := { program := "ytihdcglkmilckaa", sum := "81e81e401700b1a1b1d77c5f7a31d3ed80a5887cb2973b64c95f294c85c00dca", func := "foolscap/foolscaplaw07.SpansAsk", spec := "spansAsk", unfollowed := true, recurses := true, apart := false, narrowed := true }
def SpansAskUptoSaid : Prop := spansAskUptoRow.holds Try.pinned (OpenSpec.upto spansAskSpec)

/-- 'foolscaplaw07.SpansOpen', WHERE WHAT IT READS IS OF BULK AT MOST 1048576: true; the input reads as it did. -/
def spansOpenUptoRow : OpenClaim := { program := "ytihdcglkmilckaa", sum := "81e81e401700b1a1b1d77c5f7a31d3ed80a5887cb2973b64c95f294c85c00dca", func := "foolscap/foolscaplaw07.SpansOpen", spec := "spansOpen", apart := false, narrowed := true }
def SpansOpenUptoSaid : Prop := spansOpenUptoRow.holds Try.pinned (OpenSpec.upto spansOpenSpec)

/-- 'foolscaplaw07.SpansTwo', WHERE WHAT IT READS IS OF BULK AT MOST 1048576: true; the input reads as it did. -/
def spansTwoUptoRow : OpenClaim := { program := "ytihdcglkmilckaa", sum := "81e81e401700b1a1b1d77c5f7a31d3ed80a5887cb2973b64c95f294c85c00dca", func := "foolscap/foolscaplaw07.SpansTwo", spec := "spansTwo", unfollowed := true, recurses := true, apart := false, narrowed := true }
def SpansTwoUptoSaid : Prop := spansTwoUptoRow.holds Try.pinned (OpenSpec.upto spansTwoSpec)

/-- 'foolscaplaw07.SpansParts', WHERE WHAT IT READS IS OF BULK AT MOST 1048576: true; the input reads as it did. -/
def spansPartsUptoRow : OpenClaim := { program := "ytihdcglkmilckaa", sum := "81e81e401700b1a1b1d77c5f7a31d3ed80a5887cb2973b64c95f294c85c00dca", func := "foolscap/foolscaplaw07.SpansParts", spec := "spansParts", unfollowed := true, recurses := true, apart := false, narrowed := true }
def SpansPartsUptoSaid : Prop := spansPartsUptoRow.holds Try.pinned (OpenSpec.upto spansPartsSpec)

/-- 'foolscaplaw07.SpansNorm', WHERE WHAT IT READS IS OF BULK AT MOST 1048576: true; the input reads as it did. -/
def spansNormUptoRow : OpenClaim := { program := "ytihdcglkmilckaa", sum := "81e81e401700b1a1b1d77c5f7a31d3ed80a5887cb2973b64c95f294c85c00dca", func := "foolscap/foolscaplaw07.SpansNorm", spec := "spansNorm", unfollowed := true, recurses := true, apart := false, narrowed := true }
def SpansNormUptoSaid : Prop := spansNormUptoRow.holds Try.pinned (OpenSpec.upto spansNormSpec)

end Rows
end Go.Proofs.Ytihdcglkmilckaa
