/-
  No cell of these rows narrows 'for every input' (looked for: loops, veiled, ifaces, maps, wideKeys, modest, calm, conditions, laid).
  DERIVED. THE GIVEN ROWS OF THIS SEAT. 5 by the template 'for every input the law returns true; each argument reads behind the call as it read before'; 0 by the template 'total and deterministic' (their statements: YtmfaadhclbfhoaaTotals.lean).
  GIVEN WITH THE SEED: the statements are not yours to turn. If you find one false, say at which input.
  Laid BY PROGRAM, IN A SANDBOX (cutbox-rows.mjs): the forced cells as the released guide's own fill.sh prints them over the translation 82aa02ec2643e9cf… (all of the seat's roots in one cut). By AI agents, Wed Nov 11 2026. No macro, syntax, notation, axiom, sorry.
-/
import Derived.Test.YtmfaadhclbfhoaaChecked
import GoSem.Claim
import GoSem.ClaimJoined
import GoSem.ClaimMapViews
import Derived.JoinedTies
import Derived.KernelRfl
namespace Go.Proofs.Ytmfaadhclbfhoaa
/- THE CELL 'sum', in the pinned program and in every row, IS THE sha256 OF THE DUMP (.gsa) THAT YtmfaadhclbfhoaaProg.lean LOADS. Nothing in Lean hashes anything: it is a label: what it is worth is what the hold of that sum in a sandbox is worth. -/
noncomputable def Try.pinned : Pinned := { name := "ytmfaadhclbfhoaa", sum := "82aa02ec2643e9cf01564f04959647b0e900cf73da57c5f5b030dd33613f59ab", checked := Try.checked }
namespace Rows
def none {H : Type} : Left H := { results := [], args := [] }

/-- 'foolscaplaw19.PaceHears': WHATEVER THE INPUT: true; the input reads as it did. -/
def paceHearsSpec : ChangeSpec := { name := "paceHears", fn := fun _ => fun
  | [d1, d2] => { results := [.lit (.bool true)], args := [d1, d2] }
  | _ => none }
def paceHearsRow : OpenClaim := { program := "ytmfaadhclbfhoaa", sum := "82aa02ec2643e9cf01564f04959647b0e900cf73da57c5f5b030dd33613f59ab", func := "foolscap/foolscaplaw19.PaceHears", spec := "paceHears", inPlace := ["math.Float64bits", "math.Float64frombits", "math.archCeil", "math.archFloor", "math.archTrunc"], apart := false }
def PaceHearsSaid : Prop := paceHearsRow.holds Try.pinned (OpenSpec.ofChange paceHearsSpec)

/-- ITS FALSE NEIGHBOUR: 'it returns false'. Refute it at one input. -/
def paceHearsWrong : ChangeSpec := { name := "paceHears", fn := fun _ => fun
  | [d1, d2] => { results := [.lit (.bool false)], args := [d1, d2] }
  | _ => none }
def PaceHearsWrongFalsely : Prop := paceHearsRow.holds Try.pinned (OpenSpec.ofChange paceHearsWrong)

/-- 'foolscaplaw19.PaceWaits': WHATEVER THE INPUT: true; the input reads as it did. -/
def paceWaitsSpec : ChangeSpec := { name := "paceWaits", fn := fun _ => fun
  | [d1, d2] => { results := [.lit (.bool true)], args := [d1, d2] }
  | _ => none }
def paceWaitsRow : OpenClaim := { program := "ytmfaadhclbfhoaa", sum := "82aa02ec2643e9cf01564f04959647b0e900cf73da57c5f5b030dd33613f59ab", func := "foolscap/foolscaplaw19.PaceWaits", spec := "paceWaits", inPlace := ["math.Float64bits", "math.Float64frombits", "math.archCeil", "math.archFloor", "math.archTrunc"], apart := false }
def PaceWaitsSaid : Prop := paceWaitsRow.holds Try.pinned (OpenSpec.ofChange paceWaitsSpec)

/-- ITS FALSE NEIGHBOUR: 'it returns false'. Refute it at one input. -/
def paceWaitsWrong : ChangeSpec := { name := "paceWaits", fn := fun _ => fun
  | [d1, d2] => { results := [.lit (.bool false)], args := [d1, d2] }
  | _ => none }
def PaceWaitsWrongFalsely : Prop := paceWaitsRow.holds Try.pinned (OpenSpec.ofChange paceWaitsWrong)

/-- 'foolscaplaw19.PaceBlends': WHATEVER THE INPUT: true; the input reads as it did. -/
def paceBlendsSpec : ChangeSpec := { name := "paceBlends", fn := fun _ => fun
  | [d1, d2, d3] => { results := [.lit (.bool true)], args := [d1, d2, d3] }
  | _ => none }
def paceBlendsRow : OpenClaim := { program := "ytmfaadhclbfhoaa", sum := "82aa02ec2643e9cf01564f04959647b0e900cf73da57c5f5b030dd33613f59ab", func := "foolscap/foolscaplaw19.PaceBlends", spec := "paceBlends", inPlace := ["math.Float64bits", "math.Float64frombits", "math.archCeil", "math.archFloor", "math.archTrunc"], apart := false }
def PaceBlendsSaid : Prop := paceBlendsRow.holds Try.pinned (OpenSpec.ofChange paceBlendsSpec)

/-- ITS FALSE NEIGHBOUR: 'it returns false'. Refute it at one input. -/
def paceBlendsWrong : ChangeSpec := { name := "paceBlends", fn := fun _ => fun
  | [d1, d2, d3] => { results := [.lit (.bool false)], args := [d1, d2, d3] }
  | _ => none }
def PaceBlendsWrongFalsely : Prop := paceBlendsRow.holds Try.pinned (OpenSpec.ofChange paceBlendsWrong)

/-- 'foolscaplaw19.PaceRuns': WHATEVER THE INPUT: true; the input reads as it did. -/
def paceRunsSpec : ChangeSpec := { name := "paceRuns", fn := fun _ => fun
  | [d] => { results := [.lit (.bool true)], args := [d] }
  | _ => none }
def paceRunsRow : OpenClaim := { program := "ytmfaadhclbfhoaa", sum := "82aa02ec2643e9cf01564f04959647b0e900cf73da57c5f5b030dd33613f59ab", func := "foolscap/foolscaplaw19.PaceRuns", spec := "paceRuns", inPlace := ["math.Float64bits", "math.Float64frombits", "math.archCeil", "math.archFloor", "math.archTrunc"], apart := false }
def PaceRunsSaid : Prop := paceRunsRow.holds Try.pinned (OpenSpec.ofChange paceRunsSpec)

/-- ITS FALSE NEIGHBOUR: 'it returns false'. Refute it at one input. -/
def paceRunsWrong : ChangeSpec := { name := "paceRuns", fn := fun _ => fun
  | [d] => { results := [.lit (.bool false)], args := [d] }
  | _ => none }
def PaceRunsWrongFalsely : Prop := paceRunsRow.holds Try.pinned (OpenSpec.ofChange paceRunsWrong)

/-- 'foolscaplaw19.PaceSteady': WHATEVER THE INPUT: true; the input reads as it did. -/
def paceSteadySpec : ChangeSpec := { name := "paceSteady", fn := fun _ => fun
  | [d] => { results := [.lit (.bool true)], args := [d] }
  | _ => none }
def paceSteadyRow : OpenClaim := { program := "ytmfaadhclbfhoaa", sum := "82aa02ec2643e9cf01564f04959647b0e900cf73da57c5f5b030dd33613f59ab", func := "foolscap/foolscaplaw19.PaceSteady", spec := "paceSteady", inPlace := ["math.Float64bits", "math.Float64frombits", "math.archCeil", "math.archFloor", "math.archTrunc"], apart := false }
def PaceSteadySaid : Prop := paceSteadyRow.holds Try.pinned (OpenSpec.ofChange paceSteadySpec)

/-- ITS FALSE NEIGHBOUR: 'it returns false'. Refute it at one input. -/
def paceSteadyWrong : ChangeSpec := { name := "paceSteady", fn := fun _ => fun
  | [d] => { results := [.lit (.bool false)], args := [d] }
  | _ => none }
def PaceSteadyWrongFalsely : Prop := paceSteadyRow.holds Try.pinned (OpenSpec.ofChange paceSteadyWrong)

/- THE SECOND FORM. 'bulk': how many values and letters a reading holds, each counted each time it is reached (what is shared counts as often as it is met; a slice's spare places count too). A statement '..UptoSaid' is the law's where the arguments, and the package variables that the reading takes, are together of bulk at most 1048576: NARROWER than '..Said'. Prove '..Said' where nothing that the law and all that it calls make is longer than what came in: it says more and counts as full. Else prove '..UptoSaid'. A law counts once. -/
mutual
def uptoBulk {H : Type} : DataW H → Nat
  | .lit (.string bytes) => bytes.length + 1
  | .lit _ => 1
  | .nil => 1
  | .ptr d => uptoBulk d + 1
  | .slice elems spare => uptoBulkAll elems + uptoBulkAll spare + 1
  | .agg parts => uptoBulkAll parts + 1
  | .iface _ d => uptoBulk d + 1
  | .map entries => uptoBulkEntries entries + 1
  | .held _ => 1
def uptoBulkAll {H : Type} : List (DataW H) → Nat
  | [] => 0
  | d :: r => uptoBulk d + uptoBulkAll r
def uptoBulkEntries {H : Type} : List (Lit × DataW H) → Nat
  | [] => 0
  | x :: r => uptoBulkEntry x + uptoBulkEntries r
def uptoBulkEntry {H : Type} : Lit × DataW H → Nat
  | (.string bytes, d) => bytes.length + uptoBulk d + 1
  | (_, d) => uptoBulk d + 1
 end
def uptoSmall : (H : Type) → List (DataW H) → Bool := fun _ ds => decide (uptoBulkAll ds ≤ 1048576)
def OpenSpec.upto (s : _root_.Go.ChangeSpec) : _root_.Go.OpenSpec := { _root_.Go.OpenSpec.ofChange s with cond := some uptoSmall }

/-- 'foolscaplaw19.PaceHears', WHERE WHAT IT READS IS OF BULK AT MOST 1048576: true; the input reads as it did. -/
def paceHearsUptoRow : OpenClaim := { program := "ytmfaadhclbfhoaa", sum := "82aa02ec2643e9cf01564f04959647b0e900cf73da57c5f5b030dd33613f59ab", func := "foolscap/foolscaplaw19.PaceHears", spec := "paceHears", inPlace := ["math.Float64bits", "math.Float64frombits", "math.archCeil", "math.archFloor", "math.archTrunc"], apart := false, narrowed := true }
def PaceHearsUptoSaid : Prop := paceHearsUptoRow.holds Try.pinned (OpenSpec.upto paceHearsSpec)

/-- 'foolscaplaw19.PaceWaits', WHERE WHAT IT READS IS OF BULK AT MOST 1048576: true; the input reads as it did. -/
def paceWaitsUptoRow : OpenClaim := { program := "ytmfaadhclbfhoaa", sum := "82aa02ec2643e9cf01564f04959647b0e900cf73da57c5f5b030dd33613f59ab", func := "foolscap/foolscaplaw19.PaceWaits", spec := "paceWaits", inPlace := ["math.Float64bits", "math.Float64frombits", "math.archCeil", "math.archFloor", "math.archTrunc"], apart := false, narrowed := true }
def PaceWaitsUptoSaid : Prop := paceWaitsUptoRow.holds Try.pinned (OpenSpec.upto paceWaitsSpec)

/-- 'foolscaplaw19.PaceBlends', WHERE WHAT IT READS IS OF BULK AT MOST 1048576: true; the input reads as it did. -/
def paceBlendsUptoRow : OpenClaim := { program := "ytmfaadhclbfhoaa", sum := "82aa02ec2643e9cf01564f04959647b0e900cf73da57c5f5b030dd33613f59ab", func := "foolscap/foolscaplaw19.PaceBlends", spec := "paceBlends", inPlace := ["math.Float64bits", "math.Float64frombits", "math.archCeil", "math.archFloor", "math.archTrunc"], apart := false, narrowed := true }
def PaceBlendsUptoSaid : Prop := paceBlendsUptoRow.holds Try.pinned (OpenSpec.upto paceBlendsSpec)

/-- 'foolscaplaw19.PaceRuns', WHERE WHAT IT READS IS OF BULK AT MOST 1048576: true; the input reads as it did. -/
def paceRunsUptoRow : OpenClaim := { program := "ytmfaadhclbfhoaa", sum := "82aa02ec2643e9cf01564f04959647b0e900cf73da57c5f5b030dd33613f59ab", func := "foolscap/foolscaplaw19.PaceRuns", spec := "paceRuns", inPlace := ["math.Float64bits", "math.Float64frombits", "math.archCeil", "math.archFloor", "math.archTrunc"], apart := false, narrowed := true }
def PaceRunsUptoSaid : Prop := paceRunsUptoRow.holds Try.pinned (OpenSpec.upto paceRunsSpec)

/-- 'foolscaplaw19.PaceSteady', WHERE WHAT IT READS IS OF BULK AT MOST 1048576: true; the input reads as it did. -/
def paceSteadyUptoRow : OpenClaim := { program := "ytmfaadhclbfhoaa", sum := "82aa02ec2643e9cf01564f04959647b0e900cf73da57c5f5b030dd33613f59ab", func := "foolscap/foolscaplaw19.PaceSteady", spec := "paceSteady", inPlace := ["math.Float64bits", "math.Float64frombits", "math.archCeil", "math.archFloor", "math.archTrunc"], apart := false, narrowed := true }
def PaceSteadyUptoSaid : Prop := paceSteadyUptoRow.holds Try.pinned (OpenSpec.upto paceSteadySpec)

end Rows
end Go.Proofs.Ytmfaadhclbfhoaa
