/-
  DERIVED. GIVEN WITH THE SEED: THE CARDS: each row of YtdnpiginkndpcaaDoorRows.lean that lists a variable, with what it lists TIED to the program's text (the seventh form; the later family's looks); each row that meets fmt, with fmt's text TOLD by the authors' own Lean function (tested against real Go, not proved from fmt's source: count such statements apart). THE CARD IS WHAT COUNTS. Prove the row's statement (the work); the ties are given (YtdnpiginkndpcaaDoorTie.lean); close each card by the builder's one call (the guide's Derived/Test/ToyasCard.lean, 'card_holds'). Laid BY PROGRAM, IN A SANDBOX (cutbox-door.mjs). By AI agents, Wed Nov 11 2026. No macro, syntax, notation, axiom, sorry.
-/
import Derived.Test.YtdnpiginkndpcaaDoorRows
import GoSem.ClaimSeven
namespace Go.Proofs.YtdnpiginkndpcaaDoor
namespace Rows

/-- THE TIED CARD OF 'foolscaplaw06.VectMerges'. -/
def vectMergesCard : Claim7 := { stood := { row := vectMergesRow, standIns := [], harness := (true, "42a5b56c9df9fb3c7c6a70843e5bb09dfac6a9467a1bd8667c1c45b1203dc03c"), looks := false }, kinds := [], alts := [], laidByText := true, laidKinds := [.data, .data, .data], laidTests := true, laidLooks := .later }
def VectMergesCardSaid : Prop := Claim7.holds Tryd.pinned (.plain (OpenSpec.ofChange vectMergesSpec)) vectMergesCard

/-- THE TIED CARD OF 'foolscaplaw06.VectAsks'. -/
def vectAsksCard : Claim7 := { stood := { row := vectAsksRow, standIns := [], harness := (true, "42a5b56c9df9fb3c7c6a70843e5bb09dfac6a9467a1bd8667c1c45b1203dc03c"), looks := false }, kinds := [], alts := [], laidByText := true, laidKinds := [.data, .data, .data], laidTests := true, laidLooks := .later }
def VectAsksCardSaid : Prop := Claim7.holds Tryd.pinned (.plain (OpenSpec.ofChange vectAsksSpec)) vectAsksCard

/-- THE TIED CARD OF 'foolscaplaw06.VectRaises'. -/
def vectRaisesCard : Claim7 := { stood := { row := vectRaisesRow, standIns := [], harness := (true, "42a5b56c9df9fb3c7c6a70843e5bb09dfac6a9467a1bd8667c1c45b1203dc03c"), looks := false }, kinds := [], alts := [], laidByText := true, laidKinds := [.data, .data, .data], laidTests := true, laidLooks := .later }
def VectRaisesCardSaid : Prop := Claim7.holds Tryd.pinned (.plain (OpenSpec.ofChange vectRaisesSpec)) vectRaisesCard

/-- THE TIED CARD OF 'foolscaplaw06.VectLeast'. -/
def vectLeastCard : Claim7 := { stood := { row := vectLeastRow, standIns := [], harness := (true, "42a5b56c9df9fb3c7c6a70843e5bb09dfac6a9467a1bd8667c1c45b1203dc03c"), looks := false }, kinds := [], alts := [], laidByText := true, laidKinds := [.data, .data, .data], laidTests := true, laidLooks := .later }
def VectLeastCardSaid : Prop := Claim7.holds Tryd.pinned (.plain (OpenSpec.ofChange vectLeastSpec)) vectLeastCard

/-- THE TIED CARD OF 'foolscaplaw06.VectReads'. -/
def vectReadsCard : Claim7 := { stood := { row := vectReadsRow, standIns := [], harness := (true, "42a5b56c9df9fb3c7c6a70843e5bb09dfac6a9467a1bd8667c1c45b1203dc03c"), looks := false }, kinds := [], alts := [], laidByText := true, laidKinds := [.data, .data, .data], laidTests := true, laidLooks := .later }
def VectReadsCardSaid : Prop := Claim7.holds Tryd.pinned (.plain (OpenSpec.ofChange vectReadsSpec)) vectReadsCard

/-- THE TIED CARD OF 'foolscaplaw06.VectNames'. -/
def vectNamesCard : Claim7 := { stood := { row := vectNamesRow, standIns := [], harness := (true, "42a5b56c9df9fb3c7c6a70843e5bb09dfac6a9467a1bd8667c1c45b1203dc03c"), looks := false }, kinds := [], alts := [], laidByText := true, laidKinds := [.data, .data, .data], laidTests := true, laidLooks := .later }
def VectNamesCardSaid : Prop := Claim7.holds Tryd.pinned (.plain (OpenSpec.ofChange vectNamesSpec)) vectNamesCard

/-- THE SECOND FORM's CARD OF 'foolscaplaw06.VectMerges'. -/
def vectMergesUptoCard : Claim7 := { stood := { row := vectMergesUptoRow, standIns := [], harness := (true, "42a5b56c9df9fb3c7c6a70843e5bb09dfac6a9467a1bd8667c1c45b1203dc03c"), looks := false }, kinds := [], alts := [], laidByText := true, laidKinds := [.data, .data, .data], laidTests := true, laidLooks := .later }
def VectMergesUptoCardSaid : Prop := Claim7.holds Tryd.pinned (.plain (OpenSpec.upto vectMergesSpec)) vectMergesUptoCard

/-- THE SECOND FORM's CARD OF 'foolscaplaw06.VectAsks'. -/
def vectAsksUptoCard : Claim7 := { stood := { row := vectAsksUptoRow, standIns := [], harness := (true, "42a5b56c9df9fb3c7c6a70843e5bb09dfac6a9467a1bd8667c1c45b1203dc03c"), looks := false }, kinds := [], alts := [], laidByText := true, laidKinds := [.data, .data, .data], laidTests := true, laidLooks := .later }
def VectAsksUptoCardSaid : Prop := Claim7.holds Tryd.pinned (.plain (OpenSpec.upto vectAsksSpec)) vectAsksUptoCard

/-- THE SECOND FORM's CARD OF 'foolscaplaw06.VectRaises'. -/
def vectRaisesUptoCard : Claim7 := { stood := { row := vectRaisesUptoRow, standIns := [], harness := (true, "42a5b56c9df9fb3c7c6a70843e5bb09dfac6a9467a1bd8667c1c45b1203dc03c"), looks := false }, kinds := [], alts := [], laidByText := true, laidKinds := [.data, .data, .data], laidTests := true, laidLooks := .later }
def VectRaisesUptoCardSaid : Prop := Claim7.holds Tryd.pinned (.plain (OpenSpec.upto vectRaisesSpec)) vectRaisesUptoCard

/-- THE SECOND FORM's CARD OF 'foolscaplaw06.VectLeast'. -/
def vectLeastUptoCard : Claim7 := { stood := { row := vectLeastUptoRow, standIns := [], harness := (true, "42a5b56c9df9fb3c7c6a70843e5bb09dfac6a9467a1bd8667c1c45b1203dc03c"), looks := false }, kinds := [], alts := [], laidByText := true, laidKinds := [.data, .data, .data], laidTests := true, laidLooks := .later }
def VectLeastUptoCardSaid : Prop := Claim7.holds Tryd.pinned (.plain (OpenSpec.upto vectLeastSpec)) vectLeastUptoCard

/-- THE SECOND FORM's CARD OF 'foolscaplaw06.VectReads'. -/
def vectReadsUptoCard : Claim7 := { stood := { row := vectReadsUptoRow, standIns := [], harness := (true, "42a5b56c9df9fb3c7c6a70843e5bb09dfac6a9467a1bd8667c1c45b1203dc03c"), looks := false }, kinds := [], alts := [], laidByText := true, laidKinds := [.data, .data, .data], laidTests := true, laidLooks := .later }
def VectReadsUptoCardSaid : Prop := Claim7.holds Tryd.pinned (.plain (OpenSpec.upto vectReadsSpec)) vectReadsUptoCard

/-- THE SECOND FORM's CARD OF 'foolscaplaw06.VectNames'. -/
def vectNamesUptoCard : Claim7 := { stood := { row := vectNamesUptoRow, standIns := [], harness := (true, "42a5b56c9df9fb3c7c6a70843e5bb09dfac6a9467a1bd8667c1c45b1203dc03c"), looks := false }, kinds := [], alts := [], laidByText := true, laidKinds := [.data, .data, .data], laidTests := true, laidLooks := .later }
def VectNamesUptoCardSaid : Prop := Claim7.holds Tryd.pinned (.plain (OpenSpec.upto vectNamesSpec)) vectNamesUptoCard
end Rows
end Go.Proofs.YtdnpiginkndpcaaDoor
