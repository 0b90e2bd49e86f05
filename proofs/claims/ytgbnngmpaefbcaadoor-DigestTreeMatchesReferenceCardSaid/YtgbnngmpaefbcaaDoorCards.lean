/-
  DERIVED. GIVEN WITH THE SEED: THE CARDS: each row of YtgbnngmpaefbcaaDoorRows.lean that lists a variable, with what it lists TIED to the program's text (the seventh form; the later family's looks); each row that meets fmt, with fmt's text TOLD by the authors' own Lean function (tested against real Go, not proved from fmt's source: count such statements apart). THE CARD IS WHAT COUNTS. Prove the row's statement (the work); the ties are given (YtgbnngmpaefbcaaDoorTie.lean); close each card by the builder's one call (the guide's Derived/Test/ToyasCard.lean, 'card_holds'). Laid BY PROGRAM, IN A SANDBOX (cutbox-door.mjs). By AI agents, Wed Nov 11 2026. No macro, syntax, notation, axiom, sorry.
-/
import Derived.Test.YtgbnngmpaefbcaaDoorRows
import GoSem.ClaimSeven
namespace Go.Proofs.YtgbnngmpaefbcaaDoor
namespace Rows

/-- THE TIED CARD OF 'cleanroomlaw02.DigestTreeMatchesReference'. -/
def digestTreeMatchesReferenceCard : Claim7 := { stood := { row := digestTreeMatchesReferenceRow, standIns := [], harness := (true, "f57352fe40c08fdff6e69e180667485b9e11d747084b224ca9a574762b63d3ca"), looks := false }, kinds := [], alts := [], laidByText := true, laidKinds := [.data], laidTests := true, laidLooks := .later }
def DigestTreeMatchesReferenceCardSaid : Prop := Claim7.holds Tryd.pinned (.plain (OpenSpec.ofChange digestTreeMatchesReferenceSpec)) digestTreeMatchesReferenceCard

/-- THE TIED CARD OF 'cleanroomlaw02.DigestProofAccepted'. -/
def digestProofAcceptedCard : Claim7 := { stood := { row := digestProofAcceptedRow, standIns := [], harness := (true, "f57352fe40c08fdff6e69e180667485b9e11d747084b224ca9a574762b63d3ca"), looks := false }, kinds := [], alts := [], laidByText := true, laidKinds := [.data], laidTests := true, laidLooks := .later }
def DigestProofAcceptedCardSaid : Prop := Claim7.holds Tryd.pinned (.plain (OpenSpec.ofChange digestProofAcceptedSpec)) digestProofAcceptedCard

/-- THE TIED CARD OF 'cleanroomlaw02.DigestExtensionAccepted'. -/
def digestExtensionAcceptedCard : Claim7 := { stood := { row := digestExtensionAcceptedRow, standIns := [], harness := (true, "f57352fe40c08fdff6e69e180667485b9e11d747084b224ca9a574762b63d3ca"), looks := false }, kinds := [], alts := [], laidByText := true, laidKinds := [.data], laidTests := true, laidLooks := .later }
def DigestExtensionAcceptedCardSaid : Prop := Claim7.holds Tryd.pinned (.plain (OpenSpec.ofChange digestExtensionAcceptedSpec)) digestExtensionAcceptedCard

/-- THE TIED CARD OF 'cleanroomlaw02.DigestBinding'. -/
def digestBindingCard : Claim7 := { stood := { row := digestBindingRow, standIns := [], harness := (true, "f57352fe40c08fdff6e69e180667485b9e11d747084b224ca9a574762b63d3ca"), looks := false }, kinds := [], alts := [], laidByText := true, laidKinds := [.data], laidTests := true, laidLooks := .later }
def DigestBindingCardSaid : Prop := Claim7.holds Tryd.pinned (.plain (OpenSpec.ofChange digestBindingSpec)) digestBindingCard

/-- THE TIED CARD OF 'cleanroomlaw02.DigestExtensionBinding'. -/
def digestExtensionBindingCard : Claim7 := { stood := { row := digestExtensionBindingRow, standIns := [], harness := (true, "f57352fe40c08fdff6e69e180667485b9e11d747084b224ca9a574762b63d3ca"), looks := false }, kinds := [], alts := [], laidByText := true, laidKinds := [.data], laidTests := true, laidLooks := .later }
def DigestExtensionBindingCardSaid : Prop := Claim7.holds Tryd.pinned (.plain (OpenSpec.ofChange digestExtensionBindingSpec)) digestExtensionBindingCard

/-- THE TIED CARD OF 'cleanroomlaw02.DigestSplit'. -/
def digestSplitCard : Claim7 := { stood := { row := digestSplitRow, standIns := [], harness := (true, "f57352fe40c08fdff6e69e180667485b9e11d747084b224ca9a574762b63d3ca"), looks := false }, kinds := [], alts := [], laidByText := true, laidKinds := [.data], laidTests := true, laidLooks := .later }
def DigestSplitCardSaid : Prop := Claim7.holds Tryd.pinned (.plain (OpenSpec.ofChange digestSplitSpec)) digestSplitCard

/-- THE TIED CARD OF 'cleanroomlaw02.DigestSumMatchesReference'. -/
def digestSumMatchesReferenceCard : Claim7 := { stood := { row := digestSumMatchesReferenceRow, standIns := [], harness := (true, "f57352fe40c08fdff6e69e180667485b9e11d747084b224ca9a574762b63d3ca"), looks := false }, kinds := [], alts := [], laidByText := true, laidKinds := [.data], laidTests := true, laidLooks := .later }
def DigestSumMatchesReferenceCardSaid : Prop := Claim7.holds Tryd.pinned (.plain (OpenSpec.ofChange digestSumMatchesReferenceSpec)) digestSumMatchesReferenceCard

/-- THE TIED CARD OF 'cleanroomlaw02.DigestChainBinding'. -/
def digestChainBindingCard : Claim7 := { stood := { row := digestChainBindingRow, standIns := [], harness := (true, "f57352fe40c08fdff6e69e180667485b9e11d747084b224ca9a574762b63d3ca"), looks := false }, kinds := [], alts := [], laidByText := true, laidKinds := [.data], laidTests := true, laidLooks := .later }
def DigestChainBindingCardSaid : Prop := Claim7.holds Tryd.pinned (.plain (OpenSpec.ofChange digestChainBindingSpec)) digestChainBindingCard

/-- THE SECOND FORM's CARD OF 'cleanroomlaw02.DigestTreeMatchesReference'. -/
def digestTreeMatchesReferenceUptoCard : Claim7 := { stood := { row := digestTreeMatchesReferenceUptoRow, standIns := [], harness := (true, "f57352fe40c08fdff6e69e180667485b9e11d747084b224ca9a574762b63d3ca"), looks := false }, kinds := [], alts := [], laidByText := true, laidKinds := [.data], laidTests := true, laidLooks := .later }
def DigestTreeMatchesReferenceUptoCardSaid : Prop := Claim7.holds Tryd.pinned (.plain (OpenSpec.upto digestTreeMatchesReferenceSpec)) digestTreeMatchesReferenceUptoCard

/-- THE SECOND FORM's CARD OF 'cleanroomlaw02.DigestProofAccepted'. -/
def digestProofAcceptedUptoCard : Claim7 := { stood := { row := digestProofAcceptedUptoRow, standIns := [], harness := (true, "f57352fe40c08fdff6e69e180667485b9e11d747084b224ca9a574762b63d3ca"), looks := false }, kinds := [], alts := [], laidByText := true, laidKinds := [.data], laidTests := true, laidLooks := .later }
def DigestProofAcceptedUptoCardSaid : Prop := Claim7.holds Tryd.pinned (.plain (OpenSpec.upto digestProofAcceptedSpec)) digestProofAcceptedUptoCard

/-- THE SECOND FORM's CARD OF 'cleanroomlaw02.DigestExtensionAccepted'. -/
def digestExtensionAcceptedUptoCard : Claim7 := { stood := { row := digestExtensionAcceptedUptoRow, standIns := [], harness := (true, "f57352fe40c08fdff6e69e180667485b9e11d747084b224ca9a574762b63d3ca"), looks := false }, kinds := [], alts := [], laidByText := true, laidKinds := [.data], laidTests := true, laidLooks := .later }
def DigestExtensionAcceptedUptoCardSaid : Prop := Claim7.holds Tryd.pinned (.plain (OpenSpec.upto digestExtensionAcceptedSpec)) digestExtensionAcceptedUptoCard

/-- THE SECOND FORM's CARD OF 'cleanroomlaw02.DigestBinding'. -/
def digestBindingUptoCard : Claim7 := { stood := { row := digestBindingUptoRow, standIns := [], harness := (true, "f57352fe40c08fdff6e69e180667485b9e11d747084b224ca9a574762b63d3ca"), looks := false }, kinds := [], alts := [], laidByText := true, laidKinds := [.data], laidTests := true, laidLooks := .later }
def DigestBindingUptoCardSaid : Prop := Claim7.holds Tryd.pinned (.plain (OpenSpec.upto digestBindingSpec)) digestBindingUptoCard

/-- THE SECOND FORM's CARD OF 'cleanroomlaw02.DigestExtensionBinding'. -/
def digestExtensionBindingUptoCard : Claim7 := { stood := { row := digestExtensionBindingUptoRow, standIns := [], harness := (true, "f57352fe40c08fdff6e69e180667485b9e11d747084b224ca9a574762b63d3ca"), looks := false }, kinds := [], alts := [], laidByText := true, laidKinds := [.data], laidTests := true, laidLooks := .later }
def DigestExtensionBindingUptoCardSaid : Prop := Claim7.holds Tryd.pinned (.plain (OpenSpec.upto digestExtensionBindingSpec)) digestExtensionBindingUptoCard

/-- THE SECOND FORM's CARD OF 'cleanroomlaw02.DigestSplit'. -/
def digestSplitUptoCard : Claim7 := { stood := { row := digestSplitUptoRow, standIns := [], harness := (true, "f57352fe40c08fdff6e69e180667485b9e11d747084b224ca9a574762b63d3ca"), looks := false }, kinds := [], alts := [], laidByText := true, laidKinds := [.data], laidTests := true, laidLooks := .later }
def DigestSplitUptoCardSaid : Prop := Claim7.holds Tryd.pinned (.plain (OpenSpec.upto digestSplitSpec)) digestSplitUptoCard

/-- THE SECOND FORM's CARD OF 'cleanroomlaw02.DigestSumMatchesReference'. -/
def digestSumMatchesReferenceUptoCard : Claim7 := { stood := { row := digestSumMatchesReferenceUptoRow, standIns := [], harness := (true, "f57352fe40c08fdff6e69e180667485b9e11d747084b224ca9a574762b63d3ca"), looks := false }, kinds := [], alts := [], laidByText := true, laidKinds := [.data], laidTests := true, laidLooks := .later }
def DigestSumMatchesReferenceUptoCardSaid : Prop := Claim7.holds Tryd.pinned (.plain (OpenSpec.upto digestSumMatchesReferenceSpec)) digestSumMatchesReferenceUptoCard

/-- THE SECOND FORM's CARD OF 'cleanroomlaw02.DigestChainBinding'. -/
def digestChainBindingUptoCard : Claim7 := { stood := { row := digestChainBindingUptoRow, standIns := [], harness := (true, "f57352fe40c08fdff6e69e180667485b9e11d747084b224ca9a574762b63d3ca"), looks := false }, kinds := [], alts := [], laidByText := true, laidKinds := [.data], laidTests := true, laidLooks := .later }
def DigestChainBindingUptoCardSaid : Prop := Claim7.holds Tryd.pinned (.plain (OpenSpec.upto digestChainBindingSpec)) digestChainBindingUptoCard
end Rows
end Go.Proofs.YtgbnngmpaefbcaaDoor
