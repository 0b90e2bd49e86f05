/-
  DERIVED. GIVEN WITH THE SEED: THE CARDS: each row of YtkdjebioapholaaDoorRows.lean that lists a variable, with what it lists TIED to the program's text (the seventh form; the later family's looks); each row that meets fmt, with fmt's text TOLD by the authors' own Lean function (tested against real Go, not proved from fmt's source: count such statements apart). THE CARD IS WHAT COUNTS. Prove the row's statement (the work); the ties are given (YtkdjebioapholaaDoorTie.lean); close each card by the builder's one call (the guide's Derived/Test/ToyasCard.lean, 'card_holds'). Laid BY PROGRAM, IN A SANDBOX (cutbox-door.mjs). By AI agents, Wed Nov 11 2026. No macro, syntax, notation, axiom, sorry.
-/
import Derived.Test.YtkdjebioapholaaDoorRows
import GoSem.ClaimSeven
namespace Go.Proofs.YtkdjebioapholaaDoor
namespace Rows

/-- THE TIED CARD OF 'cleanroomlaw23.InspectMatchesReference'. -/
def inspectMatchesReferenceCard : Claim7 := { stood := { row := inspectMatchesReferenceRow, standIns := [], harness := (true, "e4b1f9902f939737b75729518e81c59b9a5e782a9195843c93e28d07ffd1672f"), looks := false }, kinds := [], alts := [], laidByText := true, laidKinds := [.data, .data], laidTests := true, laidLooks := .later }
def InspectMatchesReferenceCardSaid : Prop := Claim7.holds Tryd.pinned (.plain (OpenSpec.ofChange inspectMatchesReferenceSpec)) inspectMatchesReferenceCard

/-- THE TIED CARD OF 'cleanroomlaw23.InspectFewest'. -/
def inspectFewestCard : Claim7 := { stood := { row := inspectFewestRow, standIns := [], harness := (true, "e4b1f9902f939737b75729518e81c59b9a5e782a9195843c93e28d07ffd1672f"), looks := false }, kinds := [], alts := [], laidByText := true, laidKinds := [.data, .data], laidTests := true, laidLooks := .later }
def InspectFewestCardSaid : Prop := Claim7.holds Tryd.pinned (.plain (OpenSpec.ofChange inspectFewestSpec)) inspectFewestCard

/-- THE TIED CARD OF 'cleanroomlaw23.InspectNeeded'. -/
def inspectNeededCard : Claim7 := { stood := { row := inspectNeededRow, standIns := [], harness := (true, "e4b1f9902f939737b75729518e81c59b9a5e782a9195843c93e28d07ffd1672f"), looks := false }, kinds := [], alts := [], laidByText := true, laidKinds := [.data, .data], laidTests := true, laidLooks := .later }
def InspectNeededCardSaid : Prop := Claim7.holds Tryd.pinned (.plain (OpenSpec.ofChange inspectNeededSpec)) inspectNeededCard

/-- THE TIED CARD OF 'cleanroomlaw23.InspectBound'. -/
def inspectBoundCard : Claim7 := { stood := { row := inspectBoundRow, standIns := [], harness := (true, "e4b1f9902f939737b75729518e81c59b9a5e782a9195843c93e28d07ffd1672f"), looks := false }, kinds := [], alts := [], laidByText := true, laidKinds := [.data, .data], laidTests := true, laidLooks := .later }
def InspectBoundCardSaid : Prop := Claim7.holds Tryd.pinned (.plain (OpenSpec.ofChange inspectBoundSpec)) inspectBoundCard

/-- THE TIED CARD OF 'cleanroomlaw23.InspectMore'. -/
def inspectMoreCard : Claim7 := { stood := { row := inspectMoreRow, standIns := [], harness := (true, "e4b1f9902f939737b75729518e81c59b9a5e782a9195843c93e28d07ffd1672f"), looks := false }, kinds := [], alts := [], laidByText := true, laidKinds := [.data, .data], laidTests := true, laidLooks := .later }
def InspectMoreCardSaid : Prop := Claim7.holds Tryd.pinned (.plain (OpenSpec.ofChange inspectMoreSpec)) inspectMoreCard

/-- THE TIED CARD OF 'cleanroomlaw23.InspectRestricted'. -/
def inspectRestrictedCard : Claim7 := { stood := { row := inspectRestrictedRow, standIns := [], harness := (true, "e4b1f9902f939737b75729518e81c59b9a5e782a9195843c93e28d07ffd1672f"), looks := false }, kinds := [], alts := [], laidByText := true, laidKinds := [.data, .data], laidTests := true, laidLooks := .later }
def InspectRestrictedCardSaid : Prop := Claim7.holds Tryd.pinned (.plain (OpenSpec.ofChange inspectRestrictedSpec)) inspectRestrictedCard

/-- THE TIED CARD OF 'cleanroomlaw23.InspectChoices'. -/
def inspectChoicesCard : Claim7 := { stood := { row := inspectChoicesRow, standIns := [], harness := (true, "e4b1f9902f939737b75729518e81c59b9a5e782a9195843c93e28d07ffd1672f"), looks := false }, kinds := [], alts := [], laidByText := true, laidKinds := [.data, .data], laidTests := true, laidLooks := .later }
def InspectChoicesCardSaid : Prop := Claim7.holds Tryd.pinned (.plain (OpenSpec.ofChange inspectChoicesSpec)) inspectChoicesCard

/-- THE TIED CARD OF 'cleanroomlaw23.InspectRefuses'. -/
def inspectRefusesCard : Claim7 := { stood := { row := inspectRefusesRow, standIns := [], harness := (true, "e4b1f9902f939737b75729518e81c59b9a5e782a9195843c93e28d07ffd1672f"), looks := false }, kinds := [], alts := [], laidByText := true, laidKinds := [.data, .data], laidTests := true, laidLooks := .later }
def InspectRefusesCardSaid : Prop := Claim7.holds Tryd.pinned (.plain (OpenSpec.ofChange inspectRefusesSpec)) inspectRefusesCard

/-- THE SECOND FORM's CARD OF 'cleanroomlaw23.InspectMatchesReference'. -/
def inspectMatchesReferenceUptoCard : Claim7 := { stood := { row := inspectMatchesReferenceUptoRow, standIns := [], harness := (true, "e4b1f9902f939737b75729518e81c59b9a5e782a9195843c93e28d07ffd1672f"), looks := false }, kinds := [], alts := [], laidByText := true, laidKinds := [.data, .data], laidTests := true, laidLooks := .later }
def InspectMatchesReferenceUptoCardSaid : Prop := Claim7.holds Tryd.pinned (.plain (OpenSpec.upto inspectMatchesReferenceSpec)) inspectMatchesReferenceUptoCard

/-- THE SECOND FORM's CARD OF 'cleanroomlaw23.InspectFewest'. -/
def inspectFewestUptoCard : Claim7 := { stood := { row := inspectFewestUptoRow, standIns := [], harness := (true, "e4b1f9902f939737b75729518e81c59b9a5e782a9195843c93e28d07ffd1672f"), looks := false }, kinds := [], alts := [], laidByText := true, laidKinds := [.data, .data], laidTests := true, laidLooks := .later }
def InspectFewestUptoCardSaid : Prop := Claim7.holds Tryd.pinned (.plain (OpenSpec.upto inspectFewestSpec)) inspectFewestUptoCard

/-- THE SECOND FORM's CARD OF 'cleanroomlaw23.InspectNeeded'. -/
def inspectNeededUptoCard : Claim7 := { stood := { row := inspectNeededUptoRow, standIns := [], harness := (true, "e4b1f9902f939737b75729518e81c59b9a5e782a9195843c93e28d07ffd1672f"), looks := false }, kinds := [], alts := [], laidByText := true, laidKinds := [.data, .data], laidTests := true, laidLooks := .later }
def InspectNeededUptoCardSaid : Prop := Claim7.holds Tryd.pinned (.plain (OpenSpec.upto inspectNeededSpec)) inspectNeededUptoCard

/-- THE SECOND FORM's CARD OF 'cleanroomlaw23.InspectBound'. -/
def inspectBoundUptoCard : Claim7 := { stood := { row := inspectBoundUptoRow, standIns := [], harness := (true, "e4b1f9902f939737b75729518e81c59b9a5e782a9195843c93e28d07ffd1672f"), looks := false }, kinds := [], alts := [], laidByText := true, laidKinds := [.data, .data], laidTests := true, laidLooks := .later }
def InspectBoundUptoCardSaid : Prop := Claim7.holds Tryd.pinned (.plain (OpenSpec.upto inspectBoundSpec)) inspectBoundUptoCard

/-- THE SECOND FORM's CARD OF 'cleanroomlaw23.InspectMore'. -/
def inspectMoreUptoCard : Claim7 := { stood := { row := inspectMoreUptoRow, standIns := [], harness := (true, "e4b1f9902f939737b75729518e81c59b9a5e782a9195843c93e28d07ffd1672f"), looks := false }, kinds := [], alts := [], laidByText := true, laidKinds := [.data, .data], laidTests := true, laidLooks := .later }
def InspectMoreUptoCardSaid : Prop := Claim7.holds Tryd.pinned (.plain (OpenSpec.upto inspectMoreSpec)) inspectMoreUptoCard

/-- THE SECOND FORM's CARD OF 'cleanroomlaw23.InspectRestricted'. -/
def inspectRestrictedUptoCard : Claim7 := { stood := { row := inspectRestrictedUptoRow, standIns := [], harness := (true, "e4b1f9902f939737b75729518e81c59b9a5e782a9195843c93e28d07ffd1672f"), looks := false }, kinds := [], alts := [], laidByText := true, laidKinds := [.data, .data], laidTests := true, laidLooks := .later }
def InspectRestrictedUptoCardSaid : Prop := Claim7.holds Tryd.pinned (.plain (OpenSpec.upto inspectRestrictedSpec)) inspectRestrictedUptoCard

/-- THE SECOND FORM's CARD OF 'cleanroomlaw23.InspectChoices'. -/
def inspectChoicesUptoCard : Claim7 := { stood := { row := inspectChoicesUptoRow, standIns := [], harness := (true, "e4b1f9902f939737b75729518e81c59b9a5e782a9195843c93e28d07ffd1672f"), looks := false }, kinds := [], alts := [], laidByText := true, laidKinds := [.data, .data], laidTests := true, laidLooks := .later }
def InspectChoicesUptoCardSaid : Prop := Claim7.holds Tryd.pinned (.plain (OpenSpec.upto inspectChoicesSpec)) inspectChoicesUptoCard

/-- THE SECOND FORM's CARD OF 'cleanroomlaw23.InspectRefuses'. -/
def inspectRefusesUptoCard : Claim7 := { stood := { row := inspectRefusesUptoRow, standIns := [], harness := (true, "e4b1f9902f939737b75729518e81c59b9a5e782a9195843c93e28d07ffd1672f"), looks := false }, kinds := [], alts := [], laidByText := true, laidKinds := [.data, .data], laidTests := true, laidLooks := .later }
def InspectRefusesUptoCardSaid : Prop := Claim7.holds Tryd.pinned (.plain (OpenSpec.upto inspectRefusesSpec)) inspectRefusesUptoCard
end Rows
end Go.Proofs.YtkdjebioapholaaDoor
