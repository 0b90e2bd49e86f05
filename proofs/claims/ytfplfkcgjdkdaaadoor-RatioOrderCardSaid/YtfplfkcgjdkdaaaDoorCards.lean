/-
  DERIVED. GIVEN WITH THE SEED: THE CARDS: each row of YtfplfkcgjdkdaaaDoorRows.lean that lists a variable, with what it lists TIED to the program's text (the seventh form; the later family's looks); each row that meets fmt, with fmt's text TOLD by the authors' own Lean function (tested against real Go, not proved from fmt's source: count such statements apart). THE CARD IS WHAT COUNTS. Prove the row's statement (the work); the ties are given (YtfplfkcgjdkdaaaDoorTie.lean); close each card by the builder's one call (the guide's Derived/Test/ToyasCard.lean, 'card_holds'). Laid BY PROGRAM, IN A SANDBOX (cutbox-door.mjs). By AI agents, Wed Nov 11 2026. No macro, syntax, notation, axiom, sorry.
-/
import Derived.Test.YtfplfkcgjdkdaaaDoorRows
import GoSem.ClaimSeven
namespace Go.Proofs.YtfplfkcgjdkdaaaDoor
namespace Rows

/-- THE TIED CARD OF 'cleanroomlaw03.RatioTextMatchesReference'. -/
def ratioTextMatchesReferenceCard : Claim7 := { stood := { row := ratioTextMatchesReferenceRow, standIns := [], harness := (true, "46e8b2fbf3b13a375a7a53c48ad3cc7b1f677adbb202d6e81eba72ee64b42fb4"), looks := true }, kinds := [], alts := [], laidByText := true, laidKinds := [.data, .data, .data, .sentinel, .sentinel, .sentinel], laidTests := true, laidLooks := .later }
def RatioTextMatchesReferenceCardSaid : Prop := Claim7.holds Tryd.pinned (.plain (OpenSpec.ofChange ratioTextMatchesReferenceSpec)) ratioTextMatchesReferenceCard

/-- THE TIED CARD OF 'cleanroomlaw03.RatioFloor'. -/
def ratioFloorCard : Claim7 := { stood := { row := ratioFloorRow, standIns := [], harness := (true, "46e8b2fbf3b13a375a7a53c48ad3cc7b1f677adbb202d6e81eba72ee64b42fb4"), looks := true }, kinds := [], alts := [], laidByText := true, laidKinds := [.data, .data, .data, .sentinel, .sentinel, .sentinel], laidTests := true, laidLooks := .later }
def RatioFloorCardSaid : Prop := Claim7.holds Tryd.pinned (.plain (OpenSpec.ofChange ratioFloorSpec)) ratioFloorCard

/-- THE TIED CARD OF 'cleanroomlaw03.RatioRound'. -/
def ratioRoundCard : Claim7 := { stood := { row := ratioRoundRow, standIns := [], harness := (true, "46e8b2fbf3b13a375a7a53c48ad3cc7b1f677adbb202d6e81eba72ee64b42fb4"), looks := true }, kinds := [], alts := [], laidByText := true, laidKinds := [.data, .data, .data, .sentinel, .sentinel, .sentinel], laidTests := true, laidLooks := .later }
def RatioRoundCardSaid : Prop := Claim7.holds Tryd.pinned (.plain (OpenSpec.ofChange ratioRoundSpec)) ratioRoundCard

/-- THE TIED CARD OF 'cleanroomlaw03.RatioText'. -/
def ratioTextCard : Claim7 := { stood := { row := ratioTextRow, standIns := [], harness := (true, "46e8b2fbf3b13a375a7a53c48ad3cc7b1f677adbb202d6e81eba72ee64b42fb4"), looks := true }, kinds := [], alts := [], laidByText := true, laidKinds := [.data, .data, .data, .sentinel, .sentinel, .sentinel], laidTests := true, laidLooks := .later }
def RatioTextCardSaid : Prop := Claim7.holds Tryd.pinned (.plain (OpenSpec.ofChange ratioTextSpec)) ratioTextCard

/-- THE TIED CARD OF 'cleanroomlaw03.RatioOrder'. -/
def ratioOrderCard : Claim7 := { stood := { row := ratioOrderRow, standIns := [], harness := (true, "46e8b2fbf3b13a375a7a53c48ad3cc7b1f677adbb202d6e81eba72ee64b42fb4"), looks := true }, kinds := [], alts := [], laidByText := true, laidKinds := [.data, .data, .data, .sentinel, .sentinel, .sentinel], laidTests := true, laidLooks := .later }
def RatioOrderCardSaid : Prop := Claim7.holds Tryd.pinned (.plain (OpenSpec.ofChange ratioOrderSpec)) ratioOrderCard

/-- THE TIED CARD OF 'cleanroomlaw03.RatioCommutes'. -/
def ratioCommutesCard : Claim7 := { stood := { row := ratioCommutesRow, standIns := [], harness := (true, "46e8b2fbf3b13a375a7a53c48ad3cc7b1f677adbb202d6e81eba72ee64b42fb4"), looks := true }, kinds := [], alts := [], laidByText := true, laidKinds := [.data, .data, .data, .sentinel, .sentinel, .sentinel], laidTests := true, laidLooks := .later }
def RatioCommutesCardSaid : Prop := Claim7.holds Tryd.pinned (.plain (OpenSpec.ofChange ratioCommutesSpec)) ratioCommutesCard

/-- THE TIED CARD OF 'cleanroomlaw03.RatioDistributes'. -/
def ratioDistributesCard : Claim7 := { stood := { row := ratioDistributesRow, standIns := [], harness := (true, "46e8b2fbf3b13a375a7a53c48ad3cc7b1f677adbb202d6e81eba72ee64b42fb4"), looks := true }, kinds := [], alts := [], laidByText := true, laidKinds := [.data, .data, .data, .sentinel, .sentinel, .sentinel], laidTests := true, laidLooks := .later }
def RatioDistributesCardSaid : Prop := Claim7.holds Tryd.pinned (.plain (OpenSpec.ofChange ratioDistributesSpec)) ratioDistributesCard

/-- THE TIED CARD OF 'cleanroomlaw03.RatioMatchesReference'. -/
def ratioMatchesReferenceCard : Claim7 := { stood := { row := ratioMatchesReferenceRow, standIns := [], harness := (true, "46e8b2fbf3b13a375a7a53c48ad3cc7b1f677adbb202d6e81eba72ee64b42fb4"), looks := true }, kinds := [], alts := [], laidByText := true, laidKinds := [.data, .data, .data, .sentinel, .sentinel, .sentinel], laidTests := true, laidLooks := .later }
def RatioMatchesReferenceCardSaid : Prop := Claim7.holds Tryd.pinned (.plain (OpenSpec.ofChange ratioMatchesReferenceSpec)) ratioMatchesReferenceCard

/-- THE TIED CARD OF 'cleanroomlaw03.RatioInverse'. -/
def ratioInverseCard : Claim7 := { stood := { row := ratioInverseRow, standIns := [], harness := (true, "46e8b2fbf3b13a375a7a53c48ad3cc7b1f677adbb202d6e81eba72ee64b42fb4"), looks := true }, kinds := [], alts := [], laidByText := true, laidKinds := [.data, .data, .data, .sentinel, .sentinel, .sentinel], laidTests := true, laidLooks := .later }
def RatioInverseCardSaid : Prop := Claim7.holds Tryd.pinned (.plain (OpenSpec.ofChange ratioInverseSpec)) ratioInverseCard

/-- THE SECOND FORM's CARD OF 'cleanroomlaw03.RatioTextMatchesReference'. -/
def ratioTextMatchesReferenceUptoCard : Claim7 := { stood := { row := ratioTextMatchesReferenceUptoRow, standIns := [], harness := (true, "46e8b2fbf3b13a375a7a53c48ad3cc7b1f677adbb202d6e81eba72ee64b42fb4"), looks := true }, kinds := [], alts := [], laidByText := true, laidKinds := [.data, .data, .data, .sentinel, .sentinel, .sentinel], laidTests := true, laidLooks := .later }
def RatioTextMatchesReferenceUptoCardSaid : Prop := Claim7.holds Tryd.pinned (.plain (OpenSpec.upto ratioTextMatchesReferenceSpec)) ratioTextMatchesReferenceUptoCard

/-- THE SECOND FORM's CARD OF 'cleanroomlaw03.RatioFloor'. -/
def ratioFloorUptoCard : Claim7 := { stood := { row := ratioFloorUptoRow, standIns := [], harness := (true, "46e8b2fbf3b13a375a7a53c48ad3cc7b1f677adbb202d6e81eba72ee64b42fb4"), looks := true }, kinds := [], alts := [], laidByText := true, laidKinds := [.data, .data, .data, .sentinel, .sentinel, .sentinel], laidTests := true, laidLooks := .later }
def RatioFloorUptoCardSaid : Prop := Claim7.holds Tryd.pinned (.plain (OpenSpec.upto ratioFloorSpec)) ratioFloorUptoCard

/-- THE SECOND FORM's CARD OF 'cleanroomlaw03.RatioRound'. -/
def ratioRoundUptoCard : Claim7 := { stood := { row := ratioRoundUptoRow, standIns := [], harness := (true, "46e8b2fbf3b13a375a7a53c48ad3cc7b1f677adbb202d6e81eba72ee64b42fb4"), looks := true }, kinds := [], alts := [], laidByText := true, laidKinds := [.data, .data, .data, .sentinel, .sentinel, .sentinel], laidTests := true, laidLooks := .later }
def RatioRoundUptoCardSaid : Prop := Claim7.holds Tryd.pinned (.plain (OpenSpec.upto ratioRoundSpec)) ratioRoundUptoCard

/-- THE SECOND FORM's CARD OF 'cleanroomlaw03.RatioText'. -/
def ratioTextUptoCard : Claim7 := { stood := { row := ratioTextUptoRow, standIns := [], harness := (true, "46e8b2fbf3b13a375a7a53c48ad3cc7b1f677adbb202d6e81eba72ee64b42fb4"), looks := true }, kinds := [], alts := [], laidByText := true, laidKinds := [.data, .data, .data, .sentinel, .sentinel, .sentinel], laidTests := true, laidLooks := .later }
def RatioTextUptoCardSaid : Prop := Claim7.holds Tryd.pinned (.plain (OpenSpec.upto ratioTextSpec)) ratioTextUptoCard

/-- THE SECOND FORM's CARD OF 'cleanroomlaw03.RatioOrder'. -/
def ratioOrderUptoCard : Claim7 := { stood := { row := ratioOrderUptoRow, standIns := [], harness := (true, "46e8b2fbf3b13a375a7a53c48ad3cc7b1f677adbb202d6e81eba72ee64b42fb4"), looks := true }, kinds := [], alts := [], laidByText := true, laidKinds := [.data, .data, .data, .sentinel, .sentinel, .sentinel], laidTests := true, laidLooks := .later }
def RatioOrderUptoCardSaid : Prop := Claim7.holds Tryd.pinned (.plain (OpenSpec.upto ratioOrderSpec)) ratioOrderUptoCard

/-- THE SECOND FORM's CARD OF 'cleanroomlaw03.RatioCommutes'. -/
def ratioCommutesUptoCard : Claim7 := { stood := { row := ratioCommutesUptoRow, standIns := [], harness := (true, "46e8b2fbf3b13a375a7a53c48ad3cc7b1f677adbb202d6e81eba72ee64b42fb4"), looks := true }, kinds := [], alts := [], laidByText := true, laidKinds := [.data, .data, .data, .sentinel, .sentinel, .sentinel], laidTests := true, laidLooks := .later }
def RatioCommutesUptoCardSaid : Prop := Claim7.holds Tryd.pinned (.plain (OpenSpec.upto ratioCommutesSpec)) ratioCommutesUptoCard

/-- THE SECOND FORM's CARD OF 'cleanroomlaw03.RatioDistributes'. -/
def ratioDistributesUptoCard : Claim7 := { stood := { row := ratioDistributesUptoRow, standIns := [], harness := (true, "46e8b2fbf3b13a375a7a53c48ad3cc7b1f677adbb202d6e81eba72ee64b42fb4"), looks := true }, kinds := [], alts := [], laidByText := true, laidKinds := [.data, .data, .data, .sentinel, .sentinel, .sentinel], laidTests := true, laidLooks := .later }
def RatioDistributesUptoCardSaid : Prop := Claim7.holds Tryd.pinned (.plain (OpenSpec.upto ratioDistributesSpec)) ratioDistributesUptoCard

/-- THE SECOND FORM's CARD OF 'cleanroomlaw03.RatioMatchesReference'. -/
def ratioMatchesReferenceUptoCard : Claim7 := { stood := { row := ratioMatchesReferenceUptoRow, standIns := [], harness := (true, "46e8b2fbf3b13a375a7a53c48ad3cc7b1f677adbb202d6e81eba72ee64b42fb4"), looks := true }, kinds := [], alts := [], laidByText := true, laidKinds := [.data, .data, .data, .sentinel, .sentinel, .sentinel], laidTests := true, laidLooks := .later }
def RatioMatchesReferenceUptoCardSaid : Prop := Claim7.holds Tryd.pinned (.plain (OpenSpec.upto ratioMatchesReferenceSpec)) ratioMatchesReferenceUptoCard

/-- THE SECOND FORM's CARD OF 'cleanroomlaw03.RatioInverse'. -/
def ratioInverseUptoCard : Claim7 := { stood := { row := ratioInverseUptoRow, standIns := [], harness := (true, "46e8b2fbf3b13a375a7a53c48ad3cc7b1f677adbb202d6e81eba72ee64b42fb4"), looks := true }, kinds := [], alts := [], laidByText := true, laidKinds := [.data, .data, .data, .sentinel, .sentinel, .sentinel], laidTests := true, laidLooks := .later }
def RatioInverseUptoCardSaid : Prop := Claim7.holds Tryd.pinned (.plain (OpenSpec.upto ratioInverseSpec)) ratioInverseUptoCard
end Rows
end Go.Proofs.YtfplfkcgjdkdaaaDoor
