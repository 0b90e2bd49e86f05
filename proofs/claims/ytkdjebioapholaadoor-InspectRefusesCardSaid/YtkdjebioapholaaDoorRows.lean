/-
  NARROWER THAN 'FOR EVERY INPUT', by the rows' own cells (each row's printed sentence says how): InspectMatchesReference: laid · InspectFewest: laid · InspectNeeded: laid · InspectBound: laid · InspectMore: laid · InspectRestricted: laid · InspectChoices: laid · InspectRefuses: laid.
  DERIVED. THE GIVEN ROWS OF THIS SEAT. 8 by the template 'for every input the law returns true; each argument reads behind the call as it read before'; 0 by the template 'total and deterministic' (their statements: YtkdjebioapholaaDoorTotals.lean).
  GIVEN WITH THE SEED: the statements are not yours to turn. If you find one false, say at which input.
  Laid BY PROGRAM, IN A SANDBOX (cutbox-rows.mjs): the forced cells as the released guide's own fill.sh prints them over the translation 7a009b359a467be6… (all of the seat's roots in one cut). By AI agents, Wed Nov 11 2026. No macro, syntax, notation, axiom, sorry.
-/
import Derived.Test.YtkdjebioapholaaDoorChecked
import GoSem.Claim
import GoSem.ClaimJoined
import GoSem.ClaimMapViews
import Derived.JoinedTies
import Derived.KernelRfl
namespace Go.Proofs.YtkdjebioapholaaDoor
/- THE CELL 'sum', in the pinned program and in every row, IS THE sha256 OF THE DUMP (.gsa) THAT YtkdjebioapholaaDoorProg.lean LOADS. Nothing in Lean hashes anything: it is a label: what it is worth is what the hold of that sum in a sandbox is worth. -/
noncomputable def Tryd.pinned : Pinned := { name := "ytkdjebioapholaadoor", sum := "7a009b359a467be622421e27b238ea792022f113db95680ad0ad2946891f6106", checked := Tryd.checked }
namespace Rows
def none {H : Type} : Left H := { results := [], args := [] }

/- WHAT THE LISTED PACKAGE-LEVEL VARIABLES READ AS WHEN THE CALL BEGINS. Each datum BY PROGRAM (the guide's laid-datum.mjs) off the statement by which the dump's own 'gosem.cut.vars' lays the variable. In a bare row this is a premise. The card (YtkdjebioapholaaDoorCards.lean) ties it to the program's text. -/
def laid_math_bits_deBruijn32tab {H : Type} : DataW H := .agg [.lit (.int .u8 0), .lit (.int .u8 1), .lit (.int .u8 28), .lit (.int .u8 2), .lit (.int .u8 29), .lit (.int .u8 14), .lit (.int .u8 24), .lit (.int .u8 3), .lit (.int .u8 30), .lit (.int .u8 22), .lit (.int .u8 20), .lit (.int .u8 15), .lit (.int .u8 25), .lit (.int .u8 17), .lit (.int .u8 4), .lit (.int .u8 8), .lit (.int .u8 31), .lit (.int .u8 27), .lit (.int .u8 13), .lit (.int .u8 23), .lit (.int .u8 21), .lit (.int .u8 19), .lit (.int .u8 16), .lit (.int .u8 7), .lit (.int .u8 26), .lit (.int .u8 12), .lit (.int .u8 18), .lit (.int .u8 6), .lit (.int .u8 11), .lit (.int .u8 5), .lit (.int .u8 10), .lit (.int .u8 9)]
def laid_math_bits_deBruijn64tab {H : Type} : DataW H := .agg [.lit (.int .u8 0), .lit (.int .u8 1), .lit (.int .u8 56), .lit (.int .u8 2), .lit (.int .u8 57), .lit (.int .u8 49), .lit (.int .u8 28), .lit (.int .u8 3), .lit (.int .u8 61), .lit (.int .u8 58), .lit (.int .u8 42), .lit (.int .u8 50), .lit (.int .u8 38), .lit (.int .u8 29), .lit (.int .u8 17), .lit (.int .u8 4), .lit (.int .u8 62), .lit (.int .u8 47), .lit (.int .u8 59), .lit (.int .u8 36), .lit (.int .u8 45), .lit (.int .u8 43), .lit (.int .u8 51), .lit (.int .u8 22), .lit (.int .u8 53), .lit (.int .u8 39), .lit (.int .u8 33), .lit (.int .u8 30), .lit (.int .u8 24), .lit (.int .u8 18), .lit (.int .u8 12), .lit (.int .u8 5), .lit (.int .u8 63), .lit (.int .u8 55), .lit (.int .u8 48), .lit (.int .u8 27), .lit (.int .u8 60), .lit (.int .u8 41), .lit (.int .u8 37), .lit (.int .u8 16), .lit (.int .u8 46), .lit (.int .u8 35), .lit (.int .u8 44), .lit (.int .u8 21), .lit (.int .u8 52), .lit (.int .u8 32), .lit (.int .u8 23), .lit (.int .u8 11), .lit (.int .u8 54), .lit (.int .u8 26), .lit (.int .u8 40), .lit (.int .u8 15), .lit (.int .u8 34), .lit (.int .u8 20), .lit (.int .u8 31), .lit (.int .u8 10), .lit (.int .u8 25), .lit (.int .u8 14), .lit (.int .u8 19), .lit (.int .u8 9), .lit (.int .u8 13), .lit (.int .u8 8), .lit (.int .u8 7), .lit (.int .u8 6)]

/-- 'cleanroomlaw23.InspectMatchesReference': WHATEVER THE INPUT: true; the input reads as it did. -/
def inspectMatchesReferenceSpec : ChangeSpec := { name := "inspectMatchesReference", fn := fun _ => fun
  | [d1, d2, d3, d4, d5] => { results := [.lit (.bool true)], args := [d1, d2, d3, d4, d5] }
  | _ => none }
def inspectMatchesReferenceRow : OpenClaim := { program := "ytkdjebioapholaadoor", sum := "7a009b359a467be622421e27b238ea792022f113db95680ad0ad2946891f6106", func := "cleanroom/cleanroomlaw23.InspectMatchesReference", spec := "inspectMatchesReference", unfollowed := true, recurses := true, named := ["math/bits.deBruijn32tab", "math/bits.deBruijn64tab"], apart := false, laid := [("math/bits.deBruijn32tab", laid_math_bits_deBruijn32tab), ("math/bits.deBruijn64tab", laid_math_bits_deBruijn64tab)] }
def InspectMatchesReferenceSaid : Prop := inspectMatchesReferenceRow.holds Tryd.pinned (OpenSpec.ofChange inspectMatchesReferenceSpec)

/-- ITS FALSE NEIGHBOUR: 'it returns false'. Refute it at one input. -/
def inspectMatchesReferenceWrong : ChangeSpec := { name := "inspectMatchesReference", fn := fun _ => fun
  | [d1, d2, d3, d4, d5] => { results := [.lit (.bool false)], args := [d1, d2, d3, d4, d5] }
  | _ => none }
def InspectMatchesReferenceWrongFalsely : Prop := inspectMatchesReferenceRow.holds Tryd.pinned (OpenSpec.ofChange inspectMatchesReferenceWrong)

/-- 'cleanroomlaw23.InspectFewest': WHATEVER THE INPUT: true; the input reads as it did. -/
def inspectFewestSpec : ChangeSpec := { name := "inspectFewest", fn := fun _ => fun
  | [d1, d2, d3] => { results := [.lit (.bool true)], args := [d1, d2, d3] }
  | _ => none }
def inspectFewestRow : OpenClaim := { program := "ytkdjebioapholaadoor", sum := "7a009b359a467be622421e27b238ea792022f113db95680ad0ad2946891f6106", func := "cleanroom/cleanroomlaw23.InspectFewest", spec := "inspectFewest", unfollowed := true, recurses := true, named := ["math/bits.deBruijn32tab", "math/bits.deBruijn64tab"], apart := false, laid := [("math/bits.deBruijn32tab", laid_math_bits_deBruijn32tab), ("math/bits.deBruijn64tab", laid_math_bits_deBruijn64tab)] }
def InspectFewestSaid : Prop := inspectFewestRow.holds Tryd.pinned (OpenSpec.ofChange inspectFewestSpec)

/-- ITS FALSE NEIGHBOUR: 'it returns false'. Refute it at one input. -/
def inspectFewestWrong : ChangeSpec := { name := "inspectFewest", fn := fun _ => fun
  | [d1, d2, d3] => { results := [.lit (.bool false)], args := [d1, d2, d3] }
  | _ => none }
def InspectFewestWrongFalsely : Prop := inspectFewestRow.holds Tryd.pinned (OpenSpec.ofChange inspectFewestWrong)

/-- 'cleanroomlaw23.InspectNeeded': WHATEVER THE INPUT: true; the input reads as it did. -/
def inspectNeededSpec : ChangeSpec := { name := "inspectNeeded", fn := fun _ => fun
  | [d1, d2, d3] => { results := [.lit (.bool true)], args := [d1, d2, d3] }
  | _ => none }
def inspectNeededRow : OpenClaim := { program := "ytkdjebioapholaadoor", sum := "7a009b359a467be622421e27b238ea792022f113db95680ad0ad2946891f6106", func := "cleanroom/cleanroomlaw23.InspectNeeded", spec := "inspectNeeded", unfollowed := true, recurses := true, named := ["math/bits.deBruijn32tab", "math/bits.deBruijn64tab"], apart := false, laid := [("math/bits.deBruijn32tab", laid_math_bits_deBruijn32tab), ("math/bits.deBruijn64tab", laid_math_bits_deBruijn64tab)] }
def InspectNeededSaid : Prop := inspectNeededRow.holds Tryd.pinned (OpenSpec.ofChange inspectNeededSpec)

/-- ITS FALSE NEIGHBOUR: 'it returns false'. Refute it at one input. -/
def inspectNeededWrong : ChangeSpec := { name := "inspectNeeded", fn := fun _ => fun
  | [d1, d2, d3] => { results := [.lit (.bool false)], args := [d1, d2, d3] }
  | _ => none }
def InspectNeededWrongFalsely : Prop := inspectNeededRow.holds Tryd.pinned (OpenSpec.ofChange inspectNeededWrong)

/-- 'cleanroomlaw23.InspectBound': WHATEVER THE INPUT: true; the input reads as it did. -/
def inspectBoundSpec : ChangeSpec := { name := "inspectBound", fn := fun _ => fun
  | [d1, d2, d3] => { results := [.lit (.bool true)], args := [d1, d2, d3] }
  | _ => none }
def inspectBoundRow : OpenClaim := { program := "ytkdjebioapholaadoor", sum := "7a009b359a467be622421e27b238ea792022f113db95680ad0ad2946891f6106", func := "cleanroom/cleanroomlaw23.InspectBound", spec := "inspectBound", unfollowed := true, recurses := true, named := ["math/bits.deBruijn32tab", "math/bits.deBruijn64tab"], apart := false, laid := [("math/bits.deBruijn32tab", laid_math_bits_deBruijn32tab), ("math/bits.deBruijn64tab", laid_math_bits_deBruijn64tab)] }
def InspectBoundSaid : Prop := inspectBoundRow.holds Tryd.pinned (OpenSpec.ofChange inspectBoundSpec)

/-- ITS FALSE NEIGHBOUR: 'it returns false'. Refute it at one input. -/
def inspectBoundWrong : ChangeSpec := { name := "inspectBound", fn := fun _ => fun
  | [d1, d2, d3] => { results := [.lit (.bool false)], args := [d1, d2, d3] }
  | _ => none }
def InspectBoundWrongFalsely : Prop := inspectBoundRow.holds Tryd.pinned (OpenSpec.ofChange inspectBoundWrong)

/-- 'cleanroomlaw23.InspectMore': WHATEVER THE INPUT: true; the input reads as it did. -/
def inspectMoreSpec : ChangeSpec := { name := "inspectMore", fn := fun _ => fun
  | [d1, d2, d3, d4] => { results := [.lit (.bool true)], args := [d1, d2, d3, d4] }
  | _ => none }
def inspectMoreRow : OpenClaim := { program := "ytkdjebioapholaadoor", sum := "7a009b359a467be622421e27b238ea792022f113db95680ad0ad2946891f6106", func := "cleanroom/cleanroomlaw23.InspectMore", spec := "inspectMore", unfollowed := true, recurses := true, named := ["math/bits.deBruijn32tab", "math/bits.deBruijn64tab"], apart := false, laid := [("math/bits.deBruijn32tab", laid_math_bits_deBruijn32tab), ("math/bits.deBruijn64tab", laid_math_bits_deBruijn64tab)] }
def InspectMoreSaid : Prop := inspectMoreRow.holds Tryd.pinned (OpenSpec.ofChange inspectMoreSpec)

/-- ITS FALSE NEIGHBOUR: 'it returns false'. Refute it at one input. -/
def inspectMoreWrong : ChangeSpec := { name := "inspectMore", fn := fun _ => fun
  | [d1, d2, d3, d4] => { results := [.lit (.bool false)], args := [d1, d2, d3, d4] }
  | _ => none }
def InspectMoreWrongFalsely : Prop := inspectMoreRow.holds Tryd.pinned (OpenSpec.ofChange inspectMoreWrong)

/-- 'cleanroomlaw23.InspectRestricted': WHATEVER THE INPUT: true; the input reads as it did. -/
def inspectRestrictedSpec : ChangeSpec := { name := "inspectRestricted", fn := fun _ => fun
  | [d1, d2] => { results := [.lit (.bool true)], args := [d1, d2] }
  | _ => none }
def inspectRestrictedRow : OpenClaim := { program := "ytkdjebioapholaadoor", sum := "7a009b359a467be622421e27b238ea792022f113db95680ad0ad2946891f6106", func := "cleanroom/cleanroomlaw23.InspectRestricted", spec := "inspectRestricted", unfollowed := true, recurses := true, named := ["math/bits.deBruijn32tab", "math/bits.deBruijn64tab"], apart := false, laid := [("math/bits.deBruijn32tab", laid_math_bits_deBruijn32tab), ("math/bits.deBruijn64tab", laid_math_bits_deBruijn64tab)] }
def InspectRestrictedSaid : Prop := inspectRestrictedRow.holds Tryd.pinned (OpenSpec.ofChange inspectRestrictedSpec)

/-- ITS FALSE NEIGHBOUR: 'it returns false'. Refute it at one input. -/
def inspectRestrictedWrong : ChangeSpec := { name := "inspectRestricted", fn := fun _ => fun
  | [d1, d2] => { results := [.lit (.bool false)], args := [d1, d2] }
  | _ => none }
def InspectRestrictedWrongFalsely : Prop := inspectRestrictedRow.holds Tryd.pinned (OpenSpec.ofChange inspectRestrictedWrong)

/-- 'cleanroomlaw23.InspectChoices': WHATEVER THE INPUT: true; the input reads as it did. -/
def inspectChoicesSpec : ChangeSpec := { name := "inspectChoices", fn := fun _ => fun
  | [d1, d2, d3, d4] => { results := [.lit (.bool true)], args := [d1, d2, d3, d4] }
  | _ => none }
def inspectChoicesRow : OpenClaim := { program := "ytkdjebioapholaadoor", sum := "7a009b359a467be622421e27b238ea792022f113db95680ad0ad2946891f6106", func := "cleanroom/cleanroomlaw23.InspectChoices", spec := "inspectChoices", unfollowed := true, recurses := true, named := ["math/bits.deBruijn32tab", "math/bits.deBruijn64tab"], apart := false, laid := [("math/bits.deBruijn32tab", laid_math_bits_deBruijn32tab), ("math/bits.deBruijn64tab", laid_math_bits_deBruijn64tab)] }
def InspectChoicesSaid : Prop := inspectChoicesRow.holds Tryd.pinned (OpenSpec.ofChange inspectChoicesSpec)

/-- ITS FALSE NEIGHBOUR: 'it returns false'. Refute it at one input. -/
def inspectChoicesWrong : ChangeSpec := { name := "inspectChoices", fn := fun _ => fun
  | [d1, d2, d3, d4] => { results := [.lit (.bool false)], args := [d1, d2, d3, d4] }
  | _ => none }
def InspectChoicesWrongFalsely : Prop := inspectChoicesRow.holds Tryd.pinned (OpenSpec.ofChange inspectChoicesWrong)

/-- 'cleanroomlaw23.InspectRefuses': WHATEVER THE INPUT: true; the input reads as it did. -/
def inspectRefusesSpec : ChangeSpec := { name := "inspectRefuses", fn := fun _ => fun
  | [d1, d2, d3] => { results := [.lit (.bool true)], args := [d1, d2, d3] }
  | _ => none }
def inspectRefusesRow : OpenClaim := { program := "ytkdjebioapholaadoor", sum := "7a009b359a467be622421e27b238ea792022f113db95680ad0ad2946891f6106", func := "cleanroom/cleanroomlaw23.InspectRefuses", spec := "inspectRefuses", unfollowed := true, recurses := true, named := ["math/bits.deBruijn32tab", "math/bits.deBruijn64tab"], apart := false, laid := [("math/bits.deBruijn32tab", laid_math_bits_deBruijn32tab), ("math/bits.deBruijn64tab", laid_math_bits_deBruijn64tab)] }
def InspectRefusesSaid : Prop := inspectRefusesRow.holds Tryd.pinned (OpenSpec.ofChange inspectRefusesSpec)

/-- ITS FALSE NEIGHBOUR: 'it returns false'. Refute it at one input. -/
def inspectRefusesWrong : ChangeSpec := { name := "inspectRefuses", fn := fun _ => fun
  | [d1, d2, d3] => { results := [.lit (.bool false)], args := [d1, d2, d3] }
  | _ => none }
def InspectRefusesWrongFalsely : Prop := inspectRefusesRow.holds Tryd.pinned (OpenSpec.ofChange inspectRefusesWrong)

/- THE SECOND FORM. 'bulk': how many values and letters a reading holds, each counted each time it is reached (what is shared counts as often as it is met; a slice's spare places count too). A statement '..UptoSaid' is the law's where the arguments, and the package variables that the reading takes, are together of bulk at most 1048576: NARROWER than '..Said'. Prove '..Said' where nothing that the law and all that it calls make is longer than what came in: it says more and counts as full. Else prove '..UptoSaid'. A law counts once. -/
mutual
def uptoBulk {H : Type} : DataW H → Nat
  | .lit (.string bytes) => bytes.length + 1
  | .lit _ => 1
  | .nil => 1
  | .ptr d => uptoBulk d + 1
  | .slice elems spare => uptoBulkAll elems + uptoBulkAll spare + 1
  | .agg parts => uptoBulkAll parts + 1
  | .iface _ d => uptoBulk d + 1
  | .map entries => uptoBulkEntries entries + 1
  | .held _ => 1
def uptoBulkAll {H : Type} : List (DataW H) → Nat
  | [] => 0
  | d :: r => uptoBulk d + uptoBulkAll r
def uptoBulkEntries {H : Type} : List (Lit × DataW H) → Nat
  | [] => 0
  | x :: r => uptoBulkEntry x + uptoBulkEntries r
def uptoBulkEntry {H : Type} : Lit × DataW H → Nat
  | (.string bytes, d) => bytes.length + uptoBulk d + 1
  | (_, d) => uptoBulk d + 1
 end
def uptoSmall : (H : Type) → List (DataW H) → Bool := fun _ ds => decide (uptoBulkAll ds ≤ 1048576)
def OpenSpec.upto (s : _root_.Go.ChangeSpec) : _root_.Go.OpenSpec := { _root_.Go.OpenSpec.ofChange s with cond := some uptoSmall }

/-- 'cleanroomlaw23.InspectMatchesReference', WHERE WHAT IT READS IS OF BULK AT MOST 1048576: true; the input reads as it did. -/
def inspectMatchesReferenceUptoRow : OpenClaim := { program := "ytkdjebioapholaadoor", sum := "7a009b359a467be622421e27b238ea792022f113db95680ad0ad2946891f6106", func := "cleanroom/cleanroomlaw23.InspectMatchesReference", spec := "inspectMatchesReference", unfollowed := true, recurses := true, named := ["math/bits.deBruijn32tab", "math/bits.deBruijn64tab"], apart := false, laid := [("math/bits.deBruijn32tab", laid_math_bits_deBruijn32tab), ("math/bits.deBruijn64tab", laid_math_bits_deBruijn64tab)], narrowed := true }
def InspectMatchesReferenceUptoSaid : Prop := inspectMatchesReferenceUptoRow.holds Tryd.pinned (OpenSpec.upto inspectMatchesReferenceSpec)

/-- 'cleanroomlaw23.InspectFewest', WHERE WHAT IT READS IS OF BULK AT MOST 1048576: true; the input reads as it did. -/
def inspectFewestUptoRow : OpenClaim := { program := "ytkdjebioapholaadoor", sum := "7a009b359a467be622421e27b238ea792022f113db95680ad0ad2946891f6106", func := "cleanroom/cleanroomlaw23.InspectFewest", spec := "inspectFewest", unfollowed := true, recurses := true, named := ["math/bits.deBruijn32tab", "math/bits.deBruijn64tab"], apart := false, laid := [("math/bits.deBruijn32tab", laid_math_bits_deBruijn32tab), ("math/bits.deBruijn64tab", laid_math_bits_deBruijn64tab)], narrowed := true }
def InspectFewestUptoSaid : Prop := inspectFewestUptoRow.holds Tryd.pinned (OpenSpec.upto inspectFewestSpec)

/-- 'cleanroomlaw23.InspectNeeded', WHERE WHAT IT READS IS OF BULK AT MOST 1048576: true; the input reads as it did. -/
def inspectNeededUptoRow : OpenClaim := { program := "ytkdjebioapholaadoor", sum := "7a009b359a467be622421e27b238ea792022f113db95680ad0ad2946891f6106", func := "cleanroom/cleanroomlaw23.InspectNeeded", spec := "inspectNeeded", unfollowed := true, recurses := true, named := ["math/bits.deBruijn32tab", "math/bits.deBruijn64tab"], apart := false, laid := [("math/bits.deBruijn32tab", laid_math_bits_deBruijn32tab), ("math/bits.deBruijn64tab", laid_math_bits_deBruijn64tab)], narrowed := true }
def InspectNeededUptoSaid : Prop := inspectNeededUptoRow.holds Tryd.pinned (OpenSpec.upto inspectNeededSpec)

/-- 'cleanroomlaw23.InspectBound', WHERE WHAT IT READS IS OF BULK AT MOST 1048576: true; the input reads as it did. -/
def inspectBoundUptoRow : OpenClaim := { program := "ytkdjebioapholaadoor", sum := "7a009b359a467be622421e27b238ea792022f113db95680ad0ad2946891f6106", func := "cleanroom/cleanroomlaw23.InspectBound", spec := "inspectBound", unfollowed := true, recurses := true, named := ["math/bits.deBruijn32tab", "math/bits.deBruijn64tab"], apart := false, laid := [("math/bits.deBruijn32tab", laid_math_bits_deBruijn32tab), ("math/bits.deBruijn64tab", laid_math_bits_deBruijn64tab)], narrowed := true }
def InspectBoundUptoSaid : Prop := inspectBoundUptoRow.holds Tryd.pinned (OpenSpec.upto inspectBoundSpec)

/-- 'cleanroomlaw23.InspectMore', WHERE WHAT IT READS IS OF BULK AT MOST 1048576: true; the input reads as it did. -/
def inspectMoreUptoRow : OpenClaim := { program := "ytkdjebioapholaadoor", sum := "7a009b359a467be622421e27b238ea792022f113db95680ad0ad2946891f6106", func := "cleanroom/cleanroomlaw23.InspectMore", spec := "inspectMore", unfollowed := true, recurses := true, named := ["math/bits.deBruijn32tab", "math/bits.deBruijn64tab"], apart := false, laid := [("math/bits.deBruijn32tab", laid_math_bits_deBruijn32tab), ("math/bits.deBruijn64tab", laid_math_bits_deBruijn64tab)], narrowed := true }
def InspectMoreUptoSaid : Prop := inspectMoreUptoRow.holds Tryd.pinned (OpenSpec.upto inspectMoreSpec)

/-- 'cleanroomlaw23.InspectRestricted', WHERE WHAT IT READS IS OF BULK AT MOST 1048576: true; the input reads as it did. -/
def inspectRestrictedUptoRow : OpenClaim := { program := "ytkdjebioapholaadoor", sum := "7a009b359a467be622421e27b238ea792022f113db95680ad0ad2946891f6106", func := "cleanroom/cleanroomlaw23.InspectRestricted", spec := "inspectRestricted", unfollowed := true, recurses := true, named := ["math/bits.deBruijn32tab", "math/bits.deBruijn64tab"], apart := false, laid := [("math/bits.deBruijn32tab", laid_math_bits_deBruijn32tab), ("math/bits.deBruijn64tab", laid_math_bits_deBruijn64tab)], narrowed := true }
def InspectRestrictedUptoSaid : Prop := inspectRestrictedUptoRow.holds Tryd.pinned (OpenSpec.upto inspectRestrictedSpec)

/-- 'cleanroomlaw23.InspectChoices', WHERE WHAT IT READS IS OF BULK AT MOST 1048576: true; the input reads as it did. -/
def inspectChoicesUptoRow : OpenClaim := { program := "ytkdjebioapholaadoor", sum := "7a009b359a467be622421e27b238ea792022f113db95680ad0ad2946891f6106", func := "cleanroom/cleanroomlaw23.InspectChoices", spec := "inspectChoices", unfollowed := true, recurses := true, named := ["math/bits.deBruijn32tab", "math/bits.deBruijn64tab"], apart := false, laid := [("math/bits.deBruijn32tab", laid_math_bits_deBruijn32tab), ("math/bits.deBruijn64tab", laid_math_bits_deBruijn64tab)], narrowed := true }
def InspectChoicesUptoSaid : Prop := inspectChoicesUptoRow.holds Tryd.pinned (OpenSpec.upto inspectChoicesSpec)

/-- 'cleanroomlaw23.InspectRefuses', WHERE WHAT IT READS IS OF BULK AT MOST 1048576: true; the input reads as it did. -/
def inspectRefusesUptoRow : OpenClaim := { program := "ytkdjebioapholaadoor", sum := "7a009b359a467be622421e27b238ea792022f113db95680ad0ad2946891f6106", func := "cleanroom/cleanroomlaw23.InspectRefuses", spec := "inspectRefuses", unfollowed := true, recurses := true, named := ["math/bits.deBruijn32tab", "math/bits.deBruijn64tab"], apart := false, laid := [("math/bits.deBruijn32tab", laid_math_bits_deBruijn32tab), ("math/bits.deBruijn64tab", laid_math_bits_deBruijn64tab)], narrowed := true }
def InspectRefusesUptoSaid : Prop := inspectRefusesUptoRow.holds Tryd.pinned (OpenSpec.upto inspectRefusesSpec)

end Rows
end Go.Proofs.YtkdjebioapholaaDoor
