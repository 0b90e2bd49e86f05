/-
  NARROWER THAN 'FOR EVERY INPUT', by the rows' own cells (each row's printed sentence says how): RatioTextMatchesReference: laid · RatioFloor: laid · RatioRound: laid · RatioText: laid · RatioOrder: laid · RatioCommutes: laid · RatioDistributes: laid · RatioMatchesReference: laid · RatioInverse: laid.
  DERIVED. THE GIVEN ROWS OF THIS SEAT. 9 by the template 'for every input the law returns true; each argument reads behind the call as it read before'; 0 by the template 'total and deterministic' (their statements: YtfplfkcgjdkdaaaDoorTotals.lean).
  GIVEN WITH THE SEED: the statements are not yours to turn. If you find one false, say at which input.
  Laid BY PROGRAM, IN A SANDBOX (cutbox-rows.mjs): the forced cells as the released guide's own fill.sh prints them over the translation 0d094788e3da5de6… (all of the seat's roots in one cut). By AI agents, Wed Nov 11 2026. No macro, syntax, notation, axiom, sorry.
-/
import Derived.Test.YtfplfkcgjdkdaaaDoorChecked
import GoSem.Claim
import GoSem.ClaimJoined
import GoSem.ClaimMapViews
import Derived.JoinedTies
import Derived.KernelRfl
namespace Go.Proofs.YtfplfkcgjdkdaaaDoor
/- THE CELL 'sum', in the pinned program and in every row, IS THE sha256 OF THE DUMP (.gsa) THAT YtfplfkcgjdkdaaaDoorProg.lean LOADS. Nothing in Lean hashes anything: it is a label: what it is worth is what the hold of that sum in a sandbox is worth. -/
noncomputable def Tryd.pinned : Pinned := { name := "ytfplfkcgjdkdaaadoor", sum := "0d094788e3da5de62795200be0feb58032c07830ae65d3114392af98c1fcb7a9", checked := Tryd.checked }
namespace Rows
def none {H : Type} : Left H := { results := [], args := [] }

/- WHAT THE LISTED PACKAGE-LEVEL VARIABLES READ AS WHEN THE CALL BEGINS. Each datum BY PROGRAM (the guide's laid-datum.mjs) off the statement by which the dump's own 'gosem.cut.vars' lays the variable. In a bare row this is a premise. The card (YtfplfkcgjdkdaaaDoorCards.lean) ties it to the program's text. -/
def laid_math_bits_deBruijn32tab {H : Type} : DataW H := .agg [.lit (.int .u8 0), .lit (.int .u8 1), .lit (.int .u8 28), .lit (.int .u8 2), .lit (.int .u8 29), .lit (.int .u8 14), .lit (.int .u8 24), .lit (.int .u8 3), .lit (.int .u8 30), .lit (.int .u8 22), .lit (.int .u8 20), .lit (.int .u8 15), .lit (.int .u8 25), .lit (.int .u8 17), .lit (.int .u8 4), .lit (.int .u8 8), .lit (.int .u8 31), .lit (.int .u8 27), .lit (.int .u8 13), .lit (.int .u8 23), .lit (.int .u8 21), .lit (.int .u8 19), .lit (.int .u8 16), .lit (.int .u8 7), .lit (.int .u8 26), .lit (.int .u8 12), .lit (.int .u8 18), .lit (.int .u8 6), .lit (.int .u8 11), .lit (.int .u8 5), .lit (.int .u8 10), .lit (.int .u8 9)]
def laid_math_bits_deBruijn64tab {H : Type} : DataW H := .agg [.lit (.int .u8 0), .lit (.int .u8 1), .lit (.int .u8 56), .lit (.int .u8 2), .lit (.int .u8 57), .lit (.int .u8 49), .lit (.int .u8 28), .lit (.int .u8 3), .lit (.int .u8 61), .lit (.int .u8 58), .lit (.int .u8 42), .lit (.int .u8 50), .lit (.int .u8 38), .lit (.int .u8 29), .lit (.int .u8 17), .lit (.int .u8 4), .lit (.int .u8 62), .lit (.int .u8 47), .lit (.int .u8 59), .lit (.int .u8 36), .lit (.int .u8 45), .lit (.int .u8 43), .lit (.int .u8 51), .lit (.int .u8 22), .lit (.int .u8 53), .lit (.int .u8 39), .lit (.int .u8 33), .lit (.int .u8 30), .lit (.int .u8 24), .lit (.int .u8 18), .lit (.int .u8 12), .lit (.int .u8 5), .lit (.int .u8 63), .lit (.int .u8 55), .lit (.int .u8 48), .lit (.int .u8 27), .lit (.int .u8 60), .lit (.int .u8 41), .lit (.int .u8 37), .lit (.int .u8 16), .lit (.int .u8 46), .lit (.int .u8 35), .lit (.int .u8 44), .lit (.int .u8 21), .lit (.int .u8 52), .lit (.int .u8 32), .lit (.int .u8 23), .lit (.int .u8 11), .lit (.int .u8 54), .lit (.int .u8 26), .lit (.int .u8 40), .lit (.int .u8 15), .lit (.int .u8 34), .lit (.int .u8 20), .lit (.int .u8 31), .lit (.int .u8 10), .lit (.int .u8 25), .lit (.int .u8 14), .lit (.int .u8 19), .lit (.int .u8 9), .lit (.int .u8 13), .lit (.int .u8 8), .lit (.int .u8 7), .lit (.int .u8 6)]
def laid_internal_strconv_uint64pow10 {H : Type} : DataW H := .agg [.lit (.int .u64 1), .lit (.int .u64 10), .lit (.int .u64 100), .lit (.int .u64 1000), .lit (.int .u64 10000), .lit (.int .u64 100000), .lit (.int .u64 1000000), .lit (.int .u64 10000000), .lit (.int .u64 100000000), .lit (.int .u64 1000000000), .lit (.int .u64 10000000000), .lit (.int .u64 100000000000), .lit (.int .u64 1000000000000), .lit (.int .u64 10000000000000), .lit (.int .u64 100000000000000), .lit (.int .u64 1000000000000000), .lit (.int .u64 10000000000000000), .lit (.int .u64 100000000000000000), .lit (.int .u64 1000000000000000000), .lit (.int .u64 10000000000000000000)]
def laid_strconv_ErrRange {H : Type} : DataW H := .iface "*errors.errorString" (.ptr (.agg [.lit (.string [118, 97, 108, 117, 101, 32, 111, 117, 116, 32, 111, 102, 32, 114, 97, 110, 103, 101])]))
def laid_strconv_ErrSyntax {H : Type} : DataW H := .iface "*errors.errorString" (.ptr (.agg [.lit (.string [105, 110, 118, 97, 108, 105, 100, 32, 115, 121, 110, 116, 97, 120])]))
def laid_cleanroom_ratio_errMisfit {H : Type} : DataW H := .iface "*errors.errorString" (.ptr (.agg [.lit (.string [109, 105, 115, 102, 105, 116])]))

/-- 'cleanroomlaw03.RatioTextMatchesReference': WHATEVER THE INPUT: true; the input reads as it did. -/
def ratioTextMatchesReferenceSpec : ChangeSpec := { name := "ratioTextMatchesReference", fn := fun _ => fun
  | [d1, d2, d3] => { results := [.lit (.bool true)], args := [d1, d2, d3] }
  | _ => none }
def ratioTextMatchesReferenceRow : OpenClaim := { program := "ytfplfkcgjdkdaaadoor", sum := "0d094788e3da5de62795200be0feb58032c07830ae65d3114392af98c1fcb7a9", func := "cleanroom/cleanroomlaw03.RatioTextMatchesReference", spec := "ratioTextMatchesReference", inPlace := ["internal/reflectlite.TypeOf", "internal/bytealg.IndexByteString", "internal/bytealg.IndexString"], unfollowed := true, recurses := true, named := ["cleanroom/ratio.errMisfit", "internal/strconv.uint64pow10", "math/bits.deBruijn32tab", "math/bits.deBruijn64tab", "internal/bytealg.MaxLen", "strconv.ErrSyntax", "strconv.ErrRange"], apart := false, laid := [("math/bits.deBruijn32tab", laid_math_bits_deBruijn32tab), ("math/bits.deBruijn64tab", laid_math_bits_deBruijn64tab), ("internal/strconv.uint64pow10", laid_internal_strconv_uint64pow10), ("strconv.ErrRange", laid_strconv_ErrRange), ("strconv.ErrSyntax", laid_strconv_ErrSyntax), ("cleanroom/ratio.errMisfit", laid_cleanroom_ratio_errMisfit)] }
def RatioTextMatchesReferenceSaid : Prop := ratioTextMatchesReferenceRow.holds Tryd.pinned (OpenSpec.ofChange ratioTextMatchesReferenceSpec)

/-- ITS FALSE NEIGHBOUR: 'it returns false'. Refute it at one input. -/
def ratioTextMatchesReferenceWrong : ChangeSpec := { name := "ratioTextMatchesReference", fn := fun _ => fun
  | [d1, d2, d3] => { results := [.lit (.bool false)], args := [d1, d2, d3] }
  | _ => none }
def RatioTextMatchesReferenceWrongFalsely : Prop := ratioTextMatchesReferenceRow.holds Tryd.pinned (OpenSpec.ofChange ratioTextMatchesReferenceWrong)

/-- 'cleanroomlaw03.RatioFloor': WHATEVER THE INPUT: true; the input reads as it did. -/
def ratioFloorSpec : ChangeSpec := { name := "ratioFloor", fn := fun _ => fun
  | [d1, d2] => { results := [.lit (.bool true)], args := [d1, d2] }
  | _ => none }
def ratioFloorRow : OpenClaim := { program := "ytfplfkcgjdkdaaadoor", sum := "0d094788e3da5de62795200be0feb58032c07830ae65d3114392af98c1fcb7a9", func := "cleanroom/cleanroomlaw03.RatioFloor", spec := "ratioFloor", inPlace := ["internal/reflectlite.TypeOf", "internal/bytealg.IndexByteString", "internal/bytealg.IndexString"], unfollowed := true, recurses := true, named := ["cleanroom/ratio.errMisfit", "internal/strconv.uint64pow10", "math/bits.deBruijn32tab", "math/bits.deBruijn64tab", "internal/bytealg.MaxLen", "strconv.ErrSyntax", "strconv.ErrRange"], apart := false, laid := [("math/bits.deBruijn32tab", laid_math_bits_deBruijn32tab), ("math/bits.deBruijn64tab", laid_math_bits_deBruijn64tab), ("internal/strconv.uint64pow10", laid_internal_strconv_uint64pow10), ("strconv.ErrRange", laid_strconv_ErrRange), ("strconv.ErrSyntax", laid_strconv_ErrSyntax), ("cleanroom/ratio.errMisfit", laid_cleanroom_ratio_errMisfit)] }
def RatioFloorSaid : Prop := ratioFloorRow.holds Tryd.pinned (OpenSpec.ofChange ratioFloorSpec)

/-- ITS FALSE NEIGHBOUR: 'it returns false'. Refute it at one input. -/
def ratioFloorWrong : ChangeSpec := { name := "ratioFloor", fn := fun _ => fun
  | [d1, d2] => { results := [.lit (.bool false)], args := [d1, d2] }
  | _ => none }
def RatioFloorWrongFalsely : Prop := ratioFloorRow.holds Tryd.pinned (OpenSpec.ofChange ratioFloorWrong)

/-- 'cleanroomlaw03.RatioRound': WHATEVER THE INPUT: true; the input reads as it did. -/
def ratioRoundSpec : ChangeSpec := { name := "ratioRound", fn := fun _ => fun
  | [d1, d2, d3, d4] => { results := [.lit (.bool true)], args := [d1, d2, d3, d4] }
  | _ => none }
def ratioRoundRow : OpenClaim := { program := "ytfplfkcgjdkdaaadoor", sum := "0d094788e3da5de62795200be0feb58032c07830ae65d3114392af98c1fcb7a9", func := "cleanroom/cleanroomlaw03.RatioRound", spec := "ratioRound", inPlace := ["internal/reflectlite.TypeOf", "internal/bytealg.IndexByteString", "internal/bytealg.IndexString"], unfollowed := true, recurses := true, named := ["cleanroom/ratio.errMisfit", "internal/strconv.uint64pow10", "math/bits.deBruijn32tab", "math/bits.deBruijn64tab", "internal/bytealg.MaxLen", "strconv.ErrSyntax", "strconv.ErrRange"], apart := false, laid := [("math/bits.deBruijn32tab", laid_math_bits_deBruijn32tab), ("math/bits.deBruijn64tab", laid_math_bits_deBruijn64tab), ("internal/strconv.uint64pow10", laid_internal_strconv_uint64pow10), ("strconv.ErrRange", laid_strconv_ErrRange), ("strconv.ErrSyntax", laid_strconv_ErrSyntax), ("cleanroom/ratio.errMisfit", laid_cleanroom_ratio_errMisfit)] }
def RatioRoundSaid : Prop := ratioRoundRow.holds Tryd.pinned (OpenSpec.ofChange ratioRoundSpec)

/-- ITS FALSE NEIGHBOUR: 'it returns false'. Refute it at one input. -/
def ratioRoundWrong : ChangeSpec := { name := "ratioRound", fn := fun _ => fun
  | [d1, d2, d3, d4] => { results := [.lit (.bool false)], args := [d1, d2, d3, d4] }
  | _ => none }
def RatioRoundWrongFalsely : Prop := ratioRoundRow.holds Tryd.pinned (OpenSpec.ofChange ratioRoundWrong)

/-- 'cleanroomlaw03.RatioText': WHATEVER THE INPUT: true; the input reads as it did. -/
def ratioTextSpec : ChangeSpec := { name := "ratioText", fn := fun _ => fun
  | [d1, d2] => { results := [.lit (.bool true)], args := [d1, d2] }
  | _ => none }
def ratioTextRow : OpenClaim := { program := "ytfplfkcgjdkdaaadoor", sum := "0d094788e3da5de62795200be0feb58032c07830ae65d3114392af98c1fcb7a9", func := "cleanroom/cleanroomlaw03.RatioText", spec := "ratioText", inPlace := ["internal/reflectlite.TypeOf", "internal/bytealg.IndexByteString", "internal/bytealg.IndexString"], unfollowed := true, recurses := true, named := ["cleanroom/ratio.errMisfit", "internal/strconv.uint64pow10", "math/bits.deBruijn32tab", "math/bits.deBruijn64tab", "internal/bytealg.MaxLen", "strconv.ErrSyntax", "strconv.ErrRange"], apart := false, laid := [("math/bits.deBruijn32tab", laid_math_bits_deBruijn32tab), ("math/bits.deBruijn64tab", laid_math_bits_deBruijn64tab), ("internal/strconv.uint64pow10", laid_internal_strconv_uint64pow10), ("strconv.ErrRange", laid_strconv_ErrRange), ("strconv.ErrSyntax", laid_strconv_ErrSyntax), ("cleanroom/ratio.errMisfit", laid_cleanroom_ratio_errMisfit)] }
def RatioTextSaid : Prop := ratioTextRow.holds Tryd.pinned (OpenSpec.ofChange ratioTextSpec)

/-- ITS FALSE NEIGHBOUR: 'it returns false'. Refute it at one input. -/
def ratioTextWrong : ChangeSpec := { name := "ratioText", fn := fun _ => fun
  | [d1, d2] => { results := [.lit (.bool false)], args := [d1, d2] }
  | _ => none }
def RatioTextWrongFalsely : Prop := ratioTextRow.holds Tryd.pinned (OpenSpec.ofChange ratioTextWrong)

/-- 'cleanroomlaw03.RatioOrder': WHATEVER THE INPUT: true; the input reads as it did. -/
def ratioOrderSpec : ChangeSpec := { name := "ratioOrder", fn := fun _ => fun
  | [d] => { results := [.lit (.bool true)], args := [d] }
  | _ => none }
def ratioOrderRow : OpenClaim := { program := "ytfplfkcgjdkdaaadoor", sum := "0d094788e3da5de62795200be0feb58032c07830ae65d3114392af98c1fcb7a9", func := "cleanroom/cleanroomlaw03.RatioOrder", spec := "ratioOrder", inPlace := ["internal/reflectlite.TypeOf", "internal/bytealg.IndexByteString", "internal/bytealg.IndexString"], unfollowed := true, recurses := true, named := ["cleanroom/ratio.errMisfit", "internal/strconv.uint64pow10", "math/bits.deBruijn32tab", "math/bits.deBruijn64tab", "internal/bytealg.MaxLen", "strconv.ErrSyntax", "strconv.ErrRange"], apart := false, laid := [("math/bits.deBruijn32tab", laid_math_bits_deBruijn32tab), ("math/bits.deBruijn64tab", laid_math_bits_deBruijn64tab), ("internal/strconv.uint64pow10", laid_internal_strconv_uint64pow10), ("strconv.ErrRange", laid_strconv_ErrRange), ("strconv.ErrSyntax", laid_strconv_ErrSyntax), ("cleanroom/ratio.errMisfit", laid_cleanroom_ratio_errMisfit)] }
def RatioOrderSaid : Prop := ratioOrderRow.holds Tryd.pinned (OpenSpec.ofChange ratioOrderSpec)

/-- ITS FALSE NEIGHBOUR: 'it returns false'. Refute it at one input. -/
def ratioOrderWrong : ChangeSpec := { name := "ratioOrder", fn := fun _ => fun
  | [d] => { results := [.lit (.bool false)], args := [d] }
  | _ => none }
def RatioOrderWrongFalsely : Prop := ratioOrderRow.holds Tryd.pinned (OpenSpec.ofChange ratioOrderWrong)

/-- 'cleanroomlaw03.RatioCommutes': WHATEVER THE INPUT: true; the input reads as it did. -/
def ratioCommutesSpec : ChangeSpec := { name := "ratioCommutes", fn := fun _ => fun
  | [d] => { results := [.lit (.bool true)], args := [d] }
  | _ => none }
def ratioCommutesRow : OpenClaim := { program := "ytfplfkcgjdkdaaadoor", sum := "0d094788e3da5de62795200be0feb58032c07830ae65d3114392af98c1fcb7a9", func := "cleanroom/cleanroomlaw03.RatioCommutes", spec := "ratioCommutes", inPlace := ["internal/reflectlite.TypeOf", "internal/bytealg.IndexByteString", "internal/bytealg.IndexString"], unfollowed := true, recurses := true, named := ["cleanroom/ratio.errMisfit", "internal/strconv.uint64pow10", "math/bits.deBruijn32tab", "math/bits.deBruijn64tab", "internal/bytealg.MaxLen", "strconv.ErrSyntax", "strconv.ErrRange"], apart := false, laid := [("math/bits.deBruijn32tab", laid_math_bits_deBruijn32tab), ("math/bits.deBruijn64tab", laid_math_bits_deBruijn64tab), ("internal/strconv.uint64pow10", laid_internal_strconv_uint64pow10), ("strconv.ErrRange", laid_strconv_ErrRange), ("strconv.ErrSyntax", laid_strconv_ErrSyntax), ("cleanroom/ratio.errMisfit", laid_cleanroom_ratio_errMisfit)] }
def RatioCommutesSaid : Prop := ratioCommutesRow.holds Tryd.pinned (OpenSpec.ofChange ratioCommutesSpec)

/-- ITS FALSE NEIGHBOUR: 'it returns false'. Refute it at one input. -/
def ratioCommutesWrong : ChangeSpec := { name := "ratioCommutes", fn := fun _ => fun
  | [d] => { results := [.lit (.bool false)], args := [d] }
  | _ => none }
def RatioCommutesWrongFalsely : Prop := ratioCommutesRow.holds Tryd.pinned (OpenSpec.ofChange ratioCommutesWrong)

/-- 'cleanroomlaw03.RatioDistributes': WHATEVER THE INPUT: true; the input reads as it did. -/
def ratioDistributesSpec : ChangeSpec := { name := "ratioDistributes", fn := fun _ => fun
  | [d] => { results := [.lit (.bool true)], args := [d] }
  | _ => none }
def ratioDistributesRow : OpenClaim := { program := "ytfplfkcgjdkdaaadoor", sum := "0d094788e3da5de62795200be0feb58032c07830ae65d3114392af98c1fcb7a9", func := "cleanroom/cleanroomlaw03.RatioDistributes", spec := "ratioDistributes", inPlace := ["internal/reflectlite.TypeOf", "internal/bytealg.IndexByteString", "internal/bytealg.IndexString"], unfollowed := true, recurses := true, named := ["cleanroom/ratio.errMisfit", "internal/strconv.uint64pow10", "math/bits.deBruijn32tab", "math/bits.deBruijn64tab", "internal/bytealg.MaxLen", "strconv.ErrSyntax", "strconv.ErrRange"], apart := false, laid := [("math/bits.deBruijn32tab", laid_math_bits_deBruijn32tab), ("math/bits.deBruijn64tab", laid_math_bits_deBruijn64tab), ("internal/strconv.uint64pow10", laid_internal_strconv_uint64pow10), ("strconv.ErrRange", laid_strconv_ErrRange), ("strconv.ErrSyntax", laid_strconv_ErrSyntax), ("cleanroom/ratio.errMisfit", laid_cleanroom_ratio_errMisfit)] }
def RatioDistributesSaid : Prop := ratioDistributesRow.holds Tryd.pinned (OpenSpec.ofChange ratioDistributesSpec)

/-- ITS FALSE NEIGHBOUR: 'it returns false'. Refute it at one input. -/
def ratioDistributesWrong : ChangeSpec := { name := "ratioDistributes", fn := fun _ => fun
  | [d] => { results := [.lit (.bool false)], args := [d] }
  | _ => none }
def RatioDistributesWrongFalsely : Prop := ratioDistributesRow.holds Tryd.pinned (OpenSpec.ofChange ratioDistributesWrong)

/-- 'cleanroomlaw03.RatioMatchesReference': WHATEVER THE INPUT: true; the input reads as it did. -/
def ratioMatchesReferenceSpec : ChangeSpec := { name := "ratioMatchesReference", fn := fun _ => fun
  | [d1, d2] => { results := [.lit (.bool true)], args := [d1, d2] }
  | _ => none }
def ratioMatchesReferenceRow : OpenClaim := { program := "ytfplfkcgjdkdaaadoor", sum := "0d094788e3da5de62795200be0feb58032c07830ae65d3114392af98c1fcb7a9", func := "cleanroom/cleanroomlaw03.RatioMatchesReference", spec := "ratioMatchesReference", inPlace := ["internal/reflectlite.TypeOf", "internal/bytealg.IndexByteString", "internal/bytealg.IndexString"], unfollowed := true, recurses := true, named := ["cleanroom/ratio.errMisfit", "internal/strconv.uint64pow10", "math/bits.deBruijn32tab", "math/bits.deBruijn64tab", "internal/bytealg.MaxLen", "strconv.ErrSyntax", "strconv.ErrRange"], apart := false, laid := [("math/bits.deBruijn32tab", laid_math_bits_deBruijn32tab), ("math/bits.deBruijn64tab", laid_math_bits_deBruijn64tab), ("internal/strconv.uint64pow10", laid_internal_strconv_uint64pow10), ("strconv.ErrRange", laid_strconv_ErrRange), ("strconv.ErrSyntax", laid_strconv_ErrSyntax), ("cleanroom/ratio.errMisfit", laid_cleanroom_ratio_errMisfit)] }
def RatioMatchesReferenceSaid : Prop := ratioMatchesReferenceRow.holds Tryd.pinned (OpenSpec.ofChange ratioMatchesReferenceSpec)

/-- ITS FALSE NEIGHBOUR: 'it returns false'. Refute it at one input. -/
def ratioMatchesReferenceWrong : ChangeSpec := { name := "ratioMatchesReference", fn := fun _ => fun
  | [d1, d2] => { results := [.lit (.bool false)], args := [d1, d2] }
  | _ => none }
def RatioMatchesReferenceWrongFalsely : Prop := ratioMatchesReferenceRow.holds Tryd.pinned (OpenSpec.ofChange ratioMatchesReferenceWrong)

/-- 'cleanroomlaw03.RatioInverse': WHATEVER THE INPUT: true; the input reads as it did. -/
def ratioInverseSpec : ChangeSpec := { name := "ratioInverse", fn := fun _ => fun
  | [d1, d2, d3] => { results := [.lit (.bool true)], args := [d1, d2, d3] }
  | _ => none }
def ratioInverseRow : OpenClaim := { program := "ytfplfkcgjdkdaaadoor", sum := "0d094788e3da5de62795200be0feb58032c07830ae65d3114392af98c1fcb7a9", func := "cleanroom/cleanroomlaw03.RatioInverse", spec := "ratioInverse", inPlace := ["internal/reflectlite.TypeOf", "internal/bytealg.IndexByteString", "internal/bytealg.IndexString"], unfollowed := true, recurses := true, named := ["cleanroom/ratio.errMisfit", "internal/strconv.uint64pow10", "math/bits.deBruijn32tab", "math/bits.deBruijn64tab", "internal/bytealg.MaxLen", "strconv.ErrSyntax", "strconv.ErrRange"], apart := false, laid := [("math/bits.deBruijn32tab", laid_math_bits_deBruijn32tab), ("math/bits.deBruijn64tab", laid_math_bits_deBruijn64tab), ("internal/strconv.uint64pow10", laid_internal_strconv_uint64pow10), ("strconv.ErrRange", laid_strconv_ErrRange), ("strconv.ErrSyntax", laid_strconv_ErrSyntax), ("cleanroom/ratio.errMisfit", laid_cleanroom_ratio_errMisfit)] }
def RatioInverseSaid : Prop := ratioInverseRow.holds Tryd.pinned (OpenSpec.ofChange ratioInverseSpec)

/-- ITS FALSE NEIGHBOUR: 'it returns false'. Refute it at one input. -/
def ratioInverseWrong : ChangeSpec := { name := "ratioInverse", fn := fun _ => fun
  | [d1, d2, d3] => { results := [.lit (.bool false)], args := [d1, d2, d3] }
  | _ => none }
def RatioInverseWrongFalsely : Prop := ratioInverseRow.holds Tryd.pinned (OpenSpec.ofChange ratioInverseWrong)

/- THE SECOND FORM. 'bulk': how many values and letters a reading holds, each counted each time it is reached (what is shared counts as often as it is met; a slice's spare places count too). A statement '..UptoSaid' is the law's where the arguments, and the package variables that the reading takes, are together of bulk at most 1048576: NARROWER than '..Said'. Prove '..Said' where nothing that the law and all that it calls make is longer than what came in: it says more and counts as full. Else prove '..UptoSaid'. A law counts once. -/
mutual
def uptoBulk {H : Type} : DataW H → Nat
  | .lit (.string bytes) => bytes.length + 1
  | .lit _ => 1
  | .nil => 1
  | .ptr d => uptoBulk d + 1
  | .slice elems spare => uptoBulkAll elems + uptoBulkAll spare + 1
  | .agg parts => uptoBulkAll parts + 1
  | .iface _ d => uptoBulk d + 1
  | .map entries => uptoBulkEntries entries + 1
  | .held _ => 1
def uptoBulkAll {H : Type} : List (DataW H) → Nat
  | [] => 0
  | d :: r => uptoBulk d + uptoBulkAll r
def uptoBulkEntries {H : Type} : List (Lit × DataW H) → Nat
  | [] => 0
  | x :: r => uptoBulkEntry x + uptoBulkEntries r
def uptoBulkEntry {H : Type} : Lit × DataW H → Nat
  | (.string bytes, d) => bytes.length + uptoBulk d + 1
  | (_, d) => uptoBulk d + 1
 end
def uptoSmall : (H : Type) → List (DataW H) → Bool := fun _ ds => decide (uptoBulkAll ds ≤ 1048576)
def OpenSpec.upto (s : _root_.Go.ChangeSpec) : _root_.Go.OpenSpec := { _root_.Go.OpenSpec.ofChange s with cond := some uptoSmall }

/-- 'cleanroomlaw03.RatioTextMatchesReference', WHERE WHAT IT READS IS OF BULK AT MOST 1048576: true; the input reads as it did. -/
def ratioTextMatchesReferenceUptoRow : OpenClaim := { program := "ytfplfkcgjdkdaaadoor", sum := "0d094788e3da5de62795200be0feb58032c07830ae65d3114392af98c1fcb7a9", func := "cleanroom/cleanroomlaw03.RatioTextMatchesReference", spec := "ratioTextMatchesReference", inPlace := ["internal/reflectlite.TypeOf", "internal/bytealg.IndexByteString", "internal/bytealg.IndexString"], unfollowed := true, recurses := true, named := ["cleanroom/ratio.errMisfit", "internal/strconv.uint64pow10", "math/bits.deBruijn32tab", "math/bits.deBruijn64tab", "internal/bytealg.MaxLen", "strconv.ErrSyntax", "strconv.ErrRange"], apart := false, laid := [("math/bits.deBruijn32tab", laid_math_bits_deBruijn32tab), ("math/bits.deBruijn64tab", laid_math_bits_deBruijn64tab), ("internal/strconv.uint64pow10", laid_internal_strconv_uint64pow10), ("strconv.ErrRange", laid_strconv_ErrRange), ("strconv.ErrSyntax", laid_strconv_ErrSyntax), ("cleanroom/ratio.errMisfit", laid_cleanroom_ratio_errMisfit)], narrowed := true }
def RatioTextMatchesReferenceUptoSaid : Prop := ratioTextMatchesReferenceUptoRow.holds Tryd.pinned (OpenSpec.upto ratioTextMatchesReferenceSpec)

/-- 'cleanroomlaw03.RatioFloor', WHERE WHAT IT READS IS OF BULK AT MOST 1048576: true; the input reads as it did. -/
def ratioFloorUptoRow : OpenClaim := { program := "ytfplfkcgjdkdaaadoor", sum := "0d094788e3da5de62795200be0feb58032c07830ae65d3114392af98c1fcb7a9", func := "cleanroom/cleanroomlaw03.RatioFloor", spec := "ratioFloor", inPlace := ["internal/reflectlite.TypeOf", "internal/bytealg.IndexByteString", "internal/bytealg.IndexString"], unfollowed := true, recurses := true, named := ["cleanroom/ratio.errMisfit", "internal/strconv.uint64pow10", "math/bits.deBruijn32tab", "math/bits.deBruijn64tab", "internal/bytealg.MaxLen", "strconv.ErrSyntax", "strconv.ErrRange"], apart := false, laid := [("math/bits.deBruijn32tab", laid_math_bits_deBruijn32tab), ("math/bits.deBruijn64tab", laid_math_bits_deBruijn64tab), ("internal/strconv.uint64pow10", laid_internal_strconv_uint64pow10), ("strconv.ErrRange", laid_strconv_ErrRange), ("strconv.ErrSyntax", laid_strconv_ErrSyntax), ("cleanroom/ratio.errMisfit", laid_cleanroom_ratio_errMisfit)], narrowed := true }
def RatioFloorUptoSaid : Prop := ratioFloorUptoRow.holds Tryd.pinned (OpenSpec.upto ratioFloorSpec)

/-- 'cleanroomlaw03.RatioRound', WHERE WHAT IT READS IS OF BULK AT MOST 1048576: true; the input reads as it did. -/
def ratioRoundUptoRow : OpenClaim := { program := "ytfplfkcgjdkdaaadoor", sum := "0d094788e3da5de62795200be0feb58032c07830ae65d3114392af98c1fcb7a9", func := "cleanroom/cleanroomlaw03.RatioRound", spec := "ratioRound", inPlace := ["internal/reflectlite.TypeOf", "internal/bytealg.IndexByteString", "internal/bytealg.IndexString"], unfollowed := true, recurses := true, named := ["cleanroom/ratio.errMisfit", "internal/strconv.uint64pow10", "math/bits.deBruijn32tab", "math/bits.deBruijn64tab", "internal/bytealg.MaxLen", "strconv.ErrSyntax", "strconv.ErrRange"], apart := false, laid := [("math/bits.deBruijn32tab", laid_math_bits_deBruijn32tab), ("math/bits.deBruijn64tab", laid_math_bits_deBruijn64tab), ("internal/strconv.uint64pow10", laid_internal_strconv_uint64pow10), ("strconv.ErrRange", laid_strconv_ErrRange), ("strconv.ErrSyntax", laid_strconv_ErrSyntax), ("cleanroom/ratio.errMisfit", laid_cleanroom_ratio_errMisfit)], narrowed := true }
def RatioRoundUptoSaid : Prop := ratioRoundUptoRow.holds Tryd.pinned (OpenSpec.upto ratioRoundSpec)

/-- 'cleanroomlaw03.RatioText', WHERE WHAT IT READS IS OF BULK AT MOST 1048576: true; the input reads as it did. -/
def ratioTextUptoRow : OpenClaim := { program := "ytfplfkcgjdkdaaadoor", sum := "0d094788e3da5de62795200be0feb58032c07830ae65d3114392af98c1fcb7a9", func := "cleanroom/cleanroomlaw03.RatioText", spec := "ratioText", inPlace := ["internal/reflectlite.TypeOf", "internal/bytealg.IndexByteString", "internal/bytealg.IndexString"], unfollowed := true, recurses := true, named := ["cleanroom/ratio.errMisfit", "internal/strconv.uint64pow10", "math/bits.deBruijn32tab", "math/bits.deBruijn64tab", "internal/bytealg.MaxLen", "strconv.ErrSyntax", "strconv.ErrRange"], apart := false, laid := [("math/bits.deBruijn32tab", laid_math_bits_deBruijn32tab), ("math/bits.deBruijn64tab", laid_math_bits_deBruijn64tab), ("internal/strconv.uint64pow10", laid_internal_strconv_uint64pow10), ("strconv.ErrRange", laid_strconv_ErrRange), ("strconv.ErrSyntax", laid_strconv_ErrSyntax), ("cleanroom/ratio.errMisfit", laid_cleanroom_ratio_errMisfit)], narrowed := true }
def RatioTextUptoSaid : Prop := ratioTextUptoRow.holds Tryd.pinned (OpenSpec.upto ratioTextSpec)

/-- 'cleanroomlaw03.RatioOrder', WHERE WHAT IT READS IS OF BULK AT MOST 1048576: true; the input reads as it did. -/
def ratioOrderUptoRow : OpenClaim := { program := "ytfplfkcgjdkdaaadoor", sum := "0d094788e3da5de62795200be0feb58032c07830ae65d3114392af98c1fcb7a9", func := "cleanroom/cleanroomlaw03.RatioOrder", spec := "ratioOrder", inPlace := ["internal/reflectlite.TypeOf", "internal/bytealg.IndexByteString", "internal/bytealg.IndexString"], unfollowed := true, recurses := true, named := ["cleanroom/ratio.errMisfit", "internal/strconv.uint64pow10", "math/bits.deBruijn32tab", "math/bits.deBruijn64tab", "internal/bytealg.MaxLen", "strconv.ErrSyntax", "strconv.ErrRange"], apart := false, laid := [("math/bits.deBruijn32tab", laid_math_bits_deBruijn32tab), ("math/bits.deBruijn64tab", laid_math_bits_deBruijn64tab), ("internal/strconv.uint64pow10", laid_internal_strconv_uint64pow10), ("strconv.ErrRange", laid_strconv_ErrRange), ("strconv.ErrSyntax", laid_strconv_ErrSyntax), ("cleanroom/ratio.errMisfit", laid_cleanroom_ratio_errMisfit)], narrowed := true }
def RatioOrderUptoSaid : Prop := ratioOrderUptoRow.holds Tryd.pinned (OpenSpec.upto ratioOrderSpec)

/-- 'cleanroomlaw03.RatioCommutes', WHERE WHAT IT READS IS OF BULK AT MOST 1048576: true; the input reads as it did. -/
def ratioCommutesUptoRow : OpenClaim := { program := "ytfplfkcgjdkdaaadoor", sum := "0d094788e3da5de62795200be0feb58032c07830ae65d3114392af98c1fcb7a9", func := "cleanroom/cleanroomlaw03.RatioCommutes", spec := "ratioCommutes", inPlace := ["internal/reflectlite.TypeOf", "internal/bytealg.IndexByteString", "internal/bytealg.IndexString"], unfollowed := true, recurses := true, named := ["cleanroom/ratio.errMisfit", "internal/strconv.uint64pow10", "math/bits.deBruijn32tab", "math/bits.deBruijn64tab", "internal/bytealg.MaxLen", "strconv.ErrSyntax", "strconv.ErrRange"], apart := false, laid := [("math/bits.deBruijn32tab", laid_math_bits_deBruijn32tab), ("math/bits.deBruijn64tab", laid_math_bits_deBruijn64tab), ("internal/strconv.uint64pow10", laid_internal_strconv_uint64pow10), ("strconv.ErrRange", laid_strconv_ErrRange), ("strconv.ErrSyntax", laid_strconv_ErrSyntax), ("cleanroom/ratio.errMisfit", laid_cleanroom_ratio_errMisfit)], narrowed := true }
def RatioCommutesUptoSaid : Prop := ratioCommutesUptoRow.holds Tryd.pinned (OpenSpec.upto ratioCommutesSpec)

/-- 'cleanroomlaw03.RatioDistributes', WHERE WHAT IT READS IS OF BULK AT MOST 1048576: true; the input reads as it did. -/
def ratioDistributesUptoRow : OpenClaim := { program := "ytfplfkcgjdkdaaadoor", sum := "0d094788e3da5de62795200be0feb58032c07830ae65d3114392af98c1fcb7a9", func := "cleanroom/cleanroomlaw03.RatioDistributes", spec := "ratioDistributes", inPlace := ["internal/reflectlite.TypeOf", "internal/bytealg.IndexByteString", "internal/bytealg.IndexString"], unfollowed := true, recurses := true, named := ["cleanroom/ratio.errMisfit", "internal/strconv.uint64pow10", "math/bits.deBruijn32tab", "math/bits.deBruijn64tab", "internal/bytealg.MaxLen", "strconv.ErrSyntax", "strconv.ErrRange"], apart := false, laid := [("math/bits.deBruijn32tab", laid_math_bits_deBruijn32tab), ("math/bits.deBruijn64tab", laid_math_bits_deBruijn64tab), ("internal/strconv.uint64pow10", laid_internal_strconv_uint64pow10), ("strconv.ErrRange", laid_strconv_ErrRange), ("strconv.ErrSyntax", laid_strconv_ErrSyntax), ("cleanroom/ratio.errMisfit", laid_cleanroom_ratio_errMisfit)], narrowed := true }
def RatioDistributesUptoSaid : Prop := ratioDistributesUptoRow.holds Tryd.pinned (OpenSpec.upto ratioDistributesSpec)

/-- 'cleanroomlaw03.RatioMatchesReference', WHERE WHAT IT READS IS OF BULK AT MOST 1048576: true; the input reads as it did. -/
def ratioMatchesReferenceUptoRow : OpenClaim := { program := "ytfplfkcgjdkdaaadoor", sum := "0d094788e3da5de62795200be0feb58032c07830ae65d3114392af98c1fcb7a9", func := "cleanroom/cleanroomlaw03.RatioMatchesReference", spec := "ratioMatchesReference", inPlace := ["internal/reflectlite.TypeOf", "internal/bytealg.IndexByteString", "internal/bytealg.IndexString"], unfollowed := true, recurses := true, named := ["cleanroom/ratio.errMisfit", "internal/strconv.uint64pow10", "math/bits.deBruijn32tab", "math/bits.deBruijn64tab", "internal/bytealg.MaxLen", "strconv.ErrSyntax", "strconv.ErrRange"], apart := false, laid := [("math/bits.deBruijn32tab", laid_math_bits_deBruijn32tab), ("math/bits.deBruijn64tab", laid_math_bits_deBruijn64tab), ("internal/strconv.uint64pow10", laid_internal_strconv_uint64pow10), ("strconv.ErrRange", laid_strconv_ErrRange), ("strconv.ErrSyntax", laid_strconv_ErrSyntax), ("cleanroom/ratio.errMisfit", laid_cleanroom_ratio_errMisfit)], narrowed := true }
def RatioMatchesReferenceUptoSaid : Prop := ratioMatchesReferenceUptoRow.holds Tryd.pinned (OpenSpec.upto ratioMatchesReferenceSpec)

/-- 'cleanroomlaw03.RatioInverse', WHERE WHAT IT READS IS OF BULK AT MOST 1048576: true; the input reads as it did. -/
def ratioInverseUptoRow : OpenClaim := { program := "ytfplfkcgjdkdaaadoor", sum := "0d094788e3da5de62795200be0feb58032c07830ae65d3114392af98c1fcb7a9", func := "cleanroom/cleanroomlaw03.RatioInverse", spec := "ratioInverse", inPlace := ["internal/reflectlite.TypeOf", "internal/bytealg.IndexByteString", "internal/bytealg.IndexString"], unfollowed := true, recurses := true, named := ["cleanroom/ratio.errMisfit", "internal/strconv.uint64pow10", "math/bits.deBruijn32tab", "math/bits.deBruijn64tab", "internal/bytealg.MaxLen", "strconv.ErrSyntax", "strconv.ErrRange"], apart := false, laid := [("math/bits.deBruijn32tab", laid_math_bits_deBruijn32tab), ("math/bits.deBruijn64tab", laid_math_bits_deBruijn64tab), ("internal/strconv.uint64pow10", laid_internal_strconv_uint64pow10), ("strconv.ErrRange", laid_strconv_ErrRange), ("strconv.ErrSyntax", laid_strconv_ErrSyntax), ("cleanroom/ratio.errMisfit", laid_cleanroom_ratio_errMisfit)], narrowed := true }
def RatioInverseUptoSaid : Prop := ratioInverseUptoRow.holds Tryd.pinned (OpenSpec.upto ratioInverseSpec)

end Rows
end Go.Proofs.YtfplfkcgjdkdaaaDoor
