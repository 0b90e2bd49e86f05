/-
  NARROWER THAN 'FOR EVERY INPUT', by the rows' own cells (each row's printed sentence says how): DigestTreeMatchesReference: laid · DigestProofAccepted: laid · DigestExtensionAccepted: laid · DigestBinding: laid · DigestExtensionBinding: laid · DigestSplit: laid · DigestSumMatchesReference: laid · DigestChainBinding: laid.
  DERIVED. THE GIVEN ROWS OF THIS SEAT. 8 by the template 'for every input the law returns true; each argument reads behind the call as it read before'; 0 by the template 'total and deterministic' (their statements: YtgbnngmpaefbcaaDoorTotals.lean).
  GIVEN WITH THE SEED: the statements are not yours to turn. If you find one false, say at which input.
  Laid BY PROGRAM, IN A SANDBOX (cutbox-rows.mjs): the forced cells as the released guide's own fill.sh prints them over the translation 4b1bd189c363f45c… (all of the seat's roots in one cut). By AI agents, Wed Nov 11 2026. No macro, syntax, notation, axiom, sorry.
-/
import Derived.Test.YtgbnngmpaefbcaaDoorChecked
import GoSem.Claim
import GoSem.ClaimJoined
import GoSem.ClaimMapViews
import Derived.JoinedTies
import Derived.KernelRfl
namespace Go.Proofs.YtgbnngmpaefbcaaDoor
/- THE CELL 'sum', in the pinned program and in every row, IS THE sha256 OF THE DUMP (.gsa) THAT YtgbnngmpaefbcaaDoorProg.lean LOADS. Nothing in Lean hashes anything: it is a label: what it is worth is what the hold of that sum in a sandbox is worth. -/
noncomputable def Tryd.pinned : Pinned := { name := "ytgbnngmpaefbcaadoor", sum := "4b1bd189c363f45c05783f756260a91c56d0cb113b0bccf67e0b067e18d6a7b3", checked := Tryd.checked }
namespace Rows
def none {H : Type} : Left H := { results := [], args := [] }

/- WHAT THE LISTED PACKAGE-LEVEL VARIABLES READ AS WHEN THE CALL BEGINS. Each datum BY PROGRAM (the guide's laid-datum.mjs) off the statement by which the dump's own 'gosem.cut.vars' lays the variable. In a bare row this is a premise. The card (YtgbnngmpaefbcaaDoorCards.lean) ties it to the program's text. -/
def laid_cleanroom_digest_round {H : Type} : DataW H := .agg [.lit (.int .u32 1116352408), .lit (.int .u32 1899447441), .lit (.int .u32 3049323471), .lit (.int .u32 3921009573), .lit (.int .u32 961987163), .lit (.int .u32 1508970993), .lit (.int .u32 2453635748), .lit (.int .u32 2870763221), .lit (.int .u32 3624381080), .lit (.int .u32 310598401), .lit (.int .u32 607225278), .lit (.int .u32 1426881987), .lit (.int .u32 1925078388), .lit (.int .u32 2162078206), .lit (.int .u32 2614888103), .lit (.int .u32 3248222580), .lit (.int .u32 3835390401), .lit (.int .u32 4022224774), .lit (.int .u32 264347078), .lit (.int .u32 604807628), .lit (.int .u32 770255983), .lit (.int .u32 1249150122), .lit (.int .u32 1555081692), .lit (.int .u32 1996064986), .lit (.int .u32 2554220882), .lit (.int .u32 2821834349), .lit (.int .u32 2952996808), .lit (.int .u32 3210313671), .lit (.int .u32 3336571891), .lit (.int .u32 3584528711), .lit (.int .u32 113926993), .lit (.int .u32 338241895), .lit (.int .u32 666307205), .lit (.int .u32 773529912), .lit (.int .u32 1294757372), .lit (.int .u32 1396182291), .lit (.int .u32 1695183700), .lit (.int .u32 1986661051), .lit (.int .u32 2177026350), .lit (.int .u32 2456956037), .lit (.int .u32 2730485921), .lit (.int .u32 2820302411), .lit (.int .u32 3259730800), .lit (.int .u32 3345764771), .lit (.int .u32 3516065817), .lit (.int .u32 3600352804), .lit (.int .u32 4094571909), .lit (.int .u32 275423344), .lit (.int .u32 430227734), .lit (.int .u32 506948616), .lit (.int .u32 659060556), .lit (.int .u32 883997877), .lit (.int .u32 958139571), .lit (.int .u32 1322822218), .lit (.int .u32 1537002063), .lit (.int .u32 1747873779), .lit (.int .u32 1955562222), .lit (.int .u32 2024104815), .lit (.int .u32 2227730452), .lit (.int .u32 2361852424), .lit (.int .u32 2428436474), .lit (.int .u32 2756734187), .lit (.int .u32 3204031479), .lit (.int .u32 3329325298)]

/-- 'cleanroomlaw02.DigestTreeMatchesReference': WHATEVER THE INPUT: true; the input reads as it did. -/
def digestTreeMatchesReferenceSpec : ChangeSpec := { name := "digestTreeMatchesReference", fn := fun _ => fun
  | [d1, d2, d3] => { results := [.lit (.bool true)], args := [d1, d2, d3] }
  | _ => none }
def digestTreeMatchesReferenceRow : OpenClaim := { program := "ytgbnngmpaefbcaadoor", sum := "4b1bd189c363f45c05783f756260a91c56d0cb113b0bccf67e0b067e18d6a7b3", func := "cleanroom/cleanroomlaw02.DigestTreeMatchesReference", spec := "digestTreeMatchesReference", inPlace := ["internal/abi.NoEscape", "internal/bytealg.MakeNoZero"], unfollowed := true, recurses := true, named := ["cleanroom/digest.round"], apart := false, laid := [("cleanroom/digest.round", laid_cleanroom_digest_round)] }
def DigestTreeMatchesReferenceSaid : Prop := digestTreeMatchesReferenceRow.holds Tryd.pinned (OpenSpec.ofChange digestTreeMatchesReferenceSpec)

/-- ITS FALSE NEIGHBOUR: 'it returns false'. Refute it at one input. -/
def digestTreeMatchesReferenceWrong : ChangeSpec := { name := "digestTreeMatchesReference", fn := fun _ => fun
  | [d1, d2, d3] => { results := [.lit (.bool false)], args := [d1, d2, d3] }
  | _ => none }
def DigestTreeMatchesReferenceWrongFalsely : Prop := digestTreeMatchesReferenceRow.holds Tryd.pinned (OpenSpec.ofChange digestTreeMatchesReferenceWrong)

/-- 'cleanroomlaw02.DigestProofAccepted': WHATEVER THE INPUT: true; the input reads as it did. -/
def digestProofAcceptedSpec : ChangeSpec := { name := "digestProofAccepted", fn := fun _ => fun
  | [d1, d2] => { results := [.lit (.bool true)], args := [d1, d2] }
  | _ => none }
def digestProofAcceptedRow : OpenClaim := { program := "ytgbnngmpaefbcaadoor", sum := "4b1bd189c363f45c05783f756260a91c56d0cb113b0bccf67e0b067e18d6a7b3", func := "cleanroom/cleanroomlaw02.DigestProofAccepted", spec := "digestProofAccepted", inPlace := ["internal/abi.NoEscape", "internal/bytealg.MakeNoZero"], unfollowed := true, recurses := true, named := ["cleanroom/digest.round"], apart := false, laid := [("cleanroom/digest.round", laid_cleanroom_digest_round)] }
def DigestProofAcceptedSaid : Prop := digestProofAcceptedRow.holds Tryd.pinned (OpenSpec.ofChange digestProofAcceptedSpec)

/-- ITS FALSE NEIGHBOUR: 'it returns false'. Refute it at one input. -/
def digestProofAcceptedWrong : ChangeSpec := { name := "digestProofAccepted", fn := fun _ => fun
  | [d1, d2] => { results := [.lit (.bool false)], args := [d1, d2] }
  | _ => none }
def DigestProofAcceptedWrongFalsely : Prop := digestProofAcceptedRow.holds Tryd.pinned (OpenSpec.ofChange digestProofAcceptedWrong)

/-- 'cleanroomlaw02.DigestExtensionAccepted': WHATEVER THE INPUT: true; the input reads as it did. -/
def digestExtensionAcceptedSpec : ChangeSpec := { name := "digestExtensionAccepted", fn := fun _ => fun
  | [d1, d2] => { results := [.lit (.bool true)], args := [d1, d2] }
  | _ => none }
def digestExtensionAcceptedRow : OpenClaim := { program := "ytgbnngmpaefbcaadoor", sum := "4b1bd189c363f45c05783f756260a91c56d0cb113b0bccf67e0b067e18d6a7b3", func := "cleanroom/cleanroomlaw02.DigestExtensionAccepted", spec := "digestExtensionAccepted", inPlace := ["internal/abi.NoEscape", "internal/bytealg.MakeNoZero"], unfollowed := true, recurses := true, named := ["cleanroom/digest.round"], apart := false, laid := [("cleanroom/digest.round", laid_cleanroom_digest_round)] }
def DigestExtensionAcceptedSaid : Prop := digestExtensionAcceptedRow.holds Tryd.pinned (OpenSpec.ofChange digestExtensionAcceptedSpec)

/-- ITS FALSE NEIGHBOUR: 'it returns false'. Refute it at one input. -/
def digestExtensionAcceptedWrong : ChangeSpec := { name := "digestExtensionAccepted", fn := fun _ => fun
  | [d1, d2] => { results := [.lit (.bool false)], args := [d1, d2] }
  | _ => none }
def DigestExtensionAcceptedWrongFalsely : Prop := digestExtensionAcceptedRow.holds Tryd.pinned (OpenSpec.ofChange digestExtensionAcceptedWrong)

/-- 'cleanroomlaw02.DigestBinding': WHATEVER THE INPUT: true; the input reads as it did. -/
def digestBindingSpec : ChangeSpec := { name := "digestBinding", fn := fun _ => fun
  | [d1, d2, d3, d4, d5, d6, d7] => { results := [.lit (.bool true)], args := [d1, d2, d3, d4, d5, d6, d7] }
  | _ => none }
def digestBindingRow : OpenClaim := { program := "ytgbnngmpaefbcaadoor", sum := "4b1bd189c363f45c05783f756260a91c56d0cb113b0bccf67e0b067e18d6a7b3", func := "cleanroom/cleanroomlaw02.DigestBinding", spec := "digestBinding", inPlace := ["internal/abi.NoEscape", "internal/bytealg.MakeNoZero"], unfollowed := true, recurses := true, named := ["cleanroom/digest.round"], apart := false, laid := [("cleanroom/digest.round", laid_cleanroom_digest_round)] }
def DigestBindingSaid : Prop := digestBindingRow.holds Tryd.pinned (OpenSpec.ofChange digestBindingSpec)

/-- ITS FALSE NEIGHBOUR: 'it returns false'. Refute it at one input. -/
def digestBindingWrong : ChangeSpec := { name := "digestBinding", fn := fun _ => fun
  | [d1, d2, d3, d4, d5, d6, d7] => { results := [.lit (.bool false)], args := [d1, d2, d3, d4, d5, d6, d7] }
  | _ => none }
def DigestBindingWrongFalsely : Prop := digestBindingRow.holds Tryd.pinned (OpenSpec.ofChange digestBindingWrong)

/-- 'cleanroomlaw02.DigestExtensionBinding': WHATEVER THE INPUT: true; the input reads as it did. -/
def digestExtensionBindingSpec : ChangeSpec := { name := "digestExtensionBinding", fn := fun _ => fun
  | [d1, d2, d3, d4, d5, d6, d7] => { results := [.lit (.bool true)], args := [d1, d2, d3, d4, d5, d6, d7] }
  | _ => none }
def digestExtensionBindingRow : OpenClaim := { program := "ytgbnngmpaefbcaadoor", sum := "4b1bd189c363f45c05783f756260a91c56d0cb113b0bccf67e0b067e18d6a7b3", func := "cleanroom/cleanroomlaw02.DigestExtensionBinding", spec := "digestExtensionBinding", inPlace := ["internal/abi.NoEscape", "internal/bytealg.MakeNoZero"], unfollowed := true, recurses := true, named := ["cleanroom/digest.round"], apart := false, laid := [("cleanroom/digest.round", laid_cleanroom_digest_round)] }
def DigestExtensionBindingSaid : Prop := digestExtensionBindingRow.holds Tryd.pinned (OpenSpec.ofChange digestExtensionBindingSpec)

/-- ITS FALSE NEIGHBOUR: 'it returns false'. Refute it at one input. -/
def digestExtensionBindingWrong : ChangeSpec := { name := "digestExtensionBinding", fn := fun _ => fun
  | [d1, d2, d3, d4, d5, d6, d7] => { results := [.lit (.bool false)], args := [d1, d2, d3, d4, d5, d6, d7] }
  | _ => none }
def DigestExtensionBindingWrongFalsely : Prop := digestExtensionBindingRow.holds Tryd.pinned (OpenSpec.ofChange digestExtensionBindingWrong)

/-- 'cleanroomlaw02.DigestSplit': WHATEVER THE INPUT: true; the input reads as it did. -/
def digestSplitSpec : ChangeSpec := { name := "digestSplit", fn := fun _ => fun
  | [d1, d2] => { results := [.lit (.bool true)], args := [d1, d2] }
  | _ => none }
def digestSplitRow : OpenClaim := { program := "ytgbnngmpaefbcaadoor", sum := "4b1bd189c363f45c05783f756260a91c56d0cb113b0bccf67e0b067e18d6a7b3", func := "cleanroom/cleanroomlaw02.DigestSplit", spec := "digestSplit", inPlace := ["internal/abi.NoEscape", "internal/bytealg.MakeNoZero"], unfollowed := true, recurses := true, named := ["cleanroom/digest.round"], apart := false, laid := [("cleanroom/digest.round", laid_cleanroom_digest_round)] }
def DigestSplitSaid : Prop := digestSplitRow.holds Tryd.pinned (OpenSpec.ofChange digestSplitSpec)

/-- ITS FALSE NEIGHBOUR: 'it returns false'. Refute it at one input. -/
def digestSplitWrong : ChangeSpec := { name := "digestSplit", fn := fun _ => fun
  | [d1, d2] => { results := [.lit (.bool false)], args := [d1, d2] }
  | _ => none }
def DigestSplitWrongFalsely : Prop := digestSplitRow.holds Tryd.pinned (OpenSpec.ofChange digestSplitWrong)

/-- 'cleanroomlaw02.DigestSumMatchesReference': WHATEVER THE INPUT: true; the input reads as it did. -/
def digestSumMatchesReferenceSpec : ChangeSpec := { name := "digestSumMatchesReference", fn := fun _ => fun
  | [d1, d2] => { results := [.lit (.bool true)], args := [d1, d2] }
  | _ => none }
def digestSumMatchesReferenceRow : OpenClaim := { program := "ytgbnngmpaefbcaadoor", sum := "4b1bd189c363f45c05783f756260a91c56d0cb113b0bccf67e0b067e18d6a7b3", func := "cleanroom/cleanroomlaw02.DigestSumMatchesReference", spec := "digestSumMatchesReference", inPlace := ["internal/abi.NoEscape", "internal/bytealg.MakeNoZero"], unfollowed := true, recurses := true, named := ["cleanroom/digest.round"], apart := false, laid := [("cleanroom/digest.round", laid_cleanroom_digest_round)] }
def DigestSumMatchesReferenceSaid : Prop := digestSumMatchesReferenceRow.holds Tryd.pinned (OpenSpec.ofChange digestSumMatchesReferenceSpec)

/-- ITS FALSE NEIGHBOUR: 'it returns false'. Refute it at one input. -/
def digestSumMatchesReferenceWrong : ChangeSpec := { name := "digestSumMatchesReference", fn := fun _ => fun
  | [d1, d2] => { results := [.lit (.bool false)], args := [d1, d2] }
  | _ => none }
def DigestSumMatchesReferenceWrongFalsely : Prop := digestSumMatchesReferenceRow.holds Tryd.pinned (OpenSpec.ofChange digestSumMatchesReferenceWrong)

/-- 'cleanroomlaw02.DigestChainBinding': WHATEVER THE INPUT: true; the input reads as it did. -/
def digestChainBindingSpec : ChangeSpec := { name := "digestChainBinding", fn := fun _ => fun
  | [d1, d2] => { results := [.lit (.bool true)], args := [d1, d2] }
  | _ => none }
def digestChainBindingRow : OpenClaim := { program := "ytgbnngmpaefbcaadoor", sum := "4b1bd189c363f45c05783f756260a91c56d0cb113b0bccf67e0b067e18d6a7b3", func := "cleanroom/cleanroomlaw02.DigestChainBinding", spec := "digestChainBinding", inPlace := ["internal/abi.NoEscape", "internal/bytealg.MakeNoZero"], unfollowed := true, recurses := true, named := ["cleanroom/digest.round"], apart := false, laid := [("cleanroom/digest.round", laid_cleanroom_digest_round)] }
def DigestChainBindingSaid : Prop := digestChainBindingRow.holds Tryd.pinned (OpenSpec.ofChange digestChainBindingSpec)

/-- ITS FALSE NEIGHBOUR: 'it returns false'. Refute it at one input. -/
def digestChainBindingWrong : ChangeSpec := { name := "digestChainBinding", fn := fun _ => fun
  | [d1, d2] => { results := [.lit (.bool false)], args := [d1, d2] }
  | _ => none }
def DigestChainBindingWrongFalsely : Prop := digestChainBindingRow.holds Tryd.pinned (OpenSpec.ofChange digestChainBindingWrong)

/- THE SECOND FORM. 'bulk': how many values and letters a reading holds, each counted each time it is reached (what is shared counts as often as it is met; a slice's spare places count too). A statement '..UptoSaid' is the law's where the arguments, and the package variables that the reading takes, are together of bulk at most 1048576: NARROWER than '..Said'. Prove '..Said' where nothing that the law and all that it calls make is longer than what came in: it says more and counts as full. Else prove '..UptoSaid'. A law counts once. -/
mutual
def uptoBulk {H : Type} : DataW H → Nat
  | .lit (.string bytes) => bytes.length + 1
  | .lit _ => 1
  | .nil => 1
  | .ptr d => uptoBulk d + 1
  | .slice elems spare => uptoBulkAll elems + uptoBulkAll spare + 1
  | .agg parts => uptoBulkAll parts + 1
  | .iface _ d => uptoBulk d + 1
  | .map entries => uptoBulkEntries entries + 1
  | .held _ => 1
def uptoBulkAll {H : Type} : List (DataW H) → Nat
  | [] => 0
  | d :: r => uptoBulk d + uptoBulkAll r
def uptoBulkEntries {H : Type} : List (Lit × DataW H) → Nat
  | [] => 0
  | x :: r => uptoBulkEntry x + uptoBulkEntries r
def uptoBulkEntry {H : Type} : Lit × DataW H → Nat
  | (.string bytes, d) => bytes.length + uptoBulk d + 1
  | (_, d) => uptoBulk d + 1
 end
def uptoSmall : (H : Type) → List (DataW H) → Bool := fun _ ds => decide (uptoBulkAll ds ≤ 1048576)
def OpenSpec.upto (s : _root_.Go.ChangeSpec) : _root_.Go.OpenSpec := { _root_.Go.OpenSpec.ofChange s with cond := some uptoSmall }

/-- 'cleanroomlaw02.DigestTreeMatchesReference', WHERE WHAT IT READS IS OF BULK AT MOST 1048576: true; the input reads as it did. -/
def digestTreeMatchesReferenceUptoRow : OpenClaim := { program := "ytgbnngmpaefbcaadoor", sum := "4b1bd189c363f45c05783f756260a91c56d0cb113b0bccf67e0b067e18d6a7b3", func := "cleanroom/cleanroomlaw02.DigestTreeMatchesReference", spec := "digestTreeMatchesReference", inPlace := ["internal/abi.NoEscape", "internal/bytealg.MakeNoZero"], unfollowed := true, recurses := true, named := ["cleanroom/digest.round"], apart := false, laid := [("cleanroom/digest.round", laid_cleanroom_digest_round)], narrowed := true }
def DigestTreeMatchesReferenceUptoSaid : Prop := digestTreeMatchesReferenceUptoRow.holds Tryd.pinned (OpenSpec.upto digestTreeMatchesReferenceSpec)

/-- 'cleanroomlaw02.DigestProofAccepted', WHERE WHAT IT READS IS OF BULK AT MOST 1048576: true; the input reads as it did. -/
def digestProofAcceptedUptoRow : OpenClaim := { program := "ytgbnngmpaefbcaadoor", sum := "4b1bd189c363f45c05783f756260a91c56d0cb113b0bccf67e0b067e18d6a7b3", func := "cleanroom/cleanroomlaw02.DigestProofAccepted", spec := "digestProofAccepted", inPlace := ["internal/abi.NoEscape", "internal/bytealg.MakeNoZero"], unfollowed := true, recurses := true, named := ["cleanroom/digest.round"], apart := false, laid := [("cleanroom/digest.round", laid_cleanroom_digest_round)], narrowed := true }
def DigestProofAcceptedUptoSaid : Prop := digestProofAcceptedUptoRow.holds Tryd.pinned (OpenSpec.upto digestProofAcceptedSpec)

/-- 'cleanroomlaw02.DigestExtensionAccepted', WHERE WHAT IT READS IS OF BULK AT MOST 1048576: true; the input reads as it did. -/
def digestExtensionAcceptedUptoRow : OpenClaim := { program := "ytgbnngmpaefbcaadoor", sum := "4b1bd189c363f45c05783f756260a91c56d0cb113b0bccf67e0b067e18d6a7b3", func := "cleanroom/cleanroomlaw02.DigestExtensionAccepted", spec := "digestExtensionAccepted", inPlace := ["internal/abi.NoEscape", "internal/bytealg.MakeNoZero"], unfollowed := true, recurses := true, named := ["cleanroom/digest.round"], apart := false, laid := [("cleanroom/digest.round", laid_cleanroom_digest_round)], narrowed := true }
def DigestExtensionAcceptedUptoSaid : Prop := digestExtensionAcceptedUptoRow.holds Tryd.pinned (OpenSpec.upto digestExtensionAcceptedSpec)

/-- 'cleanroomlaw02.DigestBinding', WHERE WHAT IT READS IS OF BULK AT MOST 1048576: true; the input reads as it did. -/
def digestBindingUptoRow : OpenClaim := { program := "ytgbnngmpaefbcaadoor", sum := "4b1bd189c363f45c05783f756260a91c56d0cb113b0bccf67e0b067e18d6a7b3", func := "cleanroom/cleanroomlaw02.DigestBinding", spec := "digestBinding", inPlace := ["internal/abi.NoEscape", "internal/bytealg.MakeNoZero"], unfollowed := true, recurses := true, named := ["cleanroom/digest.round"], apart := false, laid := [("cleanroom/digest.round", laid_cleanroom_digest_round)], narrowed := true }
def DigestBindingUptoSaid : Prop := digestBindingUptoRow.holds Tryd.pinned (OpenSpec.upto digestBindingSpec)

/-- 'cleanroomlaw02.DigestExtensionBinding', WHERE WHAT IT READS IS OF BULK AT MOST 1048576: true; the input reads as it did. -/
def digestExtensionBindingUptoRow : OpenClaim := { program := "ytgbnngmpaefbcaadoor", sum := "4b1bd189c363f45c05783f756260a91c56d0cb113b0bccf67e0b067e18d6a7b3", func := "cleanroom/cleanroomlaw02.DigestExtensionBinding", spec := "digestExtensionBinding", inPlace := ["internal/abi.NoEscape", "internal/bytealg.MakeNoZero"], unfollowed := true, recurses := true, named := ["cleanroom/digest.round"], apart := false, laid := [("cleanroom/digest.round", laid_cleanroom_digest_round)], narrowed := true }
def DigestExtensionBindingUptoSaid : Prop := digestExtensionBindingUptoRow.holds Tryd.pinned (OpenSpec.upto digestExtensionBindingSpec)

/-- 'cleanroomlaw02.DigestSplit', WHERE WHAT IT READS IS OF BULK AT MOST 1048576: true; the input reads as it did. -/
def digestSplitUptoRow : OpenClaim := { program := "ytgbnngmpaefbcaadoor", sum := "4b1bd189c363f45c05783f756260a91c56d0cb113b0bccf67e0b067e18d6a7b3", func := "cleanroom/cleanroomlaw02.DigestSplit", spec := "digestSplit", inPlace := ["internal/abi.NoEscape", "internal/bytealg.MakeNoZero"], unfollowed := true, recurses := true, named := ["cleanroom/digest.round"], apart := false, laid := [("cleanroom/digest.round", laid_cleanroom_digest_round)], narrowed := true }
def DigestSplitUptoSaid : Prop := digestSplitUptoRow.holds Tryd.pinned (OpenSpec.upto digestSplitSpec)

/-- 'cleanroomlaw02.DigestSumMatchesReference', WHERE WHAT IT READS IS OF BULK AT MOST 1048576: true; the input reads as it did. -/
def digestSumMatchesReferenceUptoRow : OpenClaim := { program := "ytgbnngmpaefbcaadoor", sum := "4b1bd189c363f45c05783f756260a91c56d0cb113b0bccf67e0b067e18d6a7b3", func := "cleanroom/cleanroomlaw02.DigestSumMatchesReference", spec := "digestSumMatchesReference", inPlace := ["internal/abi.NoEscape", "internal/bytealg.MakeNoZero"], unfollowed := true, recurses := true, named := ["cleanroom/digest.round"], apart := false, laid := [("cleanroom/digest.round", laid_cleanroom_digest_round)], narrowed := true }
def DigestSumMatchesReferenceUptoSaid : Prop := digestSumMatchesReferenceUptoRow.holds Tryd.pinned (OpenSpec.upto digestSumMatchesReferenceSpec)

/-- 'cleanroomlaw02.DigestChainBinding', WHERE WHAT IT READS IS OF BULK AT MOST 1048576: true; the input reads as it did. -/
def digestChainBindingUptoRow : OpenClaim := { program := "ytgbnngmpaefbcaadoor", sum := "4b1bd189c363f45c05783f756260a91c56d0cb113b0bccf67e0b067e18d6a7b3", func := "cleanroom/cleanroomlaw02.DigestChainBinding", spec := "digestChainBinding", inPlace := ["internal/abi.NoEscape", "internal/bytealg.MakeNoZero"], unfollowed := true, recurses := true, named := ["cleanroom/digest.round"], apart := false, laid := [("cleanroom/digest.round", laid_cleanroom_digest_round)], narrowed := true }
def DigestChainBindingUptoSaid : Prop := digestChainBindingUptoRow.holds Tryd.pinned (OpenSpec.upto digestChainBindingSpec)

end Rows
end Go.Proofs.YtgbnngmpaefbcaaDoor
