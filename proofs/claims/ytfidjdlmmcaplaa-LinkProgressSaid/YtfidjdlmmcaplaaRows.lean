/-
  No cell of these rows narrows 'for every input' (looked for: loops, veiled, ifaces, maps, wideKeys, modest, calm, conditions, laid).
  DERIVED. THE GIVEN ROWS OF THIS SEAT. 9 by the template 'for every input the law returns true; each argument reads behind the call as it read before'; 0 by the template 'total and deterministic' (their statements: YtfidjdlmmcaplaaTotals.lean).
  GIVEN WITH THE SEED: the statements are not yours to turn. If you find one false, say at which input.
  Laid BY PROGRAM, IN A SANDBOX (cutbox-rows.mjs): the forced cells as the released guide's own fill.sh prints them over the translation 1e6064e4c86b2f30… (all of the seat's roots in one cut). By AI agents, Wed Nov 11 2026. No macro, syntax, notation, axiom, sorry.
-/
import Derived.Test.YtfidjdlmmcaplaaChecked
import GoSem.Claim
import GoSem.ClaimJoined
import GoSem.ClaimMapViews
import Derived.JoinedTies
import Derived.KernelRfl
namespace Go.Proofs.Ytfidjdlmmcaplaa
/- THE CELL 'sum', in the pinned program and in every row, IS THE sha256 OF THE DUMP (.gsa) THAT YtfidjdlmmcaplaaProg.lean LOADS. Nothing in Lean hashes anything: it is a label: what it is worth is what the hold of that sum in a sandbox is worth. -/
noncomputable def Try.pinned : Pinned := { name := "ytfidjdlmmcaplaa", sum := "1e6064e4c86b2f30ccb5c63da8331382f1a61f962d5ee61d332b7b7813c9392a", checked := Try.checked }
namespace Rows
def none {H : Type} : Left H := { results := [], args := [] }

/-- 'cleanroomlaw26.LinkMatchesReference': WHATEVER THE INPUT: true; the input reads as it did. -/
def linkMatchesReferenceSpec : ChangeSpec := { name := "linkMatchesReference", fn := fun _ => fun
  | [d1, d2] => { results := [.lit (.bool true)], args := [d1, d2] }
  | _ => none }
def linkMatchesReferenceRow : OpenClaim := { program := "ytfidjdlmmcaplaa", sum := "1e6064e4c86b2f30ccb5c63da8331382f1a61f962d5ee61d332b7b7813c9392a", func := "cleanroom/cleanroomlaw26.LinkMatchesReference", spec := "linkMatchesReference", unfollowed := true, recurses := true, apart := false }
def LinkMatchesReferenceSaid : Prop := linkMatchesReferenceRow.holds Try.pinned (OpenSpec.ofChange linkMatchesReferenceSpec)

/-- ITS FALSE NEIGHBOUR: 'it returns false'. Refute it at one input. -/
def linkMatchesReferenceWrong : ChangeSpec := { name := "linkMatchesReference", fn := fun _ => fun
  | [d1, d2] => { results := [.lit (.bool false)], args := [d1, d2] }
  | _ => none }
def LinkMatchesReferenceWrongFalsely : Prop := linkMatchesReferenceRow.holds Try.pinned (OpenSpec.ofChange linkMatchesReferenceWrong)

/-- 'cleanroomlaw26.LinkFramesMatchReference': WHATEVER THE INPUT: true; the input reads as it did. -/
def linkFramesMatchReferenceSpec : ChangeSpec := { name := "linkFramesMatchReference", fn := fun _ => fun
  | [d1, d2] => { results := [.lit (.bool true)], args := [d1, d2] }
  | _ => none }
def linkFramesMatchReferenceRow : OpenClaim := { program := "ytfidjdlmmcaplaa", sum := "1e6064e4c86b2f30ccb5c63da8331382f1a61f962d5ee61d332b7b7813c9392a", func := "cleanroom/cleanroomlaw26.LinkFramesMatchReference", spec := "linkFramesMatchReference", unfollowed := true, recurses := true, apart := false }
def LinkFramesMatchReferenceSaid : Prop := linkFramesMatchReferenceRow.holds Try.pinned (OpenSpec.ofChange linkFramesMatchReferenceSpec)

/-- ITS FALSE NEIGHBOUR: 'it returns false'. Refute it at one input. -/
def linkFramesMatchReferenceWrong : ChangeSpec := { name := "linkFramesMatchReference", fn := fun _ => fun
  | [d1, d2] => { results := [.lit (.bool false)], args := [d1, d2] }
  | _ => none }
def LinkFramesMatchReferenceWrongFalsely : Prop := linkFramesMatchReferenceRow.holds Try.pinned (OpenSpec.ofChange linkFramesMatchReferenceWrong)

/-- 'cleanroomlaw26.LinkRoundTrip': WHATEVER THE INPUT: true; the input reads as it did. -/
def linkRoundTripSpec : ChangeSpec := { name := "linkRoundTrip", fn := fun _ => fun
  | [d1, d2] => { results := [.lit (.bool true)], args := [d1, d2] }
  | _ => none }
def linkRoundTripRow : OpenClaim := { program := "ytfidjdlmmcaplaa", sum := "1e6064e4c86b2f30ccb5c63da8331382f1a61f962d5ee61d332b7b7813c9392a", func := "cleanroom/cleanroomlaw26.LinkRoundTrip", spec := "linkRoundTrip", unfollowed := true, recurses := true, apart := false }
def LinkRoundTripSaid : Prop := linkRoundTripRow.holds Try.pinned (OpenSpec.ofChange linkRoundTripSpec)

/-- ITS FALSE NEIGHBOUR: 'it returns false'. Refute it at one input. -/
def linkRoundTripWrong : ChangeSpec := { name := "linkRoundTrip", fn := fun _ => fun
  | [d1, d2] => { results := [.lit (.bool false)], args := [d1, d2] }
  | _ => none }
def LinkRoundTripWrongFalsely : Prop := linkRoundTripRow.holds Try.pinned (OpenSpec.ofChange linkRoundTripWrong)

/-- 'cleanroomlaw26.LinkExactlyOnce': WHATEVER THE INPUT: true; the input reads as it did. -/
def linkExactlyOnceSpec : ChangeSpec := { name := "linkExactlyOnce", fn := fun _ => fun
  | [d] => { results := [.lit (.bool true)], args := [d] }
  | _ => none }
def linkExactlyOnceRow : OpenClaim := { program := "ytfidjdlmmcaplaa", sum := "1e6064e4c86b2f30ccb5c63da8331382f1a61f962d5ee61d332b7b7813c9392a", func := "cleanroom/cleanroomlaw26.LinkExactlyOnce", spec := "linkExactlyOnce", unfollowed := true, recurses := true, apart := false }
def LinkExactlyOnceSaid : Prop := linkExactlyOnceRow.holds Try.pinned (OpenSpec.ofChange linkExactlyOnceSpec)

/-- ITS FALSE NEIGHBOUR: 'it returns false'. Refute it at one input. -/
def linkExactlyOnceWrong : ChangeSpec := { name := "linkExactlyOnce", fn := fun _ => fun
  | [d] => { results := [.lit (.bool false)], args := [d] }
  | _ => none }
def LinkExactlyOnceWrongFalsely : Prop := linkExactlyOnceRow.holds Try.pinned (OpenSpec.ofChange linkExactlyOnceWrong)

/-- 'cleanroomlaw26.LinkProgress': WHATEVER THE INPUT: true; the input reads as it did. -/
def linkProgressSpec : ChangeSpec := { name := "linkProgress", fn := fun _ => fun
  | [d] => { results := [.lit (.bool true)], args := [d] }
  | _ => none }
def linkProgressRow : OpenClaim := { program := "ytfidjdlmmcaplaa", sum := "1e6064e4c86b2f30ccb5c63da8331382f1a61f962d5ee61d332b7b7813c9392a", func := "cleanroom/cleanroomlaw26.LinkProgress", spec := "linkProgress", unfollowed := true, recurses := true, apart := false }
def LinkProgressSaid : Prop := linkProgressRow.holds Try.pinned (OpenSpec.ofChange linkProgressSpec)

/-- ITS FALSE NEIGHBOUR: 'it returns false'. Refute it at one input. -/
def linkProgressWrong : ChangeSpec := { name := "linkProgress", fn := fun _ => fun
  | [d] => { results := [.lit (.bool false)], args := [d] }
  | _ => none }
def LinkProgressWrongFalsely : Prop := linkProgressRow.holds Try.pinned (OpenSpec.ofChange linkProgressWrong)

/-- 'cleanroomlaw26.LinkWindow': WHATEVER THE INPUT: true; the input reads as it did. -/
def linkWindowSpec : ChangeSpec := { name := "linkWindow", fn := fun _ => fun
  | [d1, d2, d3] => { results := [.lit (.bool true)], args := [d1, d2, d3] }
  | _ => none }
def linkWindowRow : OpenClaim := { program := "ytfidjdlmmcaplaa", sum := "1e6064e4c86b2f30ccb5c63da8331382f1a61f962d5ee61d332b7b7813c9392a", func := "cleanroom/cleanroomlaw26.LinkWindow", spec := "linkWindow", unfollowed := true, recurses := true, apart := false }
def LinkWindowSaid : Prop := linkWindowRow.holds Try.pinned (OpenSpec.ofChange linkWindowSpec)

/-- ITS FALSE NEIGHBOUR: 'it returns false'. Refute it at one input. -/
def linkWindowWrong : ChangeSpec := { name := "linkWindow", fn := fun _ => fun
  | [d1, d2, d3] => { results := [.lit (.bool false)], args := [d1, d2, d3] }
  | _ => none }
def LinkWindowWrongFalsely : Prop := linkWindowRow.holds Try.pinned (OpenSpec.ofChange linkWindowWrong)

/-- 'cleanroomlaw26.LinkLost': WHATEVER THE INPUT: true; the input reads as it did. -/
def linkLostSpec : ChangeSpec := { name := "linkLost", fn := fun _ => fun
  | [d1, d2, d3] => { results := [.lit (.bool true)], args := [d1, d2, d3] }
  | _ => none }
def linkLostRow : OpenClaim := { program := "ytfidjdlmmcaplaa", sum := "1e6064e4c86b2f30ccb5c63da8331382f1a61f962d5ee61d332b7b7813c9392a", func := "cleanroom/cleanroomlaw26.LinkLost", spec := "linkLost", unfollowed := true, recurses := true, apart := false }
def LinkLostSaid : Prop := linkLostRow.holds Try.pinned (OpenSpec.ofChange linkLostSpec)

/-- ITS FALSE NEIGHBOUR: 'it returns false'. Refute it at one input. -/
def linkLostWrong : ChangeSpec := { name := "linkLost", fn := fun _ => fun
  | [d1, d2, d3] => { results := [.lit (.bool false)], args := [d1, d2, d3] }
  | _ => none }
def LinkLostWrongFalsely : Prop := linkLostRow.holds Try.pinned (OpenSpec.ofChange linkLostWrong)

/-- 'cleanroomlaw26.LinkFormer': WHATEVER THE INPUT: true; the input reads as it did. -/
def linkFormerSpec : ChangeSpec := { name := "linkFormer", fn := fun _ => fun
  | [d1, d2] => { results := [.lit (.bool true)], args := [d1, d2] }
  | _ => none }
def linkFormerRow : OpenClaim := { program := "ytfidjdlmmcaplaa", sum := "1e6064e4c86b2f30ccb5c63da8331382f1a61f962d5ee61d332b7b7813c9392a", func := "cleanroom/cleanroomlaw26.LinkFormer", spec := "linkFormer", unfollowed := true, recurses := true, apart := false }
def LinkFormerSaid : Prop := linkFormerRow.holds Try.pinned (OpenSpec.ofChange linkFormerSpec)

/-- ITS FALSE NEIGHBOUR: 'it returns false'. Refute it at one input. -/
def linkFormerWrong : ChangeSpec := { name := "linkFormer", fn := fun _ => fun
  | [d1, d2] => { results := [.lit (.bool false)], args := [d1, d2] }
  | _ => none }
def LinkFormerWrongFalsely : Prop := linkFormerRow.holds Try.pinned (OpenSpec.ofChange linkFormerWrong)

/-- 'cleanroomlaw26.LinkRefuses': WHATEVER THE INPUT: true; the input reads as it did. -/
def linkRefusesSpec : ChangeSpec := { name := "linkRefuses", fn := fun _ => fun
  | [d1, d2, d3] => { results := [.lit (.bool true)], args := [d1, d2, d3] }
  | _ => none }
def linkRefusesRow : OpenClaim := { program := "ytfidjdlmmcaplaa", sum := "1e6064e4c86b2f30ccb5c63da8331382f1a61f962d5ee61d332b7b7813c9392a", func := "cleanroom/cleanroomlaw26.LinkRefuses", spec := "linkRefuses", unfollowed := true, recurses := true, apart := false }
def LinkRefusesSaid : Prop := linkRefusesRow.holds Try.pinned (OpenSpec.ofChange linkRefusesSpec)

/-- ITS FALSE NEIGHBOUR: 'it returns false'. Refute it at one input. -/
def linkRefusesWrong : ChangeSpec := { name := "linkRefuses", fn := fun _ => fun
  | [d1, d2, d3] => { results := [.lit (.bool false)], args := [d1, d2, d3] }
  | _ => none }
def LinkRefusesWrongFalsely : Prop := linkRefusesRow.holds Try.pinned (OpenSpec.ofChange linkRefusesWrong)

/- THE SECOND FORM. 'bulk': how many values and letters a reading holds, each counted each time it is reached (what is shared counts as often as it is met; a slice's spare places count too). A statement '..UptoSaid' is the law's where the arguments, and the package variables that the reading takes, are together of bulk at most 1048576: NARROWER than '..Said'. Prove '..Said' where nothing that the law and all that it calls make is longer than what came in: it says more and counts as full. Else prove '..UptoSaid'. A law counts once. -/
mutual
def uptoBulk {H : Type} : DataW H → Nat
  | .lit (.string bytes) => bytes.length + 1
  | .lit _ => 1
  | .nil => 1
  | .ptr d => uptoBulk d + 1
  | .slice elems spare => uptoBulkAll elems + uptoBulkAll spare + 1
  | .agg parts => uptoBulkAll parts + 1
  | .iface _ d => uptoBulk d + 1
  | .map entries => uptoBulkEntries entries + 1
  | .held _ => 1
def uptoBulkAll {H : Type} : List (DataW H) → Nat
  | [] => 0
  | d :: r => uptoBulk d + uptoBulkAll r
def uptoBulkEntries {H : Type} : List (Lit × DataW H) → Nat
  | [] => 0
  | x :: r => uptoBulkEntry x + uptoBulkEntries r
def uptoBulkEntry {H : Type} : Lit × DataW H → Nat
  | (.string bytes, d) => bytes.length + uptoBulk d + 1
  | (_, d) => uptoBulk d + 1
 end
def uptoSmall : (H : Type) → List (DataW H) → Bool := fun _ ds => decide (uptoBulkAll ds ≤ 1048576)
def OpenSpec.upto (s : _root_.Go.ChangeSpec) : _root_.Go.OpenSpec := { _root_.Go.OpenSpec.ofChange s with cond := some uptoSmall }

/-- 'cleanroomlaw26.LinkMatchesReference', WHERE WHAT IT READS IS OF BULK AT MOST 1048576: true; the input reads as it did. -/
def linkMatchesReferenceUptoRow : OpenClaim := { program := "ytfidjdlmmcaplaa", sum := "1e6064e4c86b2f30ccb5c63da8331382f1a61f962d5ee61d332b7b7813c9392a", func := "cleanroom/cleanroomlaw26.LinkMatchesReference", spec := "linkMatchesReference", unfollowed := true, recurses := true, apart := false, narrowed := true }
def LinkMatchesReferenceUptoSaid : Prop := linkMatchesReferenceUptoRow.holds Try.pinned (OpenSpec.upto linkMatchesReferenceSpec)

/-- 'cleanroomlaw26.LinkFramesMatchReference', WHERE WHAT IT READS IS OF BULK AT MOST 1048576: true; the input reads as it did. -/
def linkFramesMatchReferenceUptoRow : OpenClaim := { program := "ytfidjdlmmcaplaa", sum := "1e6064e4c86b2f30ccb5c63da8331382f1a61f962d5ee61d332b7b7813c9392a", func := "cleanroom/cleanroomlaw26.LinkFramesMatchReference", spec := "linkFramesMatchReference", unfollowed := true, recurses := true, apart := false, narrowed := true }
def LinkFramesMatchReferenceUptoSaid : Prop := linkFramesMatchReferenceUptoRow.holds Try.pinned (OpenSpec.upto linkFramesMatchReferenceSpec)

/-- 'cleanroomlaw26.LinkRoundTrip', WHERE WHAT IT READS IS OF BULK AT MOST 1048576: true; the input reads as it did. -/
def linkRoundTripUptoRow : OpenClaim := { program := "ytfidjdlmmcaplaa", sum := "1e6064e4c86b2f30ccb5c63da8331382f1a61f962d5ee61d332b7b7813c9392a", func := "cleanroom/cleanroomlaw26.LinkRoundTrip", spec := "linkRoundTrip", unfollowed := true, recurses := true, apart := false, narrowed := true }
def LinkRoundTripUptoSaid : Prop := linkRoundTripUptoRow.holds Try.pinned (OpenSpec.upto linkRoundTripSpec)

/-- 'cleanroomlaw26.LinkExactlyOnce', WHERE WHAT IT READS IS OF BULK AT MOST 1048576: true; the input reads as it did. -/
def linkExactlyOnceUptoRow : OpenClaim := { program := "ytfidjdlmmcaplaa", sum := "1e6064e4c86b2f30ccb5c63da8331382f1a61f962d5ee61d332b7b7813c9392a", func := "cleanroom/cleanroomlaw26.LinkExactlyOnce", spec := "linkExactlyOnce", unfollowed := true, recurses := true, apart := false, narrowed := true }
def LinkExactlyOnceUptoSaid : Prop := linkExactlyOnceUptoRow.holds Try.pinned (OpenSpec.upto linkExactlyOnceSpec)

/-- 'cleanroomlaw26.LinkProgress', WHERE WHAT IT READS IS OF BULK AT MOST 1048576: true; the input reads as it did. -/
def linkProgressUptoRow : OpenClaim := { program := "ytfidjdlmmcaplaa", sum := "1e6064e4c86b2f30ccb5c63da8331382f1a61f962d5ee61d332b7b7813c9392a", func := "cleanroom/cleanroomlaw26.LinkProgress", spec := "linkProgress", unfollowed := true, recurses := true, apart := false, narrowed := true }
def LinkProgressUptoSaid : Prop := linkProgressUptoRow.holds Try.pinned (OpenSpec.upto linkProgressSpec)

/-- 'cleanroomlaw26.LinkWindow', WHERE WHAT IT READS IS OF BULK AT MOST 1048576: true; the input reads as it did. -/
def linkWindowUptoRow : OpenClaim := { program := "ytfidjdlmmcaplaa", sum := "1e6064e4c86b2f30ccb5c63da8331382f1a61f962d5ee61d332b7b7813c9392a", func := "cleanroom/cleanroomlaw26.LinkWindow", spec := "linkWindow", unfollowed := true, recurses := true, apart := false, narrowed := true }
def LinkWindowUptoSaid : Prop := linkWindowUptoRow.holds Try.pinned (OpenSpec.upto linkWindowSpec)

/-- 'cleanroomlaw26.LinkLost', WHERE WHAT IT READS IS OF BULK AT MOST 1048576: true; the input reads as it did. -/
def linkLostUptoRow : OpenClaim := { program := "ytfidjdlmmcaplaa", sum := "1e6064e4c86b2f30ccb5c63da8331382f1a61f962d5ee61d332b7b7813c9392a", func := "cleanroom/cleanroomlaw26.LinkLost", spec := "linkLost", unfollowed := true, recurses := true, apart := false, narrowed := true }
def LinkLostUptoSaid : Prop := linkLostUptoRow.holds Try.pinned (OpenSpec.upto linkLostSpec)

/-- 'cleanroomlaw26.LinkFormer', WHERE WHAT IT READS IS OF BULK AT MOST 1048576: true; the input reads as it did. -/
def linkFormerUptoRow : OpenClaim := { program := "ytfidjdlmmcaplaa", sum := "1e6064e4c86b2f30ccb5c63da8331382f1a61f962d5ee61d332b7b7813c9392a", func := "cleanroom/cleanroomlaw26.LinkFormer", spec := "linkFormer", unfollowed := true, recurses := true, apart := false, narrowed := true }
def LinkFormerUptoSaid : Prop := linkFormerUptoRow.holds Try.pinned (OpenSpec.upto linkFormerSpec)

/-- 'cleanroomlaw26.LinkRefuses', WHERE WHAT IT READS IS OF BULK AT MOST 1048576: true; the input reads as it did. -/
def linkRefusesUptoRow : OpenClaim := { program := "ytfidjdlmmcaplaa", sum := "1e6064e4c86b2f30ccb5c63da8331382f1a61f962d5ee61d332b7b7813c9392a", func := "cleanroom/cleanroomlaw26.LinkRefuses", spec := "linkRefuses", unfollowed := true, recurses := true, apart := false, narrowed := true }
def LinkRefusesUptoSaid : Prop := linkRefusesUptoRow.holds Try.pinned (OpenSpec.upto linkRefusesSpec)

end Rows
end Go.Proofs.Ytfidjdlmmcaplaa
