/-
  No cell of these rows narrows 'for every input' (looked for: loops, veiled, ifaces, maps, wideKeys, modest, calm, conditions, laid).
  DERIVED. THE GIVEN ROWS OF THIS SEAT. 8 by the template 'for every input the law returns true; each argument reads behind the call as it read before'; 0 by the template 'total and deterministic' (their statements: YtemklhljjaniaaaTotals.lean).
  GIVEN WITH THE SEED: the statements are not yours to turn. If you find one false, say at which input.
  Laid BY PROGRAM, IN A SANDBOX (cutbox-rows.mjs): the forced cells as the released guide's own fill.sh prints them over the translation 8479bbd1f5384425… (all of the seat's roots in one cut). By AI agents, Wed Nov 11 2026. No macro, syntax, notation, axiom, sorry.
-/
import Derived.Test.YtemklhljjaniaaaChecked
import GoSem.Claim
import GoSem.ClaimJoined
import GoSem.ClaimMapViews
import Derived.JoinedTies
import Derived.KernelRfl
namespace Go.Proofs.Ytemklhljjaniaaa
/- THE CELL 'sum', in the pinned program and in every row, IS THE sha256 OF THE DUMP (.gsa) THAT YtemklhljjaniaaaProg.lean LOADS. Nothing in Lean hashes anything: it is a label: what it is worth is what the hold of that sum in a sandbox is worth. -/
noncomputable def Try.pinned : Pinned := { name := "ytemklhljjaniaaa", sum := "8479bbd1f53844256b51cdc034b70f881ee19529e14d79ce72a9e239da9aaf16", checked := Try.checked }
namespace Rows
def none {H : Type} : Left H := { results := [], args := [] }

/-- 'cleanroomlaw13.ClusterMatchesReference': WHATEVER THE INPUT: true; the input reads as it did. -/
def clusterMatchesReferenceSpec : ChangeSpec := { name := "clusterMatchesReference", fn := fun _ => fun
  | [d1, d2, d3, d4] => { results := [.lit (.bool true)], args := [d1, d2, d3, d4] }
  | _ => none }
def clusterMatchesReferenceRow : OpenClaim := { program := "ytemklhljjaniaaa", sum := "8479bbd1f53844256b51cdc034b70f881ee19529e14d79ce72a9e239da9aaf16", func := "cleanroom/cleanroomlaw13.ClusterMatchesReference", spec := "clusterMatchesReference", unfollowed := true, recurses := true, apart := false }
def ClusterMatchesReferenceSaid : Prop := clusterMatchesReferenceRow.holds Try.pinned (OpenSpec.ofChange clusterMatchesReferenceSpec)

/-- ITS FALSE NEIGHBOUR: 'it returns false'. Refute it at one input. -/
def clusterMatchesReferenceWrong : ChangeSpec := { name := "clusterMatchesReference", fn := fun _ => fun
  | [d1, d2, d3, d4] => { results := [.lit (.bool false)], args := [d1, d2, d3, d4] }
  | _ => none }
def ClusterMatchesReferenceWrongFalsely : Prop := clusterMatchesReferenceRow.holds Try.pinned (OpenSpec.ofChange clusterMatchesReferenceWrong)

/-- 'cleanroomlaw13.ClusterBestMatchesReference': WHATEVER THE INPUT: true; the input reads as it did. -/
def clusterBestMatchesReferenceSpec : ChangeSpec := { name := "clusterBestMatchesReference", fn := fun _ => fun
  | [d1, d2, d3, d4] => { results := [.lit (.bool true)], args := [d1, d2, d3, d4] }
  | _ => none }
def clusterBestMatchesReferenceRow : OpenClaim := { program := "ytemklhljjaniaaa", sum := "8479bbd1f53844256b51cdc034b70f881ee19529e14d79ce72a9e239da9aaf16", func := "cleanroom/cleanroomlaw13.ClusterBestMatchesReference", spec := "clusterBestMatchesReference", unfollowed := true, recurses := true, apart := false }
def ClusterBestMatchesReferenceSaid : Prop := clusterBestMatchesReferenceRow.holds Try.pinned (OpenSpec.ofChange clusterBestMatchesReferenceSpec)

/-- ITS FALSE NEIGHBOUR: 'it returns false'. Refute it at one input. -/
def clusterBestMatchesReferenceWrong : ChangeSpec := { name := "clusterBestMatchesReference", fn := fun _ => fun
  | [d1, d2, d3, d4] => { results := [.lit (.bool false)], args := [d1, d2, d3, d4] }
  | _ => none }
def ClusterBestMatchesReferenceWrongFalsely : Prop := clusterBestMatchesReferenceRow.holds Try.pinned (OpenSpec.ofChange clusterBestMatchesReferenceWrong)

/-- 'cleanroomlaw13.ClusterOptimal': WHATEVER THE INPUT: true; the input reads as it did. -/
def clusterOptimalSpec : ChangeSpec := { name := "clusterOptimal", fn := fun _ => fun
  | [d1, d2] => { results := [.lit (.bool true)], args := [d1, d2] }
  | _ => none }
def clusterOptimalRow : OpenClaim := { program := "ytemklhljjaniaaa", sum := "8479bbd1f53844256b51cdc034b70f881ee19529e14d79ce72a9e239da9aaf16", func := "cleanroom/cleanroomlaw13.ClusterOptimal", spec := "clusterOptimal", unfollowed := true, recurses := true, apart := false }
def ClusterOptimalSaid : Prop := clusterOptimalRow.holds Try.pinned (OpenSpec.ofChange clusterOptimalSpec)

/-- ITS FALSE NEIGHBOUR: 'it returns false'. Refute it at one input. -/
def clusterOptimalWrong : ChangeSpec := { name := "clusterOptimal", fn := fun _ => fun
  | [d1, d2] => { results := [.lit (.bool false)], args := [d1, d2] }
  | _ => none }
def ClusterOptimalWrongFalsely : Prop := clusterOptimalRow.holds Try.pinned (OpenSpec.ofChange clusterOptimalWrong)

/-- 'cleanroomlaw13.ClusterCarried': WHATEVER THE INPUT: true; the input reads as it did. -/
def clusterCarriedSpec : ChangeSpec := { name := "clusterCarried", fn := fun _ => fun
  | [d1, d2, d3] => { results := [.lit (.bool true)], args := [d1, d2, d3] }
  | _ => none }
def clusterCarriedRow : OpenClaim := { program := "ytemklhljjaniaaa", sum := "8479bbd1f53844256b51cdc034b70f881ee19529e14d79ce72a9e239da9aaf16", func := "cleanroom/cleanroomlaw13.ClusterCarried", spec := "clusterCarried", unfollowed := true, recurses := true, apart := false }
def ClusterCarriedSaid : Prop := clusterCarriedRow.holds Try.pinned (OpenSpec.ofChange clusterCarriedSpec)

/-- ITS FALSE NEIGHBOUR: 'it returns false'. Refute it at one input. -/
def clusterCarriedWrong : ChangeSpec := { name := "clusterCarried", fn := fun _ => fun
  | [d1, d2, d3] => { results := [.lit (.bool false)], args := [d1, d2, d3] }
  | _ => none }
def ClusterCarriedWrongFalsely : Prop := clusterCarriedRow.holds Try.pinned (OpenSpec.ofChange clusterCarriedWrong)

/-- 'cleanroomlaw13.ClusterProof': WHATEVER THE INPUT: true; the input reads as it did. -/
def clusterProofSpec : ChangeSpec := { name := "clusterProof", fn := fun _ => fun
  | [d1, d2, d3, d4, d5, d6] => { results := [.lit (.bool true)], args := [d1, d2, d3, d4, d5, d6] }
  | _ => none }
def clusterProofRow : OpenClaim := { program := "ytemklhljjaniaaa", sum := "8479bbd1f53844256b51cdc034b70f881ee19529e14d79ce72a9e239da9aaf16", func := "cleanroom/cleanroomlaw13.ClusterProof", spec := "clusterProof", unfollowed := true, recurses := true, apart := false }
def ClusterProofSaid : Prop := clusterProofRow.holds Try.pinned (OpenSpec.ofChange clusterProofSpec)

/-- ITS FALSE NEIGHBOUR: 'it returns false'. Refute it at one input. -/
def clusterProofWrong : ChangeSpec := { name := "clusterProof", fn := fun _ => fun
  | [d1, d2, d3, d4, d5, d6] => { results := [.lit (.bool false)], args := [d1, d2, d3, d4, d5, d6] }
  | _ => none }
def ClusterProofWrongFalsely : Prop := clusterProofRow.holds Try.pinned (OpenSpec.ofChange clusterProofWrong)

/-- 'cleanroomlaw13.ClusterStays': WHATEVER THE INPUT: true; the input reads as it did. -/
def clusterStaysSpec : ChangeSpec := { name := "clusterStays", fn := fun _ => fun
  | [d1, d2, d3] => { results := [.lit (.bool true)], args := [d1, d2, d3] }
  | _ => none }
def clusterStaysRow : OpenClaim := { program := "ytemklhljjaniaaa", sum := "8479bbd1f53844256b51cdc034b70f881ee19529e14d79ce72a9e239da9aaf16", func := "cleanroom/cleanroomlaw13.ClusterStays", spec := "clusterStays", unfollowed := true, recurses := true, apart := false }
def ClusterStaysSaid : Prop := clusterStaysRow.holds Try.pinned (OpenSpec.ofChange clusterStaysSpec)

/-- ITS FALSE NEIGHBOUR: 'it returns false'. Refute it at one input. -/
def clusterStaysWrong : ChangeSpec := { name := "clusterStays", fn := fun _ => fun
  | [d1, d2, d3] => { results := [.lit (.bool false)], args := [d1, d2, d3] }
  | _ => none }
def ClusterStaysWrongFalsely : Prop := clusterStaysRow.holds Try.pinned (OpenSpec.ofChange clusterStaysWrong)

/-- 'cleanroomlaw13.ClusterOne': WHATEVER THE INPUT: true; the input reads as it did. -/
def clusterOneSpec : ChangeSpec := { name := "clusterOne", fn := fun _ => fun
  | [d1, d2] => { results := [.lit (.bool true)], args := [d1, d2] }
  | _ => none }
def clusterOneRow : OpenClaim := { program := "ytemklhljjaniaaa", sum := "8479bbd1f53844256b51cdc034b70f881ee19529e14d79ce72a9e239da9aaf16", func := "cleanroom/cleanroomlaw13.ClusterOne", spec := "clusterOne", unfollowed := true, recurses := true, apart := false }
def ClusterOneSaid : Prop := clusterOneRow.holds Try.pinned (OpenSpec.ofChange clusterOneSpec)

/-- ITS FALSE NEIGHBOUR: 'it returns false'. Refute it at one input. -/
def clusterOneWrong : ChangeSpec := { name := "clusterOne", fn := fun _ => fun
  | [d1, d2] => { results := [.lit (.bool false)], args := [d1, d2] }
  | _ => none }
def ClusterOneWrongFalsely : Prop := clusterOneRow.holds Try.pinned (OpenSpec.ofChange clusterOneWrong)

/-- 'cleanroomlaw13.ClusterTwo': WHATEVER THE INPUT: true; the input reads as it did. -/
def clusterTwoSpec : ChangeSpec := { name := "clusterTwo", fn := fun _ => fun
  | [d1, d2] => { results := [.lit (.bool true)], args := [d1, d2] }
  | _ => none }
def clusterTwoRow : OpenClaim := { program := "ytemklhljjaniaaa", sum := "8479bbd1f53844256b51cdc034b70f881ee19529e14d79ce72a9e239da9aaf16", func := "cleanroom/cleanroomlaw13.ClusterTwo", spec := "clusterTwo", unfollowed := true, recurses := true, apart := false }
def ClusterTwoSaid : Prop := clusterTwoRow.holds Try.pinned (OpenSpec.ofChange clusterTwoSpec)

/-- ITS FALSE NEIGHBOUR: 'it returns false'. Refute it at one input. -/
def clusterTwoWrong : ChangeSpec := { name := "clusterTwo", fn := fun _ => fun
  | [d1, d2] => { results := [.lit (.bool false)], args := [d1, d2] }
  | _ => none }
def ClusterTwoWrongFalsely : Prop := clusterTwoRow.holds Try.pinned (OpenSpec.ofChange clusterTwoWrong)

/- THE SECOND FORM. 'bulk': how many values and letters a reading holds, each counted each time it is reached (what is shared counts as often as it is met; a slice's spare places count too). A statement '..UptoSaid' is the law's where the arguments, and the package variables that the reading takes, are together of bulk at most 1048576: NARROWER than '..Said'. Prove '..Said' where nothing that the law and all that it calls make is longer than what came in: it says more and counts as full. Else prove '..UptoSaid'. A law counts once. -/
mutual
def uptoBulk {H : Type} : DataW H → Nat
  | .lit (.string bytes) => bytes.length + 1
  | .lit _ => 1
  | .nil => 1
  | .ptr d => uptoBulk d + 1
  | .slice elems spare => uptoBulkAll elems + uptoBulkAll spare + 1
  | .agg parts => uptoBulkAll parts + 1
  | .iface _ d => uptoBulk d + 1
  | .map entries => uptoBulkEntries entries + 1
  | .held _ => 1
def uptoBulkAll {H : Type} : List (DataW H) → Nat
  | [] => 0
  | d :: r => uptoBulk d + uptoBulkAll r
def uptoBulkEntries {H : Type} : List (Lit × DataW H) → Nat
  | [] => 0
  | x :: r => uptoBulkEntry x + uptoBulkEntries r
def uptoBulkEntry {H : Type} : Lit × DataW H → Nat
  | (.string bytes, d) => bytes.length + uptoBulk d + 1
  | (_, d) => uptoBulk d + 1
 end
def uptoSmall : (H : Type) → List (DataW H) → Bool := fun _ ds => decide (uptoBulkAll ds ≤ 1048576)
def OpenSpec.upto (s : _root_.Go.ChangeSpec) : _root_.Go.OpenSpec := { _root_.Go.OpenSpec.ofChange s with cond := some uptoSmall }

/-- 'cleanroomlaw13.ClusterMatchesReference', WHERE WHAT IT READS IS OF BULK AT MOST 1048576: true; the input reads as it did. -/
def clusterMatchesReferenceUptoRow : OpenClaim := { program := "ytemklhljjaniaaa", sum := "8479bbd1f53844256b51cdc034b70f881ee19529e14d79ce72a9e239da9aaf16", func := "cleanroom/cleanroomlaw13.ClusterMatchesReference", spec := "clusterMatchesReference", unfollowed := true, recurses := true, apart := false, narrowed := true }
def ClusterMatchesReferenceUptoSaid : Prop := clusterMatchesReferenceUptoRow.holds Try.pinned (OpenSpec.upto clusterMatchesReferenceSpec)

/-- 'cleanroomlaw13.ClusterBestMatchesReference', WHERE WHAT IT READS IS OF BULK AT MOST 1048576: true; the input reads as it did. -/
def clusterBestMatchesReferenceUptoRow : OpenClaim := { program := "ytemklhljjaniaaa", sum := "8479bbd1f53844256b51cdc034b70f881ee19529e14d79ce72a9e239da9aaf16", func := "cleanroom/cleanroomlaw13.ClusterBestMatchesReference", spec := "clusterBestMatchesReference", unfollowed := true, recurses := true, apart := false, narrowed := true }
def ClusterBestMatchesReferenceUptoSaid : Prop := clusterBestMatchesReferenceUptoRow.holds Try.pinned (OpenSpec.upto clusterBestMatchesReferenceSpec)

/-- 'cleanroomlaw13.ClusterOptimal', WHERE WHAT IT READS IS OF BULK AT MOST 1048576: true; the input reads as it did. -/
def clusterOptimalUptoRow : OpenClaim := { program := "ytemklhljjaniaaa", sum := "8479bbd1f53844256b51cdc034b70f881ee19529e14d79ce72a9e239da9aaf16", func := "cleanroom/cleanroomlaw13.ClusterOptimal", spec := "clusterOptimal", unfollowed := true, recurses := true, apart := false, narrowed := true }
def ClusterOptimalUptoSaid : Prop := clusterOptimalUptoRow.holds Try.pinned (OpenSpec.upto clusterOptimalSpec)

/-- 'cleanroomlaw13.ClusterCarried', WHERE WHAT IT READS IS OF BULK AT MOST 1048576: true; the input reads as it did. -/
def clusterCarriedUptoRow : OpenClaim := { program := "ytemklhljjaniaaa", sum := "8479bbd1f53844256b51cdc034b70f881ee19529e14d79ce72a9e239da9aaf16", func := "cleanroom/cleanroomlaw13.ClusterCarried", spec := "clusterCarried", unfollowed := true, recurses := true, apart := false, narrowed := true }
def ClusterCarriedUptoSaid : Prop := clusterCarriedUptoRow.holds Try.pinned (OpenSpec.upto clusterCarriedSpec)

/-- 'cleanroomlaw13.ClusterProof', WHERE WHAT IT READS IS OF BULK AT MOST 1048576: true; the input reads as it did. -/
def clusterProofUptoRow : OpenClaim := { program := "ytemklhljjaniaaa", sum := "8479bbd1f53844256b51cdc034b70f881ee19529e14d79ce72a9e239da9aaf16", func := "cleanroom/cleanroomlaw13.ClusterProof", spec := "clusterProof", unfollowed := true, recurses := true, apart := false, narrowed := true }
def ClusterProofUptoSaid : Prop := clusterProofUptoRow.holds Try.pinned (OpenSpec.upto clusterProofSpec)

/-- 'cleanroomlaw13.ClusterStays', WHERE WHAT IT READS IS OF BULK AT MOST 1048576: true; the input reads as it did. -/
def clusterStaysUptoRow : OpenClaim := { program := "ytemklhljjaniaaa", sum := "8479bbd1f53844256b51cdc034b70f881ee19529e14d79ce72a9e239da9aaf16", func := "cleanroom/cleanroomlaw13.ClusterStays", spec := "clusterStays", unfollowed := true, recurses := true, apart := false, narrowed := true }
def ClusterStaysUptoSaid : Prop := clusterStaysUptoRow.holds Try.pinned (OpenSpec.upto clusterStaysSpec)

/-- 'cleanroomlaw13.ClusterOne', WHERE WHAT IT READS IS OF BULK AT MOST 1048576: true; the input reads as it did. -/
def clusterOneUptoRow : OpenClaim := { program := "ytemklhljjaniaaa", sum := "8479bbd1f53844256b51cdc034b70f881ee19529e14d79ce72a9e239da9aaf16", func := "cleanroom/cleanroomlaw13.ClusterOne", spec := "clusterOne", unfollowed := true, recurses := true, apart := false, narrowed := true }
def ClusterOneUptoSaid : Prop := clusterOneUptoRow.holds Try.pinned (OpenSpec.upto clusterOneSpec)

/-- 'cleanroomlaw13.ClusterTwo', WHERE WHAT IT READS IS OF BULK AT MOST 1048576: true; the input reads as it did. -/
def clusterTwoUptoRow : OpenClaim := { program := "ytemklhljjaniaaa", sum := "8479bbd1f53844256b51cdc034b70f881ee19529e14d79ce72a9e239da9aaf16", func := "cleanroom/cleanroomlaw13.ClusterTwo", spec := "clusterTwo", unfollowed := true, recurses := true, apart := false, narrowed := true }
def ClusterTwoUptoSaid : Prop := clusterTwoUptoRow.holds Try.pinned (OpenSpec.upto clusterTwoSpec)

end Rows
end Go.Proofs.Ytemklhljjaniaaa
