/-
  No cell of these rows narrows 'for every input' (looked for: loops, veiled, ifaces, maps, wideKeys, modest, calm, conditions, laid).
  DERIVED. THE GIVEN ROWS OF THIS SEAT. 8 by the template 'for every input the law returns true; each argument reads behind the call as it read before'; 0 by the template 'total and deterministic' (their statements: YtfmlfekcdbfioaaTotals.lean).
  GIVEN WITH THE SEED: the statements are not yours to turn. If you find one false, say at which input.
  Laid BY PROGRAM, IN A SANDBOX (cutbox-rows.mjs): the forced cells as the released guide's own fill.sh prints them over the translation dc5e91698f9d7838… (all of the seat's roots in one cut). By AI agents, Wed Nov 11 2026. No macro, syntax, notation, axiom, sorry.
-/
import Derived.Test.YtfmlfekcdbfioaaChecked
import GoSem.Claim
import GoSem.ClaimJoined
import GoSem.ClaimMapViews
import Derived.JoinedTies
import Derived.KernelRfl
namespace Go.Proofs.Ytfmlfekcdbfioaa
/- THE CELL 'sum', in the pinned program and in every row, IS THE sha256 OF THE DUMP (.gsa) THAT YtfmlfekcdbfioaaProg.lean LOADS. Nothing in Lean hashes anything: it is a label: what it is worth is what the hold of that sum in a sandbox is worth. -/
noncomputable def Try.pinned : Pinned := { name := "ytfmlfekcdbfioaa", sum := "dc5e91698f9d783867318ae790a7aa8317f01617f25ab9b4b34c8fb1a4a8fed9", checked := Try.checked }
namespace Rows
def none {H : Type} : Left H := { results := [], args := [] }

/-- 'cleanroomlaw12.CycleMatchesReference': WHATEVER THE INPUT: true; the input reads as it did. -/
def cycleMatchesReferenceSpec : ChangeSpec := { name := "cycleMatchesReference", fn := fun _ => fun
  | [d1, d2, d3, d4, d5] => { results := [.lit (.bool true)], args := [d1, d2, d3, d4, d5] }
  | _ => none }
def cycleMatchesReferenceRow : OpenClaim := { program := "ytfmlfekcdbfioaa", sum := "dc5e91698f9d783867318ae790a7aa8317f01617f25ab9b4b34c8fb1a4a8fed9", func := "cleanroom/cleanroomlaw12.CycleMatchesReference", spec := "cycleMatchesReference", unfollowed := true, recurses := true, apart := false }
def CycleMatchesReferenceSaid : Prop := cycleMatchesReferenceRow.holds Try.pinned (OpenSpec.ofChange cycleMatchesReferenceSpec)

/-- ITS FALSE NEIGHBOUR: 'it returns false'. Refute it at one input. -/
def cycleMatchesReferenceWrong : ChangeSpec := { name := "cycleMatchesReference", fn := fun _ => fun
  | [d1, d2, d3, d4, d5] => { results := [.lit (.bool false)], args := [d1, d2, d3, d4, d5] }
  | _ => none }
def CycleMatchesReferenceWrongFalsely : Prop := cycleMatchesReferenceRow.holds Try.pinned (OpenSpec.ofChange cycleMatchesReferenceWrong)

/-- 'cleanroomlaw12.CycleSmallestMatchesReference': WHATEVER THE INPUT: true; the input reads as it did. -/
def cycleSmallestMatchesReferenceSpec : ChangeSpec := { name := "cycleSmallestMatchesReference", fn := fun _ => fun
  | [d1, d2, d3, d4] => { results := [.lit (.bool true)], args := [d1, d2, d3, d4] }
  | _ => none }
def cycleSmallestMatchesReferenceRow : OpenClaim := { program := "ytfmlfekcdbfioaa", sum := "dc5e91698f9d783867318ae790a7aa8317f01617f25ab9b4b34c8fb1a4a8fed9", func := "cleanroom/cleanroomlaw12.CycleSmallestMatchesReference", spec := "cycleSmallestMatchesReference", unfollowed := true, recurses := true, apart := false }
def CycleSmallestMatchesReferenceSaid : Prop := cycleSmallestMatchesReferenceRow.holds Try.pinned (OpenSpec.ofChange cycleSmallestMatchesReferenceSpec)

/-- ITS FALSE NEIGHBOUR: 'it returns false'. Refute it at one input. -/
def cycleSmallestMatchesReferenceWrong : ChangeSpec := { name := "cycleSmallestMatchesReference", fn := fun _ => fun
  | [d1, d2, d3, d4] => { results := [.lit (.bool false)], args := [d1, d2, d3, d4] }
  | _ => none }
def CycleSmallestMatchesReferenceWrongFalsely : Prop := cycleSmallestMatchesReferenceRow.holds Try.pinned (OpenSpec.ofChange cycleSmallestMatchesReferenceWrong)

/-- 'cleanroomlaw12.CycleDual': WHATEVER THE INPUT: true; the input reads as it did. -/
def cycleDualSpec : ChangeSpec := { name := "cycleDual", fn := fun _ => fun
  | [d1, d2, d3, d4] => { results := [.lit (.bool true)], args := [d1, d2, d3, d4] }
  | _ => none }
def cycleDualRow : OpenClaim := { program := "ytfmlfekcdbfioaa", sum := "dc5e91698f9d783867318ae790a7aa8317f01617f25ab9b4b34c8fb1a4a8fed9", func := "cleanroom/cleanroomlaw12.CycleDual", spec := "cycleDual", unfollowed := true, recurses := true, apart := false }
def CycleDualSaid : Prop := cycleDualRow.holds Try.pinned (OpenSpec.ofChange cycleDualSpec)

/-- ITS FALSE NEIGHBOUR: 'it returns false'. Refute it at one input. -/
def cycleDualWrong : ChangeSpec := { name := "cycleDual", fn := fun _ => fun
  | [d1, d2, d3, d4] => { results := [.lit (.bool false)], args := [d1, d2, d3, d4] }
  | _ => none }
def CycleDualWrongFalsely : Prop := cycleDualRow.holds Try.pinned (OpenSpec.ofChange cycleDualWrong)

/-- 'cleanroomlaw12.CycleLeast': WHATEVER THE INPUT: true; the input reads as it did. -/
def cycleLeastSpec : ChangeSpec := { name := "cycleLeast", fn := fun _ => fun
  | [d1, d2, d3, d4, d5] => { results := [.lit (.bool true)], args := [d1, d2, d3, d4, d5] }
  | _ => none }
def cycleLeastRow : OpenClaim := { program := "ytfmlfekcdbfioaa", sum := "dc5e91698f9d783867318ae790a7aa8317f01617f25ab9b4b34c8fb1a4a8fed9", func := "cleanroom/cleanroomlaw12.CycleLeast", spec := "cycleLeast", unfollowed := true, recurses := true, apart := false }
def CycleLeastSaid : Prop := cycleLeastRow.holds Try.pinned (OpenSpec.ofChange cycleLeastSpec)

/-- ITS FALSE NEIGHBOUR: 'it returns false'. Refute it at one input. -/
def cycleLeastWrong : ChangeSpec := { name := "cycleLeast", fn := fun _ => fun
  | [d1, d2, d3, d4, d5] => { results := [.lit (.bool false)], args := [d1, d2, d3, d4, d5] }
  | _ => none }
def CycleLeastWrongFalsely : Prop := cycleLeastRow.holds Try.pinned (OpenSpec.ofChange cycleLeastWrong)

/-- 'cleanroomlaw12.CycleMore': WHATEVER THE INPUT: true; the input reads as it did. -/
def cycleMoreSpec : ChangeSpec := { name := "cycleMore", fn := fun _ => fun
  | [d1, d2, d3, d4] => { results := [.lit (.bool true)], args := [d1, d2, d3, d4] }
  | _ => none }
def cycleMoreRow : OpenClaim := { program := "ytfmlfekcdbfioaa", sum := "dc5e91698f9d783867318ae790a7aa8317f01617f25ab9b4b34c8fb1a4a8fed9", func := "cleanroom/cleanroomlaw12.CycleMore", spec := "cycleMore", unfollowed := true, recurses := true, apart := false }
def CycleMoreSaid : Prop := cycleMoreRow.holds Try.pinned (OpenSpec.ofChange cycleMoreSpec)

/-- ITS FALSE NEIGHBOUR: 'it returns false'. Refute it at one input. -/
def cycleMoreWrong : ChangeSpec := { name := "cycleMore", fn := fun _ => fun
  | [d1, d2, d3, d4] => { results := [.lit (.bool false)], args := [d1, d2, d3, d4] }
  | _ => none }
def CycleMoreWrongFalsely : Prop := cycleMoreRow.holds Try.pinned (OpenSpec.ofChange cycleMoreWrong)

/-- 'cleanroomlaw12.CycleConvex': WHATEVER THE INPUT: true; the input reads as it did. -/
def cycleConvexSpec : ChangeSpec := { name := "cycleConvex", fn := fun _ => fun
  | [d1, d2, d3] => { results := [.lit (.bool true)], args := [d1, d2, d3] }
  | _ => none }
def cycleConvexRow : OpenClaim := { program := "ytfmlfekcdbfioaa", sum := "dc5e91698f9d783867318ae790a7aa8317f01617f25ab9b4b34c8fb1a4a8fed9", func := "cleanroom/cleanroomlaw12.CycleConvex", spec := "cycleConvex", unfollowed := true, recurses := true, apart := false }
def CycleConvexSaid : Prop := cycleConvexRow.holds Try.pinned (OpenSpec.ofChange cycleConvexSpec)

/-- ITS FALSE NEIGHBOUR: 'it returns false'. Refute it at one input. -/
def cycleConvexWrong : ChangeSpec := { name := "cycleConvex", fn := fun _ => fun
  | [d1, d2, d3] => { results := [.lit (.bool false)], args := [d1, d2, d3] }
  | _ => none }
def CycleConvexWrongFalsely : Prop := cycleConvexRow.holds Try.pinned (OpenSpec.ofChange cycleConvexWrong)

/-- 'cleanroomlaw12.CycleOptimal': WHATEVER THE INPUT: true; the input reads as it did. -/
def cycleOptimalSpec : ChangeSpec := { name := "cycleOptimal", fn := fun _ => fun
  | [d1, d2, d3, d4, d5] => { results := [.lit (.bool true)], args := [d1, d2, d3, d4, d5] }
  | _ => none }
def cycleOptimalRow : OpenClaim := { program := "ytfmlfekcdbfioaa", sum := "dc5e91698f9d783867318ae790a7aa8317f01617f25ab9b4b34c8fb1a4a8fed9", func := "cleanroom/cleanroomlaw12.CycleOptimal", spec := "cycleOptimal", unfollowed := true, recurses := true, apart := false }
def CycleOptimalSaid : Prop := cycleOptimalRow.holds Try.pinned (OpenSpec.ofChange cycleOptimalSpec)

/-- ITS FALSE NEIGHBOUR: 'it returns false'. Refute it at one input. -/
def cycleOptimalWrong : ChangeSpec := { name := "cycleOptimal", fn := fun _ => fun
  | [d1, d2, d3, d4, d5] => { results := [.lit (.bool false)], args := [d1, d2, d3, d4, d5] }
  | _ => none }
def CycleOptimalWrongFalsely : Prop := cycleOptimalRow.holds Try.pinned (OpenSpec.ofChange cycleOptimalWrong)

/-- 'cleanroomlaw12.CycleRefused': WHATEVER THE INPUT: true; the input reads as it did. -/
def cycleRefusedSpec : ChangeSpec := { name := "cycleRefused", fn := fun _ => fun
  | [d1, d2, d3, d4] => { results := [.lit (.bool true)], args := [d1, d2, d3, d4] }
  | _ => none }
def cycleRefusedRow : OpenClaim := { program := "ytfmlfekcdbfioaa", sum := "dc5e91698f9d783867318ae790a7aa8317f01617f25ab9b4b34c8fb1a4a8fed9", func := "cleanroom/cleanroomlaw12.CycleRefused", spec := "cycleRefused", unfollowed := true, recurses := true, apart := false }
def CycleRefusedSaid : Prop := cycleRefusedRow.holds Try.pinned (OpenSpec.ofChange cycleRefusedSpec)

/-- ITS FALSE NEIGHBOUR: 'it returns false'. Refute it at one input. -/
def cycleRefusedWrong : ChangeSpec := { name := "cycleRefused", fn := fun _ => fun
  | [d1, d2, d3, d4] => { results := [.lit (.bool false)], args := [d1, d2, d3, d4] }
  | _ => none }
def CycleRefusedWrongFalsely : Prop := cycleRefusedRow.holds Try.pinned (OpenSpec.ofChange cycleRefusedWrong)

/- THE SECOND FORM. 'bulk': how many values and letters a reading holds, each counted each time it is reached (what is shared counts as often as it is met; a slice's spare places count too). A statement '..UptoSaid' is the law's where the arguments, and the package variables that the reading takes, are together of bulk at most 1048576: NARROWER than '..Said'. Prove '..Said' where nothing that the law and all that it calls make is longer than what came in: it says more and counts as full. Else prove '..UptoSaid'. A law counts once. -/
mutual
def uptoBulk {H : Type} : DataW H → Nat
  | .lit (.string bytes) => bytes.length + 1
  | .lit _ => 1
  | .nil => 1
  | .ptr d => uptoBulk d + 1
  | .slice elems spare => uptoBulkAll elems + uptoBulkAll spare + 1
  | .agg parts => uptoBulkAll parts + 1
  | .iface _ d => uptoBulk d + 1
  | .map entries => uptoBulkEntries entries + 1
  | .held _ => 1
def uptoBulkAll {H : Type} : List (DataW H) → Nat
  | [] => 0
  | d :: r => uptoBulk d + uptoBulkAll r
def uptoBulkEntries {H : Type} : List (Lit × DataW H) → Nat
  | [] => 0
  | x :: r => uptoBulkEntry x + uptoBulkEntries r
def uptoBulkEntry {H : Type} : Lit × DataW H → Nat
  | (.string bytes, d) => bytes.length + uptoBulk d + 1
  | (_, d) => uptoBulk d + 1
 end
def uptoSmall : (H : Type) → List (DataW H) → Bool := fun _ ds => decide (uptoBulkAll ds ≤ 1048576)
def OpenSpec.upto (s : _root_.Go.ChangeSpec) : _root_.Go.OpenSpec := { _root_.Go.OpenSpec.ofChange s with cond := some uptoSmall }

/-- 'cleanroomlaw12.CycleMatchesReference', WHERE WHAT IT READS IS OF BULK AT MOST 1048576: true; the input reads as it did. -/
def cycleMatchesReferenceUptoRow : OpenClaim := { program := "ytfmlfekcdbfioaa", sum := "dc5e91698f9d783867318ae790a7aa8317f01617f25ab9b4b34c8fb1a4a8fed9", func := "cleanroom/cleanroomlaw12.CycleMatchesReference", spec := "cycleMatchesReference", unfollowed := true, recurses := true, apart := false, narrowed := true }
def CycleMatchesReferenceUptoSaid : Prop := cycleMatchesReferenceUptoRow.holds Try.pinned (OpenSpec.upto cycleMatchesReferenceSpec)

/-- 'cleanroomlaw12.CycleSmallestMatchesReference', WHERE WHAT IT READS IS OF BULK AT MOST 1048576: true; the input reads as it did. -/
def cycleSmallestMatchesReferenceUptoRow : OpenClaim := { program := "ytfmlfekcdbfioaa", sum := "dc5e91698f9d783867318ae790a7aa8317f01617f25ab9b4b34c8fb1a4a8fed9", func := "cleanroom/cleanroomlaw12.CycleSmallestMatchesReference", spec := "cycleSmallestMatchesReference", unfollowed := true, recurses := true, apart := false, narrowed := true }
def CycleSmallestMatchesReferenceUptoSaid : Prop := cycleSmallestMatchesReferenceUptoRow.holds Try.pinned (OpenSpec.upto cycleSmallestMatchesReferenceSpec)

/-- 'cleanroomlaw12.CycleDual', WHERE WHAT IT READS IS OF BULK AT MOST 1048576: true; the input reads as it did. -/
def cycleDualUptoRow : OpenClaim := { program := "ytfmlfekcdbfioaa", sum := "dc5e91698f9d783867318ae790a7aa8317f01617f25ab9b4b34c8fb1a4a8fed9", func := "cleanroom/cleanroomlaw12.CycleDual", spec := "cycleDual", unfollowed := true, recurses := true, apart := false, narrowed := true }
def CycleDualUptoSaid : Prop := cycleDualUptoRow.holds Try.pinned (OpenSpec.upto cycleDualSpec)

/-- 'cleanroomlaw12.CycleLeast', WHERE WHAT IT READS IS OF BULK AT MOST 1048576: true; the input reads as it did. -/
def cycleLeastUptoRow : OpenClaim := { program := "ytfmlfekcdbfioaa", sum := "dc5e91698f9d783867318ae790a7aa8317f01617f25ab9b4b34c8fb1a4a8fed9", func := "cleanroom/cleanroomlaw12.CycleLeast", spec := "cycleLeast", unfollowed := true, recurses := true, apart := false, narrowed := true }
def CycleLeastUptoSaid : Prop := cycleLeastUptoRow.holds Try.pinned (OpenSpec.upto cycleLeastSpec)

/-- 'cleanroomlaw12.CycleMore', WHERE WHAT IT READS IS OF BULK AT MOST 1048576: true; the input reads as it did. -/
def cycleMoreUptoRow : OpenClaim := { program := "ytfmlfekcdbfioaa", sum := "dc5e91698f9d783867318ae790a7aa8317f01617f25ab9b4b34c8fb1a4a8fed9", func := "cleanroom/cleanroomlaw12.CycleMore", spec := "cycleMore", unfollowed := true, recurses := true, apart := false, narrowed := true }
def CycleMoreUptoSaid : Prop := cycleMoreUptoRow.holds Try.pinned (OpenSpec.upto cycleMoreSpec)

/-- 'cleanroomlaw12.CycleConvex', WHERE WHAT IT READS IS OF BULK AT MOST 1048576: true; the input reads as it did. -/
def cycleConvexUptoRow : OpenClaim := { program := "ytfmlfekcdbfioaa", sum := "dc5e91698f9d783867318ae790a7aa8317f01617f25ab9b4b34c8fb1a4a8fed9", func := "cleanroom/cleanroomlaw12.CycleConvex", spec := "cycleConvex", unfollowed := true, recurses := true, apart := false, narrowed := true }
def CycleConvexUptoSaid : Prop := cycleConvexUptoRow.holds Try.pinned (OpenSpec.upto cycleConvexSpec)

/-- 'cleanroomlaw12.CycleOptimal', WHERE WHAT IT READS IS OF BULK AT MOST 1048576: true; the input reads as it did. -/
def cycleOptimalUptoRow : OpenClaim := { program := "ytfmlfekcdbfioaa", sum := "dc5e91698f9d783867318ae790a7aa8317f01617f25ab9b4b34c8fb1a4a8fed9", func := "cleanroom/cleanroomlaw12.CycleOptimal", spec := "cycleOptimal", unfollowed := true, recurses := true, apart := false, narrowed := true }
def CycleOptimalUptoSaid : Prop := cycleOptimalUptoRow.holds Try.pinned (OpenSpec.upto cycleOptimalSpec)

/-- 'cleanroomlaw12.CycleRefused', WHERE WHAT IT READS IS OF BULK AT MOST 1048576: true; the input reads as it did. -/
def cycleRefusedUptoRow : OpenClaim := { program := "ytfmlfekcdbfioaa", sum := "dc5e91698f9d783867318ae790a7aa8317f01617f25ab9b4b34c8fb1a4a8fed9", func := "cleanroom/cleanroomlaw12.CycleRefused", spec := "cycleRefused", unfollowed := true, recurses := true, apart := false, narrowed := true }
def CycleRefusedUptoSaid : Prop := cycleRefusedUptoRow.holds Try.pinned (OpenSpec.upto cycleRefusedSpec)

end Rows
end Go.Proofs.Ytfmlfekcdbfioaa
