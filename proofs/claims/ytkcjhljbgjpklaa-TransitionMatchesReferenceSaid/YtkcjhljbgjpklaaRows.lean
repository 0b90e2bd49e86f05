/-
  No cell of these rows narrows 'for every input' (looked for: loops, veiled, ifaces, maps, wideKeys, modest, calm, conditions, laid).
  DERIVED. THE GIVEN ROWS OF THIS SEAT. 8 by the template 'for every input the law returns true; each argument reads behind the call as it read before'; 0 by the template 'total and deterministic' (their statements: YtkcjhljbgjpklaaTotals.lean).
  GIVEN WITH THE SEED: the statements are not yours to turn. If you find one false, say at which input.
  Laid BY PROGRAM, IN A SANDBOX (cutbox-rows.mjs): the forced cells as the released guide's own fill.sh prints them over the translation ee631b8b9ff65ff2… (all of the seat's roots in one cut). By AI agents, Wed Nov 11 2026. No macro, syntax, notation, axiom, sorry.
-/
import Derived.Test.YtkcjhljbgjpklaaChecked
import GoSem.Claim
import GoSem.ClaimJoined
import GoSem.ClaimMapViews
import Derived.JoinedTies
import Derived.KernelRfl
namespace Go.Proofs.Ytkcjhljbgjpklaa
/- THE CELL 'sum', in the pinned program and in every row, IS THE sha256 OF THE DUMP (.gsa) THAT YtkcjhljbgjpklaaProg.lean LOADS. Nothing in Lean hashes anything: it is a label: what it is worth is what the hold of that sum in a sandbox is worth. -/
noncomputable def Try.pinned : Pinned := { name := "ytkcjhljbgjpklaa", sum := "ee631b8b9ff65ff2e064117aa160af2e9bd75da96e00eef414e8f036f72cc619", checked := Try.checked }
namespace Rows
def none {H : Type} : Left H := { results := [], args := [] }

/-- 'cleanroomlaw14.TransitionMatchesReference': WHATEVER THE INPUT: true; the input reads as it did. -/
def transitionMatchesReferenceSpec : ChangeSpec := { name := "transitionMatchesReference", fn := fun _ => fun
  | [d1, d2, d3, d4, d5, d6] => { results := [.lit (.bool true)], args := [d1, d2, d3, d4, d5, d6] }
  | _ => none }
def transitionMatchesReferenceRow : OpenClaim := { program := "ytkcjhljbgjpklaa", sum := "ee631b8b9ff65ff2e064117aa160af2e9bd75da96e00eef414e8f036f72cc619", func := "cleanroom/cleanroomlaw14.TransitionMatchesReference", spec := "transitionMatchesReference", unfollowed := true, recurses := true, apart := false }
def TransitionMatchesReferenceSaid : Prop := transitionMatchesReferenceRow.holds Try.pinned (OpenSpec.ofChange transitionMatchesReferenceSpec)

/-- ITS FALSE NEIGHBOUR: 'it returns false'. Refute it at one input. -/
def transitionMatchesReferenceWrong : ChangeSpec := { name := "transitionMatchesReference", fn := fun _ => fun
  | [d1, d2, d3, d4, d5, d6] => { results := [.lit (.bool false)], args := [d1, d2, d3, d4, d5, d6] }
  | _ => none }
def TransitionMatchesReferenceWrongFalsely : Prop := transitionMatchesReferenceRow.holds Try.pinned (OpenSpec.ofChange transitionMatchesReferenceWrong)

/-- 'cleanroomlaw14.TransitionDrains': WHATEVER THE INPUT: true; the input reads as it did. -/
def transitionDrainsSpec : ChangeSpec := { name := "transitionDrains", fn := fun _ => fun
  | [d1, d2] => { results := [.lit (.bool true)], args := [d1, d2] }
  | _ => none }
def transitionDrainsRow : OpenClaim := { program := "ytkcjhljbgjpklaa", sum := "ee631b8b9ff65ff2e064117aa160af2e9bd75da96e00eef414e8f036f72cc619", func := "cleanroom/cleanroomlaw14.TransitionDrains", spec := "transitionDrains", unfollowed := true, recurses := true, apart := false }
def TransitionDrainsSaid : Prop := transitionDrainsRow.holds Try.pinned (OpenSpec.ofChange transitionDrainsSpec)

/-- ITS FALSE NEIGHBOUR: 'it returns false'. Refute it at one input. -/
def transitionDrainsWrong : ChangeSpec := { name := "transitionDrains", fn := fun _ => fun
  | [d1, d2] => { results := [.lit (.bool false)], args := [d1, d2] }
  | _ => none }
def TransitionDrainsWrongFalsely : Prop := transitionDrainsRow.holds Try.pinned (OpenSpec.ofChange transitionDrainsWrong)

/-- 'cleanroomlaw14.TransitionStays': WHATEVER THE INPUT: true; the input reads as it did. -/
def transitionStaysSpec : ChangeSpec := { name := "transitionStays", fn := fun _ => fun
  | [d1, d2] => { results := [.lit (.bool true)], args := [d1, d2] }
  | _ => none }
def transitionStaysRow : OpenClaim := { program := "ytkcjhljbgjpklaa", sum := "ee631b8b9ff65ff2e064117aa160af2e9bd75da96e00eef414e8f036f72cc619", func := "cleanroom/cleanroomlaw14.TransitionStays", spec := "transitionStays", unfollowed := true, recurses := true, apart := false }
def TransitionStaysSaid : Prop := transitionStaysRow.holds Try.pinned (OpenSpec.ofChange transitionStaysSpec)

/-- ITS FALSE NEIGHBOUR: 'it returns false'. Refute it at one input. -/
def transitionStaysWrong : ChangeSpec := { name := "transitionStays", fn := fun _ => fun
  | [d1, d2] => { results := [.lit (.bool false)], args := [d1, d2] }
  | _ => none }
def TransitionStaysWrongFalsely : Prop := transitionStaysRow.holds Try.pinned (OpenSpec.ofChange transitionStaysWrong)

/-- 'cleanroomlaw14.TransitionFills': WHATEVER THE INPUT: true; the input reads as it did. -/
def transitionFillsSpec : ChangeSpec := { name := "transitionFills", fn := fun _ => fun
  | [d1, d2, d3] => { results := [.lit (.bool true)], args := [d1, d2, d3] }
  | _ => none }
def transitionFillsRow : OpenClaim := { program := "ytkcjhljbgjpklaa", sum := "ee631b8b9ff65ff2e064117aa160af2e9bd75da96e00eef414e8f036f72cc619", func := "cleanroom/cleanroomlaw14.TransitionFills", spec := "transitionFills", unfollowed := true, recurses := true, apart := false }
def TransitionFillsSaid : Prop := transitionFillsRow.holds Try.pinned (OpenSpec.ofChange transitionFillsSpec)

/-- ITS FALSE NEIGHBOUR: 'it returns false'. Refute it at one input. -/
def transitionFillsWrong : ChangeSpec := { name := "transitionFills", fn := fun _ => fun
  | [d1, d2, d3] => { results := [.lit (.bool false)], args := [d1, d2, d3] }
  | _ => none }
def TransitionFillsWrongFalsely : Prop := transitionFillsRow.holds Try.pinned (OpenSpec.ofChange transitionFillsWrong)

/-- 'cleanroomlaw14.TransitionSwitches': WHATEVER THE INPUT: true; the input reads as it did. -/
def transitionSwitchesSpec : ChangeSpec := { name := "transitionSwitches", fn := fun _ => fun
  | [d] => { results := [.lit (.bool true)], args := [d] }
  | _ => none }
def transitionSwitchesRow : OpenClaim := { program := "ytkcjhljbgjpklaa", sum := "ee631b8b9ff65ff2e064117aa160af2e9bd75da96e00eef414e8f036f72cc619", func := "cleanroom/cleanroomlaw14.TransitionSwitches", spec := "transitionSwitches", unfollowed := true, recurses := true, apart := false }
def TransitionSwitchesSaid : Prop := transitionSwitchesRow.holds Try.pinned (OpenSpec.ofChange transitionSwitchesSpec)

/-- ITS FALSE NEIGHBOUR: 'it returns false'. Refute it at one input. -/
def transitionSwitchesWrong : ChangeSpec := { name := "transitionSwitches", fn := fun _ => fun
  | [d] => { results := [.lit (.bool false)], args := [d] }
  | _ => none }
def TransitionSwitchesWrongFalsely : Prop := transitionSwitchesRow.holds Try.pinned (OpenSpec.ofChange transitionSwitchesWrong)

/-- 'cleanroomlaw14.TransitionLost': WHATEVER THE INPUT: true; the input reads as it did. -/
def transitionLostSpec : ChangeSpec := { name := "transitionLost", fn := fun _ => fun
  | [d1, d2, d3] => { results := [.lit (.bool true)], args := [d1, d2, d3] }
  | _ => none }
def transitionLostRow : OpenClaim := { program := "ytkcjhljbgjpklaa", sum := "ee631b8b9ff65ff2e064117aa160af2e9bd75da96e00eef414e8f036f72cc619", func := "cleanroom/cleanroomlaw14.TransitionLost", spec := "transitionLost", unfollowed := true, recurses := true, apart := false }
def TransitionLostSaid : Prop := transitionLostRow.holds Try.pinned (OpenSpec.ofChange transitionLostSpec)

/-- ITS FALSE NEIGHBOUR: 'it returns false'. Refute it at one input. -/
def transitionLostWrong : ChangeSpec := { name := "transitionLost", fn := fun _ => fun
  | [d1, d2, d3] => { results := [.lit (.bool false)], args := [d1, d2, d3] }
  | _ => none }
def TransitionLostWrongFalsely : Prop := transitionLostRow.holds Try.pinned (OpenSpec.ofChange transitionLostWrong)

/-- 'cleanroomlaw14.TransitionLater': WHATEVER THE INPUT: true; the input reads as it did. -/
def transitionLaterSpec : ChangeSpec := { name := "transitionLater", fn := fun _ => fun
  | [d1, d2, d3] => { results := [.lit (.bool true)], args := [d1, d2, d3] }
  | _ => none }
def transitionLaterRow : OpenClaim := { program := "ytkcjhljbgjpklaa", sum := "ee631b8b9ff65ff2e064117aa160af2e9bd75da96e00eef414e8f036f72cc619", func := "cleanroom/cleanroomlaw14.TransitionLater", spec := "transitionLater", unfollowed := true, recurses := true, apart := false }
def TransitionLaterSaid : Prop := transitionLaterRow.holds Try.pinned (OpenSpec.ofChange transitionLaterSpec)

/-- ITS FALSE NEIGHBOUR: 'it returns false'. Refute it at one input. -/
def transitionLaterWrong : ChangeSpec := { name := "transitionLater", fn := fun _ => fun
  | [d1, d2, d3] => { results := [.lit (.bool false)], args := [d1, d2, d3] }
  | _ => none }
def TransitionLaterWrongFalsely : Prop := transitionLaterRow.holds Try.pinned (OpenSpec.ofChange transitionLaterWrong)

/-- 'cleanroomlaw14.TransitionRefuses': WHATEVER THE INPUT: true; the input reads as it did. -/
def transitionRefusesSpec : ChangeSpec := { name := "transitionRefuses", fn := fun _ => fun
  | [d1, d2, d3] => { results := [.lit (.bool true)], args := [d1, d2, d3] }
  | _ => none }
def transitionRefusesRow : OpenClaim := { program := "ytkcjhljbgjpklaa", sum := "ee631b8b9ff65ff2e064117aa160af2e9bd75da96e00eef414e8f036f72cc619", func := "cleanroom/cleanroomlaw14.TransitionRefuses", spec := "transitionRefuses", unfollowed := true, recurses := true, apart := false }
def TransitionRefusesSaid : Prop := transitionRefusesRow.holds Try.pinned (OpenSpec.ofChange transitionRefusesSpec)

/-- ITS FALSE NEIGHBOUR: 'it returns false'. Refute it at one input. -/
def transitionRefusesWrong : ChangeSpec := { name := "transitionRefuses", fn := fun _ => fun
  | [d1, d2, d3] => { results := [.lit (.bool false)], args := [d1, d2, d3] }
  | _ => none }
def TransitionRefusesWrongFalsely : Prop := transitionRefusesRow.holds Try.pinned (OpenSpec.ofChange transitionRefusesWrong)

/- THE SECOND FORM. 'bulk': how many values and letters a reading holds, each counted each time it is reached (what is shared counts as often as it is met; a slice's spare places count too). A statement '..UptoSaid' is the law's where the arguments, and the package variables that the reading takes, are together of bulk at most 1048576: NARROWER than '..Said'. Prove '..Said' where nothing that the law and all that it calls make is longer than what came in: it says more and counts as full. Else prove '..UptoSaid'. A law counts once. -/
mutual
def uptoBulk {H : Type} : DataW H → Nat
  | .lit (.string bytes) => bytes.length + 1
  | .lit _ => 1
  | .nil => 1
  | .ptr d => uptoBulk d + 1
  | .slice elems spare => uptoBulkAll elems + uptoBulkAll spare + 1
  | .agg parts => uptoBulkAll parts + 1
  | .iface _ d => uptoBulk d + 1
  | .map entries => uptoBulkEntries entries + 1
  | .held _ => 1
def uptoBulkAll {H : Type} : List (DataW H) → Nat
  | [] => 0
  | d :: r => uptoBulk d + uptoBulkAll r
def uptoBulkEntries {H : Type} : List (Lit × DataW H) → Nat
  | [] => 0
  | x :: r => uptoBulkEntry x + uptoBulkEntries r
def uptoBulkEntry {H : Type} : Lit × DataW H → Nat
  | (.string bytes, d) => bytes.length + uptoBulk d + 1
  | (_, d) => uptoBulk d + 1
 end
def uptoSmall : (H : Type) → List (DataW H) → Bool := fun _ ds => decide (uptoBulkAll ds ≤ 1048576)
def OpenSpec.upto (s : _root_.Go.ChangeSpec) : _root_.Go.OpenSpec := { _root_.Go.OpenSpec.ofChange s with cond := some uptoSmall }

/-- 'cleanroomlaw14.TransitionMatchesReference', WHERE WHAT IT READS IS OF BULK AT MOST 1048576: true; the input reads as it did. -/
def transitionMatchesReferenceUptoRow : OpenClaim := { program := "ytkcjhljbgjpklaa", sum := "ee631b8b9ff65ff2e064117aa160af2e9bd75da96e00eef414e8f036f72cc619", func := "cleanroom/cleanroomlaw14.TransitionMatchesReference", spec := "transitionMatchesReference", unfollowed := true, recurses := true, apart := false, narrowed := true }
def TransitionMatchesReferenceUptoSaid : Prop := transitionMatchesReferenceUptoRow.holds Try.pinned (OpenSpec.upto transitionMatchesReferenceSpec)

/-- 'cleanroomlaw14.TransitionDrains', WHERE WHAT IT READS IS OF BULK AT MOST 1048576: true; the input reads as it did. -/
def transitionDrainsUptoRow : OpenClaim := { program := "ytkcjhljbgjpklaa", sum := "ee631b8b9ff65ff2e064117aa160af2e9bd75da96e00eef414e8f036f72cc619", func := "cleanroom/cleanroomlaw14.TransitionDrains", spec := "transitionDrains", unfollowed := true, recurses := true, apart := false, narrowed := true }
def TransitionDrainsUptoSaid : Prop := transitionDrainsUptoRow.holds Try.pinned (OpenSpec.upto transitionDrainsSpec)

/-- 'cleanroomlaw14.TransitionStays', WHERE WHAT IT READS IS OF BULK AT MOST 1048576: true; the input reads as it did. -/
def transitionStaysUptoRow : OpenClaim := { program := "ytkcjhljbgjpklaa", sum := "ee631b8b9ff65ff2e064117aa160af2e9bd75da96e00eef414e8f036f72cc619", func := "cleanroom/cleanroomlaw14.TransitionStays", spec := "transitionStays", unfollowed := true, recurses := true, apart := false, narrowed := true }
def TransitionStaysUptoSaid : Prop := transitionStaysUptoRow.holds Try.pinned (OpenSpec.upto transitionStaysSpec)

/-- 'cleanroomlaw14.TransitionFills', WHERE WHAT IT READS IS OF BULK AT MOST 1048576: true; the input reads as it did. -/
def transitionFillsUptoRow : OpenClaim := { program := "ytkcjhljbgjpklaa", sum := "ee631b8b9ff65ff2e064117aa160af2e9bd75da96e00eef414e8f036f72cc619", func := "cleanroom/cleanroomlaw14.TransitionFills", spec := "transitionFills", unfollowed := true, recurses := true, apart := false, narrowed := true }
def TransitionFillsUptoSaid : Prop := transitionFillsUptoRow.holds Try.pinned (OpenSpec.upto transitionFillsSpec)

/-- 'cleanroomlaw14.TransitionSwitches', WHERE WHAT IT READS IS OF BULK AT MOST 1048576: true; the input reads as it did. -/
def transitionSwitchesUptoRow : OpenClaim := { program := "ytkcjhljbgjpklaa", sum := "ee631b8b9ff65ff2e064117aa160af2e9bd75da96e00eef414e8f036f72cc619", func := "cleanroom/cleanroomlaw14.TransitionSwitches", spec := "transitionSwitches", unfollowed := true, recurses := true, apart := false, narrowed := true }
def TransitionSwitchesUptoSaid : Prop := transitionSwitchesUptoRow.holds Try.pinned (OpenSpec.upto transitionSwitchesSpec)

/-- 'cleanroomlaw14.TransitionLost', WHERE WHAT IT READS IS OF BULK AT MOST 1048576: true; the input reads as it did. -/
def transitionLostUptoRow : OpenClaim := { program := "ytkcjhljbgjpklaa", sum := "ee631b8b9ff65ff2e064117aa160af2e9bd75da96e00eef414e8f036f72cc619", func := "cleanroom/cleanroomlaw14.TransitionLost", spec := "transitionLost", unfollowed := true, recurses := true, apart := false, narrowed := true }
def TransitionLostUptoSaid : Prop := transitionLostUptoRow.holds Try.pinned (OpenSpec.upto transitionLostSpec)

/-- 'cleanroomlaw14.TransitionLater', WHERE WHAT IT READS IS OF BULK AT MOST 1048576: true; the input reads as it did. -/
def transitionLaterUptoRow : OpenClaim := { program := "ytkcjhljbgjpklaa", sum := "ee631b8b9ff65ff2e064117aa160af2e9bd75da96e00eef414e8f036f72cc619", func := "cleanroom/cleanroomlaw14.TransitionLater", spec := "transitionLater", unfollowed := true, recurses := true, apart := false, narrowed := true }
def TransitionLaterUptoSaid : Prop := transitionLaterUptoRow.holds Try.pinned (OpenSpec.upto transitionLaterSpec)

/-- 'cleanroomlaw14.TransitionRefuses', WHERE WHAT IT READS IS OF BULK AT MOST 1048576: true; the input reads as it did. -/
def transitionRefusesUptoRow : OpenClaim := { program := "ytkcjhljbgjpklaa", sum := "ee631b8b9ff65ff2e064117aa160af2e9bd75da96e00eef414e8f036f72cc619", func := "cleanroom/cleanroomlaw14.TransitionRefuses", spec := "transitionRefuses", unfollowed := true, recurses := true, apart := false, narrowed := true }
def TransitionRefusesUptoSaid : Prop := transitionRefusesUptoRow.holds Try.pinned (OpenSpec.upto transitionRefusesSpec)

end Rows
end Go.Proofs.Ytkcjhljbgjpklaa
