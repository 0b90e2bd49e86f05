/-
  No cell of these rows narrows 'for every input' (looked for: loops, veiled, ifaces, maps, wideKeys, modest, calm, conditions, laid).
  DERIVED. THE GIVEN ROWS OF THIS SEAT. 3 by the template 'for every input the law returns true; each argument reads behind the call as it read before'; 0 by the template 'total and deterministic' (their statements: YtfkcoekicjjndaaGreatTotals.lean).
  GIVEN WITH THE SEED: the statements are not yours to turn. If you find one false, say at which input.
  Laid BY PROGRAM, IN A SANDBOX (cutbox-rows.mjs): the forced cells as the released guide's own fill.sh prints them over the translation 3a97f316cadabb5b… (all of the seat's roots in one cut). By AI agents, Wed Nov 11 2026. No macro, syntax, notation, axiom, sorry.
-/
import Derived.Test.YtfkcoekicjjndaaGreatChecked
import GoSem.Claim
import GoSem.ClaimJoined
import GoSem.ClaimMapViews
import Derived.JoinedTies
import Derived.KernelRfl
namespace Go.Proofs.YtfkcoekicjjndaaGreat
/- THE CELL 'sum', in the pinned program and in every row, IS THE sha256 OF THE DUMP (.gsa) THAT YtfkcoekicjjndaaGreatProg.lean LOADS. Nothing in Lean hashes anything: it is a label: what it is worth is what the hold of that sum in a sandbox is worth. -/
noncomputable def Tryz.pinned : Pinned := { name := "ytfkcoekicjjndaagreat", sum := "3a97f316cadabb5bca7df03d5ec26f463c092fcfc68496c917cd5d01c3c5364e", checked := Tryz.checked }
namespace Rows
def none {H : Type} : Left H := { results := [], args := [] }

/-- 'cleanroomtop.TopShared': WHATEVER THE INPUT: true; the input reads as it did. -/
def topSharedSpec : ChangeSpec := { name := "topShared", fn := fun _ => fun
  | [d1, d2, d3, d4, d5, d6, d7, d8, d9, d10] => { results := [.lit (.bool true)], args := [d1, d2, d3, d4, d5, d6, d7, d8, d9, d10] }
  | _ => none }
def topSharedRow : OpenClaim := { program := "ytfkcoekicjjndaagreat", sum := "3a97f316cadabb5bca7df03d5ec26f463c092fcfc68496c917cd5d01c3c5364e", func := "cleanroom/cleanroomtop.TopShared", spec := "topShared", inPlace := ["slices.overlaps[cleanroom/api.Booking]"], unfollowed := true, recurses := true, apart := false }
def TopSharedSaid : Prop := topSharedRow.holds Tryz.pinned (OpenSpec.ofChange topSharedSpec)

/-- ITS FALSE NEIGHBOUR: 'it returns false'. Refute it at one input. -/
def topSharedWrong : ChangeSpec := { name := "topShared", fn := fun _ => fun
  | [d1, d2, d3, d4, d5, d6, d7, d8, d9, d10] => { results := [.lit (.bool false)], args := [d1, d2, d3, d4, d5, d6, d7, d8, d9, d10] }
  | _ => none }
def TopSharedWrongFalsely : Prop := topSharedRow.holds Tryz.pinned (OpenSpec.ofChange topSharedWrong)

/-- 'cleanroomtop.TopRate': WHATEVER THE INPUT: true; the input reads as it did. -/
def topRateSpec : ChangeSpec := { name := "topRate", fn := fun _ => fun
  | [d1, d2, d3] => { results := [.lit (.bool true)], args := [d1, d2, d3] }
  | _ => none }
def topRateRow : OpenClaim := { program := "ytfkcoekicjjndaagreat", sum := "3a97f316cadabb5bca7df03d5ec26f463c092fcfc68496c917cd5d01c3c5364e", func := "cleanroom/cleanroomtop.TopRate", spec := "topRate", unfollowed := true, recurses := true, apart := false }
def TopRateSaid : Prop := topRateRow.holds Tryz.pinned (OpenSpec.ofChange topRateSpec)

/-- ITS FALSE NEIGHBOUR: 'it returns false'. Refute it at one input. -/
def topRateWrong : ChangeSpec := { name := "topRate", fn := fun _ => fun
  | [d1, d2, d3] => { results := [.lit (.bool false)], args := [d1, d2, d3] }
  | _ => none }
def TopRateWrongFalsely : Prop := topRateRow.holds Tryz.pinned (OpenSpec.ofChange topRateWrong)

/-- 'cleanroomtop.TopChanged': WHATEVER THE INPUT: true; the input reads as it did. -/
def topChangedSpec : ChangeSpec := { name := "topChanged", fn := fun _ => fun
  | [d1, d2, d3, d4, d5] => { results := [.lit (.bool true)], args := [d1, d2, d3, d4, d5] }
  | _ => none }
def topChangedRow : OpenClaim := { program := "ytfkcoekicjjndaagreat", sum := "3a97f316cadabb5bca7df03d5ec26f463c092fcfc68496c917cd5d01c3c5364e", func := "cleanroom/cleanroomtop.TopChanged", spec := "topChanged", unfollowed := true, recurses := true, apart := false }
def TopChangedSaid : Prop := topChangedRow.holds Tryz.pinned (OpenSpec.ofChange topChangedSpec)

/-- ITS FALSE NEIGHBOUR: 'it returns false'. Refute it at one input. -/
def topChangedWrong : ChangeSpec := { name := "topChanged", fn := fun _ => fun
  | [d1, d2, d3, d4, d5] => { results := [.lit (.bool false)], args := [d1, d2, d3, d4, d5] }
  | _ => none }
def TopChangedWrongFalsely : Prop := topChangedRow.holds Tryz.pinned (OpenSpec.ofChange topChangedWrong)

/- THE SECOND FORM. 'bulk': how many values and letters a reading holds, each counted each time it is reached (what is shared counts as often as it is met; a slice's spare places count too). A statement '..UptoSaid' is the law's where the arguments, and the package variables that the reading takes, are together of bulk at most 1048576: NARROWER than '..Said'. Prove '..Said' where nothing that the law and all that it calls make is longer than what came in: it says more and counts as full. Else prove '..UptoSaid'. A law counts once. -/
mutual
def uptoBulk {H : Type} : DataW H → Nat
  | .lit (.string bytes) => bytes.length + 1
  | .lit _ => 1
  | .nil => 1
  | .ptr d => uptoBulk d + 1
  | .slice elems spare => uptoBulkAll elems + uptoBulkAll spare + 1
  | .agg parts => uptoBulkAll parts + 1
  | .iface _ d => uptoBulk d + 1
  | .map entries => uptoBulkEntries entries + 1
  | .held _ => 1
def uptoBulkAll {H : Type} : List (DataW H) → Nat
  | [] => 0
  | d :: r => uptoBulk d + uptoBulkAll r
def uptoBulkEntries {H : Type} : List (Lit × DataW H) → Nat
  | [] => 0
  | x :: r => uptoBulkEntry x + uptoBulkEntries r
def uptoBulkEntry {H : Type} : Lit × DataW H → Nat
  | (.string bytes, d) => bytes.length + uptoBulk d + 1
  | (_, d) => uptoBulk d + 1
 end
def uptoSmall : (H : Type) → List (DataW H) → Bool := fun _ ds => decide (uptoBulkAll ds ≤ 1048576)
def OpenSpec.upto (s : _root_.Go.ChangeSpec) : _root_.Go.OpenSpec := { _root_.Go.OpenSpec.ofChange s with cond := some uptoSmall }

/-- 'cleanroomtop.TopShared', WHERE WHAT IT READS IS OF BULK AT MOST 1048576: true; the input reads as it did. -/
def topSharedUptoRow : OpenClaim := { program := "ytfkcoekicjjndaagreat", sum := "3a97f316cadabb5bca7df03d5ec26f463c092fcfc68496c917cd5d01c3c5364e", func := "cleanroom/cleanroomtop.TopShared", spec := "topShared", inPlace := ["slices.overlaps[cleanroom/api.Booking]"], unfollowed := true, recurses := true, apart := false, narrowed := true }
def TopSharedUptoSaid : Prop := topSharedUptoRow.holds Tryz.pinned (OpenSpec.upto topSharedSpec)

/-- 'cleanroomtop.TopRate', WHERE WHAT IT READS IS OF BULK AT MOST 1048576: true; the input reads as it did. -/
def topRateUptoRow : OpenClaim := { program := "ytfkcoekicjjndaagreat", sum := "3a97f316cadabb5bca7df03d5ec26f463c092fcfc68496c917cd5d01c3c5364e", func := "cleanroom/cleanroomtop.TopRate", spec := "topRate", unfollowed := true, recurses := true, apart := false, narrowed := true }
def TopRateUptoSaid : Prop := topRateUptoRow.holds Tryz.pinned (OpenSpec.upto topRateSpec)

/-- 'cleanroomtop.TopChanged', WHERE WHAT IT READS IS OF BULK AT MOST 1048576: true; the input reads as it did. -/
def topChangedUptoRow : OpenClaim := { program := "ytfkcoekicjjndaagreat", sum := "3a97f316cadabb5bca7df03d5ec26f463c092fcfc68496c917cd5d01c3c5364e", func := "cleanroom/cleanroomtop.TopChanged", spec := "topChanged", unfollowed := true, recurses := true, apart := false, narrowed := true }
def TopChangedUptoSaid : Prop := topChangedUptoRow.holds Tryz.pinned (OpenSpec.upto topChangedSpec)

end Rows
end Go.Proofs.YtfkcoekicjjndaaGreat
