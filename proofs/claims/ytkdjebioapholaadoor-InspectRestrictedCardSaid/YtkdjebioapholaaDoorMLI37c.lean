/-
  For every input, cleanroomlaw23.InspectRestricted returns true and its arguments read behind the call as they read before (the card of the seat). Conditions: none but those of the given row: the tables math/bits.deBruijn32tab and math/bits.deBruijn64tab read as laid when the call begins.
-/
import Derived.Test.YtkdjebioapholaaDoorM05
import Derived.Test.YtkdjebioapholaaDoorMLI37
import Derived.Test.YtkdjebioapholaaDoorMLEv24b
import Derived.Test.YtkdjebioapholaaDoorM03
import Derived.Test.YtkdjebioapholaaDoorCards
import Derived.Test.YtkdjebioapholaaDoorTie
import Derived.WalkKit
import Derived.ProofKit
import Derived.OpenShut
import Derived.Deep.DeepHandedRow
namespace Go.Proofs.YtkdjebioapholaaDoor
open Go
open Go.ChangeShapes Go.WideShapes Go.ChangeAt Go.RowKit Go.ChangeMaps

namespace restricted
def Q : List AV → Prop := fun args => ∀ s es, args[0]? = some (.fs s es) → es.length * 8 ≤ 140737488355328
open Classical in
noncomputable def M : PModel := fun args => if LawArgs Tryd.prog 8 Tryd.f8.params.toList args ∧ Q args then some (.bool true) else none
theorem spec : PureSpec Tryd.prog GI 8 M := by
  refine PureSpec.of_ev (E := envOf GI fsL) (envOf_sound soundL) rfl at8 comp8 1 ?_
  intro args r h
  unfold M at h
  split at h
  · rename_i ha
    injection h with h; subst h
    exact ev8L args ha.1 ha.2
  · cases h

theorem contract (H : Type) (enc : TypeId × Value → H) (W : World) (base : Nat) (args : Array Value) (ds gs : List (DataW H)) (before : List MemPlace)
    (hval : ∀ (j : Nat) t v, Tryd.f8.params[j]? = some t → args[j]? = some v → Value.okWide Tryd.prog W .any base t v)
    (hW : DataW.Whole enc Tryd.prog Tryd.f8.params.toList Rows.inspectRestrictedSpec.vars false W args.toList ds gs before) (hL : laidMetH Tryd.prog Rows.inspectRestrictedRow.laid W)
    (hwt : (DataW.weightsEach Tryd.prog (Tryd.f8.params.toList ++ (OpenSpec.ofChange Rows.inspectRestrictedSpec).bare.plain.varTypes Tryd.prog) (ds ++ gs)).all (fun x => decide (x ≤ reachBytes)) = true) :
    Calls Tryd.prog 8 args W fun e W' => ∃ v, e = .returned v ∧ Rows.inspectRestrictedSpec.post enc Tryd.prog Tryd.f8 false true false false W args v W' :=
  law_contract_q (Q := Q) spec (fun args h h2 => by unfold M; rw [if_pos ⟨h, h2⟩]) (fun ds hds => by
    rw [show Tryd.f8.params.toList.length = 2 by kernel_rfl] at hds
    match ds, hds with
    | [d0, d1], _ => rfl) rfl (by kernel_rfl) (by kernel_rfl) (tb := 4) (by kernel_rfl) Tryd.underlying4 hval hW (grel_of (tabIs_of_second (rest := []) gTab gTabType Tryd.underlying65 Tryd.underlying5 cells5 cells65 hL)) (fun ls p hA hR => fun s es he => by
      rw [Tryd.params8] at hA hwt
      have := head_len Tryd.underlying23 hA hR hwt he
      rw [show Tryd.prog.bytesOf 3 = 8 by kernel_rfl] at this
      unfold reachBytes at this
      omega)

noncomputable def wit : Array Value := #[.slice none 0 0, .int .i64 0]
theorem laid_met (os : Os) : laidMet Tryd.prog Rows.inspectRestrictedRow.laid ((laidWorld os).forCall (fun _ _ => 0) ⟨#[], wit, []⟩).memory :=
  laidMet_of_run' 8 (by kernel_rfl) (by kernel_rfl)
theorem reads (os : Os) {H : Type} (enc : TypeId × Value → H) : ∃ places, DataW.whole enc Tryd.prog ((laidWorld os).forCall (fun _ _ => 0) ⟨#[], wit, []⟩).memory Tryd.f8.params.toList Rows.inspectRestrictedSpec.vars false wit.toList 8 = some ([.nil, .lit (.int .i64 0)], [], places) :=
  ⟨[], by kernel_rfl⟩

set_option maxRecDepth 100000 in
theorem lifted (os : Os) (started : os.Started) (H : Type) (enc : TypeId × Value → H) (F : Stop.Interp) :
    ReturnsInHanded {} Tryd.checked os 8 .any ((OpenSpec.ofChange Rows.inspectRestrictedSpec).preRow enc Tryd.prog Tryd.f8 Rows.inspectRestrictedRow.domain false Rows.inspectRestrictedRow.laid) (((OpenSpec.ofChange Rows.inspectRestrictedSpec).at F).post enc Tryd.prog Tryd.f8 false true false false) := by
  obtain ⟨places, hx⟩ := reads os enc
  refine returnsInHanded_of_row (C := Tryd.checked) (s := OpenSpec.ofChange Rows.inspectRestrictedSpec) ownK started (by kernel_rfl) Tryd.func8
    (witness_row_at (enc := enc) (C := Tryd.checked) false (laidWorld os) wit rfl (by kernel_rfl) (by kernel_rfl) (by kernel_rfl)
      (OpenSpec.preRow_of_cond 8 hx (by kernel_rfl) (fun k hk => by cases hk) (by kernel_rfl) (laid_met os))) ?_
  intro W base args ds gs before hval hW _ _ hwt hL _ _
  exact contract H enc W base args ds gs before hval hW hL hwt

theorem said : Rows.InspectRestrictedSaid :=
  OpenClaim.holds_of_cond 8 Tryd.f8 rfl rfl rfl rfl rfl rfl rfl ⟨rfl, rfl, rfl, rfl, rfl⟩ rfl rfl rfl rfl rfl (by kernel_rfl) Tryd.func8 (by kernel_rfl)
    (of_decide_eq_true (by kernel_rfl)) (by unfold Func.isWrapper; first | (rw [if_pos (by decide +kernel)]; kernel_rfl) | (rw [if_neg (by decide +kernel)]; exact ⟨rfl, rfl⟩))
    (fun os started H enc _ F => by rw [OpenClaim.pre_eq_preRow]; exact lifted os started H enc F)

theorem plain (f : FuncId) (fn : Func) (hf : Tryd.pinned.checked.prog.funcNamed "cleanroom/cleanroomlaw23.InspectRestricted" = some f) (hfn : Tryd.pinned.checked.prog.funcs[f]? = some fn) :
    false = Tryd.pinned.checked.prog.looks [] ∧ ∀ (j : Nat) t, fn.params[j]? = some t → Tryd.pinned.checked.prog.wantsStandIn t = false := by
  obtain rfl : f = 8 := Option.some.inj ((show Tryd.prog.funcNamed "cleanroom/cleanroomlaw23.InspectRestricted" = some 8 by kernel_rfl).symm.trans hf) |>.symm
  obtain rfl : fn = Tryd.f8 := (Option.some.inj (Tryd.func8.symm.trans hfn)).symm
  refine ⟨by kernel_rfl, fun j t ht => ?_⟩
  rw [Tryd.params8] at ht
  have hm : t = 23 ∨ t = 3 := by simpa using Array.mem_of_getElem? ht
  rcases hm with rfl | rfl
  · exact (show Tryd.prog.wantsStandIn 23 = false by kernel_rfl)
  · exact (show Tryd.prog.wantsStandIn 3 = false by kernel_rfl)

theorem card : Rows.InspectRestrictedCardSaid :=
  Claim7.holds_tied_plain_at .later [] _ _ _ _ said (fun _ h => by cases h) (by kernel_rfl) (fun _ h => by cases h) inspectRestricted_row_tie rfl ⟨rfl, rfl⟩ (by kernel_rfl) rfl plain (by kernel_rfl)
end restricted
#print axioms restricted.card
end Go.Proofs.YtkdjebioapholaaDoor
