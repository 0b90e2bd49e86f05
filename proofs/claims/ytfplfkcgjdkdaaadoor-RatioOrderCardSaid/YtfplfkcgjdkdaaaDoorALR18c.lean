/-
  For every input, cleanroomlaw03.RatioOrder returns true and its arguments read behind the call as they read before (the card of the seat). Conditions: none but those of the given row: the named variables read as laid when the call begins.
-/
import Derived.Test.YtfplfkcgjdkdaaaDoorA05
import Derived.Test.YtfplfkcgjdkdaaaDoorA07
import Derived.Test.YtfplfkcgjdkdaaaDoorA03
import Derived.Test.YtfplfkcgjdkdaaaDoorCards
import Derived.Test.YtfplfkcgjdkdaaaDoorTie
import Derived.WalkKit
import Derived.ProofKit
import Derived.OpenShut
import Derived.Deep.DeepHandedRow
namespace Go.Proofs.YtfplfkcgjdkdaaaDoor
open Go
open Go.ChangeShapes Go.WideShapes Go.ChangeAt Go.RowKit Go.ChangeMaps

namespace orderP
open Classical in
noncomputable def M : PModel := fun args => if LawArgs Tryd.prog 8 Tryd.f7.params.toList args then some (.bool true) else none
theorem spec : PureSpec Tryd.prog Rat0.GR 7 M := by
  refine PureSpec.of_ev (E := envOf Rat0.GR Rat0.fsX) (envOf_sound Rat0.soundX) rfl at7 comp7 1 ?_
  intro args r h
  unfold M at h
  split at h
  · rename_i ha
    injection h with h; subst h
    exact Rat0.ev7L args ha
  · cases h

set_option maxRecDepth 100000 in
theorem contract (H : Type) (enc : TypeId × Value → H) (W : World) (base : Nat) (args : Array Value) (ds gs : List (DataW H)) (before : List MemPlace)
    (hval : ∀ (j : Nat) t v, Tryd.f7.params[j]? = some t → args[j]? = some v → Value.okWide Tryd.prog W .any base t v)
    (hW : DataW.Whole enc Tryd.prog Tryd.f7.params.toList Rows.ratioOrderSpec.vars false W args.toList ds gs before) (hL : laidMetH Tryd.prog Rows.ratioOrderRow.laid W) :
    Calls Tryd.prog 7 args W fun e W' => ∃ v, e = .returned v ∧ Rows.ratioOrderSpec.post enc Tryd.prog Tryd.f7 false true false false W args v W' :=
  law_contract spec (fun args h => by unfold M; rw [if_pos h]) (fun ds hds => by
    rw [show Tryd.f7.params.toList.length = 1 by kernel_rfl] at hds
    match ds, hds with
    | [d0], _ => rfl) rfl (by kernel_rfl) (by kernel_rfl) (tb := 4) (by kernel_rfl) Tryd.underlying4 hval hW (Rat0.grel_of hL)

noncomputable def wit : Array Value := #[.agg #[.int .i64 0, .int .i64 0, .int .i64 0, .int .i64 0, .int .i64 0, .int .i64 0]]
theorem laid_met (os : Os) : laidMet Tryd.prog Rows.ratioOrderRow.laid ((Rat0.laidWorld os).forCall (fun _ _ => 0) ⟨#[], wit, []⟩).memory :=
  Rat0.laidW os
theorem reads (os : Os) {H : Type} (enc : TypeId × Value → H) : ∃ places, DataW.whole enc Tryd.prog ((Rat0.laidWorld os).forCall (fun _ _ => 0) ⟨#[], wit, []⟩).memory Tryd.f7.params.toList Rows.ratioOrderSpec.vars false wit.toList 8 = some ([.agg [.agg [.lit (.int .i64 0), .lit (.int .i64 0)], .agg [.lit (.int .i64 0), .lit (.int .i64 0)], .agg [.lit (.int .i64 0), .lit (.int .i64 0)]]], [], places) :=
  ⟨[], by kernel_rfl⟩

set_option maxRecDepth 100000 in
theorem lifted (os : Os) (started : os.Started) (H : Type) (enc : TypeId × Value → H) (F : Stop.Interp) :
    ReturnsInHanded {} Tryd.checked os 7 .any ((OpenSpec.ofChange Rows.ratioOrderSpec).preRow enc Tryd.prog Tryd.f7 Rows.ratioOrderRow.domain false Rows.ratioOrderRow.laid) (((OpenSpec.ofChange Rows.ratioOrderSpec).at F).post enc Tryd.prog Tryd.f7 false true false false) := by
  obtain ⟨places, hx⟩ := reads os enc
  refine returnsInHanded_of_row (C := Tryd.checked) (s := OpenSpec.ofChange Rows.ratioOrderSpec) Rat0.ownK started (by kernel_rfl) Tryd.func7
    (witness_row_at (enc := enc) (C := Tryd.checked) false (Rat0.laidWorld os) wit rfl (by kernel_rfl) (by kernel_rfl) (by kernel_rfl)
      (OpenSpec.preRow_of_cond 8 hx (by kernel_rfl) (fun k hk => by cases hk) (by kernel_rfl) (laid_met os))) ?_
  intro W base args ds gs before hval hW _ _ _ hL _ _
  exact contract H enc W base args ds gs before hval hW hL

theorem said : Rows.RatioOrderSaid :=
  OpenClaim.holds_of_cond 7 Tryd.f7 rfl rfl rfl rfl rfl rfl rfl ⟨rfl, rfl, rfl, rfl, rfl⟩ rfl rfl rfl rfl rfl (by kernel_rfl) Tryd.func7 (by kernel_rfl)
    (of_decide_eq_true (by kernel_rfl)) (by unfold Func.isWrapper; first | (rw [if_pos (by decide +kernel)]; kernel_rfl) | (rw [if_neg (by decide +kernel)]; exact ⟨rfl, rfl⟩))
    (fun os started H enc _ F => by rw [OpenClaim.pre_eq_preRow]; exact lifted os started H enc F)

theorem plain (f : FuncId) (fn : Func) (hf : Tryd.pinned.checked.prog.funcNamed "cleanroom/cleanroomlaw03.RatioOrder" = some f) (hfn : Tryd.pinned.checked.prog.funcs[f]? = some fn) :
    true = Tryd.pinned.checked.prog.looks [] ∧ ∀ (j : Nat) t, fn.params[j]? = some t → Tryd.pinned.checked.prog.wantsStandIn t = false := by
  obtain rfl : f = 7 := Option.some.inj ((show Tryd.prog.funcNamed "cleanroom/cleanroomlaw03.RatioOrder" = some 7 by kernel_rfl).symm.trans hf) |>.symm
  obtain rfl : fn = Tryd.f7 := (Option.some.inj (Tryd.func7.symm.trans hfn)).symm
  refine ⟨by kernel_rfl, fun j t ht => ?_⟩
  rw [Tryd.params7] at ht
  have hm : t = 40 := by simpa using Array.mem_of_getElem? ht
  subst hm
  exact (show Tryd.prog.wantsStandIn 40 = false by kernel_rfl)

theorem card : Rows.RatioOrderCardSaid :=
  Claim7.holds_tied_plain_at .later [] _ _ _ _ said (fun _ h => by cases h) (by kernel_rfl) (fun _ h => by cases h) ratioOrder_row_tie rfl ⟨rfl, rfl⟩ (by kernel_rfl) rfl plain (by kernel_rfl)
end orderP
#print axioms orderP.card
end Go.Proofs.YtfplfkcgjdkdaaaDoor
