/-
  For every input, cleanroomlaw14.TransitionSwitches returns true and its arguments read behind the call as they read before (the statement of the seat). Conditions: none.
-/
import Derived.Test.YtkcjhljbgjpklaaUA08
import Derived.Test.YtkcjhljbgjpklaaUA03
import Derived.Test.YtkcjhljbgjpklaaRows
import Derived.LaidLaws
import Derived.WalkKit
import Derived.ProofKit
import Derived.OpenShut
import Derived.Deep.DeepHandedRow
set_option maxRecDepth 100000
set_option maxHeartbeats 4000000
noncomputable section
namespace Go.Proofs.Ytkcjhljbgjpklaa
open Go Tr
open Go.ChangeShapes Go.WideShapes Go.ChangeAt Go.RowKit Go.ChangeMaps
namespace switchesT
open Classical in
def M:aN:=fun args=>if fu Try.prog 8 Try.f7.params.toList args then some (.bool true) else none
theorem EI:an Try.prog Cy.GC 7 M:=by
 refine an.of_ev (E:=ax Cy.GC Tr.fsL) (aq Tr.Fu) rfl at7 KN 1 ?_
 intro args r h
 unfold M at h
 split at h
 ·rename_i ha
  injection h with h; subst h
  exact Tr.ev7L args ha
 ·cases h
theorem A7 (H:Type) (enc:TypeId × Value->H) (W:World) (base:Nat) (args:Array Value) (ds gs:List (DataW H)) (before:List MemPlace)
  (hval:∀(j:Nat) t v,Try.f7.params[j]?=some t->args[j]?=some v->Value.okWide Try.prog W .any base t v)
  (hW:DataW.Whole enc Try.prog Try.f7.params.toList Rows.transitionSwitchesSpec.vars false W args.toList ds gs before) (_hL:laidMetH Try.prog Rows.transitionSwitchesRow.laid W) :
  Calls Try.prog 7 args W fun e W'=>∃v,e=.returned v/\Rows.transitionSwitchesSpec.post enc Try.prog Try.f7 false true false false W args v W':=
 rL EI (fun args h=>by unfold M; rw [if_pos h]) (fun ds hds=>by
  rw [show Try.f7.params.toList.length=1 by kernel_rfl] at hds
  match ds,hds with
  | [d0],_=>rfl) rfl (by kernel_rfl) (by kernel_rfl) (tb:=4) (by kernel_rfl) Try.underlying4 hval hW (Tr.IU)
def wit:Array Value:=#[.agg #[.slice none 0 0,.int .i64 0,.int .i64 0,.int .i64 0,.slice none 0 0,.int .i64 0]]
theorem AK (os:Os):laidMet Try.prog Rows.transitionSwitchesRow.laid ((Tr.nV os).forCall (fun _ _=>0) ⟨#[],wit,[]⟩).memory:=
 laidMet_of_run' 8 (by kernel_rfl) (by kernel_rfl)
theorem reads (os:Os) {H:Type} (enc:TypeId × Value->H):∃places,DataW.whole enc Try.prog ((Tr.nV os).forCall (fun _ _=>0) ⟨#[],wit,[]⟩).memory Try.f7.params.toList Rows.transitionSwitchesSpec.vars false wit.toList 8=some ([.agg [.nil,.agg [.lit (.int .i64 0),.lit (.int .i64 0),.lit (.int .i64 0)],.nil,.lit (.int .i64 0)]],[],places):=
 ⟨[],by kernel_rfl⟩
theorem F3 (os:Os) (started:os.Started) (H:Type) (enc:TypeId × Value->H) (F:Stop.Interp) :
  ReturnsInHanded {} Try.checked os 7 .any ((OpenSpec.ofChange Rows.transitionSwitchesSpec).preRow enc Try.prog Try.f7 Rows.transitionSwitchesRow.domain false Rows.transitionSwitchesRow.laid) (((OpenSpec.ofChange Rows.transitionSwitchesSpec).at F).post enc Try.prog Try.f7 false true false false):=by
 obtain ⟨places,hx⟩:=reads os enc
 refine returnsInHanded_of_row (C:=Try.checked) (s:=OpenSpec.ofChange Rows.transitionSwitchesSpec) ownK started (by kernel_rfl) Try.func7
  (witness_row_at (enc:=enc) (C:=Try.checked) false (Tr.nV os) wit rfl (by kernel_rfl) (by kernel_rfl) (by kernel_rfl)
   (OpenSpec.preRow_of_cond 8 hx (by kernel_rfl) (fun k hk=>by cases hk) (by kernel_rfl) (AK os))) ?_
 intro W base args ds gs before hval hW _ _ _ hL _ _
 exact A7 H enc W base args ds gs before hval hW hL
theorem said:Rows.TransitionSwitchesSaid:=
 OpenClaim.holds_of_cond 7 Try.f7 rfl rfl rfl rfl rfl rfl rfl ⟨rfl,rfl,rfl,rfl,rfl⟩ rfl rfl rfl rfl rfl (by kernel_rfl) Try.func7 (by kernel_rfl)
  (of_decide_eq_true (by kernel_rfl)) (by unfold Func.isWrapper; first | (rw [if_pos (by decide +kernel)]; kernel_rfl) | (rw [if_neg (by decide +kernel)]; exact ⟨rfl,rfl⟩))
  (fun os started H enc _ F=>by rw [OpenClaim.pre_eq_preRow]; exact F3 os started H enc F)
end switchesT
#print axioms switchesT.said
end Go.Proofs.Ytkcjhljbgjpklaa
