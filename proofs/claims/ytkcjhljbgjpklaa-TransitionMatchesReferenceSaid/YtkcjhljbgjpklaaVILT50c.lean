/-
  For every input, cleanroomlaw14.TransitionMatchesReference returns true and its arguments read behind the call as they read before (the statement of the seat). Conditions: none.
-/
import Derived.Test.YtkcjhljbgjpklaaVI10
import Derived.Test.YtkcjhljbgjpklaaVI03
import Derived.Test.YtkcjhljbgjpklaaRows
import Derived.LaidLaws
import Derived.WalkKit
import Derived.ProofKit
import Derived.OpenShut
import Derived.Deep.DeepHandedRow
set_option maxRecDepth 100000
set_option maxHeartbeats 4000000
noncomputable section
namespace Go.Proofs.Ytkcjhljbgjpklaa
open Go Tr
open Go.ChangeShapes Go.WideShapes Go.ChangeAt Go.RowKit Go.ChangeMaps
namespace matchesT
open Classical in
def M:aU:=fun args=>if gK Try.prog 8 Try.f3.params.toList args then some (.bool true) else none
theorem IH:ax Try.prog Cy.GC 3 M:=by
 refine ax.of_ev (E:=aw Cy.GC Tr.fs3) (ay Tr.JE) rfl at3 PQ 1 ?_
 intro args r h
 unfold M at h
 split at h
 ·rename_i ha
  injection h with h; subst h
  exact Tr.ev3L args ha
 ·cases h
theorem En (H:Type) (enc:TypeId × Value->H) (W:World) (base:Nat) (args:Array Value) (ds gs:List (DataW H)) (before:List MemPlace)
  (hval:∀(j:Nat) t v,Try.f3.params[j]?=some t->args[j]?=some v->Value.okWide Try.prog W .any base t v)
  (hW:DataW.Whole enc Try.prog Try.f3.params.toList Rows.transitionMatchesReferenceSpec.vars false W args.toList ds gs before) (_hL:laidMetH Try.prog Rows.transitionMatchesReferenceRow.laid W) :
  Calls Try.prog 3 args W fun e W'=>∃v,e=.returned v/\Rows.transitionMatchesReferenceSpec.post enc Try.prog Try.f3 false true false false W args v W':=
 uH IH (fun args h=>by unfold M; rw [RH h]) (fun ds hds=>by
  rw [show Try.f3.params.toList.length=6 by kernel_rfl] at hds
  match ds,hds with
  | [d0,d1,d2,d3,d4,d5],_=>rfl) rfl (by kernel_rfl) (by kernel_rfl) (tb:=4) (by kernel_rfl) Try.underlying4 hval hW (Tr.NG)
def wit:Array Value:=#[.agg #[.slice none 0 0,.int .i64 0,.int .i64 0,.int .i64 0,.int .i64 0],.slice none 0 0,.int .i64 0,.slice none 0 0,.int .i64 0,.agg #[.slice none 0 0,.int .i64 0,.int .i64 0,.int .i64 0,.slice none 0 0,.int .i64 0]]
theorem D5 (os:Os):laidMet Try.prog Rows.transitionMatchesReferenceRow.laid ((Tr.qm os).forCall (fun _ _=>0) ⟨#[],wit,[]⟩).memory:=
 laidMet_of_run' 8 (by kernel_rfl) (by kernel_rfl)
theorem reads (os:Os) {H:Type} (enc:TypeId × Value->H):∃places,DataW.whole enc Try.prog ((Tr.qm os).forCall (fun _ _=>0) ⟨#[],wit,[]⟩).memory Try.f3.params.toList Rows.transitionMatchesReferenceSpec.vars false wit.toList 8=some ([.agg [.nil,.lit (.int .i64 0),.lit (.int .i64 0),.lit (.int .i64 0),.lit (.int .i64 0)],.nil,.lit (.int .i64 0),.nil,.lit (.int .i64 0),.agg [.nil,.agg [.lit (.int .i64 0),.lit (.int .i64 0),.lit (.int .i64 0)],.nil,.lit (.int .i64 0)]],[],places):=
 ⟨[],by kernel_rfl⟩
theorem Ke (os:Os) (started:os.Started) (H:Type) (enc:TypeId × Value->H) (F:Stop.Interp) :
  ReturnsInHanded {} Try.checked os 3 .any ((OpenSpec.ofChange Rows.transitionMatchesReferenceSpec).preRow enc Try.prog Try.f3 Rows.transitionMatchesReferenceRow.domain false Rows.transitionMatchesReferenceRow.laid) (((OpenSpec.ofChange Rows.transitionMatchesReferenceSpec).at F).post enc Try.prog Try.f3 false true false false):=by
 obtain ⟨places,hx⟩:=reads os enc
 refine returnsInHanded_of_row (C:=Try.checked) (s:=OpenSpec.ofChange Rows.transitionMatchesReferenceSpec) ownK started (by kernel_rfl) Try.func3
  (witness_row_at (enc:=enc) (C:=Try.checked) false (Tr.qm os) wit rfl (by kernel_rfl) (by kernel_rfl) (by kernel_rfl)
   (OpenSpec.preRow_of_cond 8 hx (by kernel_rfl) (fun k hk=>by cases hk) (by kernel_rfl) (D5 os))) ?_
 intro W base args ds gs before hval hW _ _ _ hL _ _
 exact En H enc W base args ds gs before hval hW hL
theorem said:Rows.TransitionMatchesReferenceSaid:=
 OpenClaim.holds_of_cond 3 Try.f3 rfl rfl rfl rfl rfl rfl rfl ⟨rfl,rfl,rfl,rfl,rfl⟩ rfl rfl rfl rfl rfl (by kernel_rfl) Try.func3 (by kernel_rfl)
  (Ue (by kernel_rfl)) (by unfold Func.isWrapper; first | (rw [RH (by decide +kernel)]; kernel_rfl) | (rw [RK (by decide +kernel)]; exact ⟨rfl,rfl⟩))
  (fun os started H enc _ F=>by rw [OpenClaim.pre_eq_preRow]; exact Ke os started H enc F)
end matchesT
#print axioms matchesT.said
end Go.Proofs.Ytkcjhljbgjpklaa
