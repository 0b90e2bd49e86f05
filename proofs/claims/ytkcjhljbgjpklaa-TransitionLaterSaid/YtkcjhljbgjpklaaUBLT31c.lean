/-
  For every input, cleanroomlaw14.TransitionLater returns true and its arguments read behind the call as they read before (the statement of the seat). Conditions: none.
-/
import Derived.Test.YtkcjhljbgjpklaaUB08
import Derived.Test.YtkcjhljbgjpklaaUB03
import Derived.Test.YtkcjhljbgjpklaaRows
import Derived.LaidLaws
import Derived.WalkKit
import Derived.ProofKit
import Derived.OpenShut
import Derived.Deep.DeepHandedRow
set_option maxRecDepth 100000
set_option maxHeartbeats 4000000
noncomputable section
namespace Go.Proofs.Ytkcjhljbgjpklaa
open Go Tr
open Go.ChangeShapes Go.WideShapes Go.ChangeAt Go.RowKit Go.ChangeMaps
namespace laterT
open Classical in
def M:aO:=fun args=>if fI Try.prog 8 Try.f9.params.toList args then some (.bool true) else none
theorem E7:an Try.prog Cy.GC 9 M:=by
 refine an.of_ev (E:=ax Cy.GC Tr.fsL) (au Tr.F2) rfl at9 LB 1 ?_
 intro args r h
 unfold M at h
 split at h
 ·rename_i ha
  injection h with h; subst h
  exact Tr.ev9L args ha
 ·cases h
theorem Bl (H:Type) (enc:TypeId × Value->H) (W:World) (base:Nat) (args:Array Value) (ds gs:List (DataW H)) (before:List MemPlace)
  (hval:∀(j:Nat) t v,Try.f9.params[j]?=some t->args[j]?=some v->Value.okWide Try.prog W .any base t v)
  (hW:DataW.Whole enc Try.prog Try.f9.params.toList Rows.transitionLaterSpec.vars false W args.toList ds gs before) (_hL:laidMetH Try.prog Rows.transitionLaterRow.laid W) :
  Calls Try.prog 9 args W fun e W'=>∃v,e=.returned v/\Rows.transitionLaterSpec.post enc Try.prog Try.f9 false true false false W args v W':=
 rY E7 (fun args h=>by unfold M; rw [if_pos h]) (fun ds hds=>by
  rw [show Try.f9.params.toList.length=3 by kernel_rfl] at hds
  match ds,hds with
  | [d0,d1,d2],_=>rfl) rfl (by kernel_rfl) (by kernel_rfl) (tb:=4) (by kernel_rfl) Try.underlying4 hval hW (Tr.JH)
def wit:Array Value:=#[.agg #[.slice none 0 0,.int .i64 0,.int .i64 0,.int .i64 0,.slice none 0 0,.int .i64 0],.int .i64 0,.slice none 0 0]
theorem AX (os:Os):laidMet Try.prog Rows.transitionLaterRow.laid ((Tr.nZ os).forCall (fun _ _=>0) ⟨#[],wit,[]⟩).memory:=
 laidMet_of_run' 8 (by kernel_rfl) (by kernel_rfl)
theorem reads (os:Os) {H:Type} (enc:TypeId × Value->H):∃places,DataW.whole enc Try.prog ((Tr.nZ os).forCall (fun _ _=>0) ⟨#[],wit,[]⟩).memory Try.f9.params.toList Rows.transitionLaterSpec.vars false wit.toList 8=some ([.agg [.nil,.agg [.lit (.int .i64 0),.lit (.int .i64 0),.lit (.int .i64 0)],.nil,.lit (.int .i64 0)],.lit (.int .i64 0),.nil],[],places):=
 ⟨[],by kernel_rfl⟩
theorem GE (os:Os) (started:os.Started) (H:Type) (enc:TypeId × Value->H) (F:Stop.Interp) :
  ReturnsInHanded {} Try.checked os 9 .any ((OpenSpec.ofChange Rows.transitionLaterSpec).preRow enc Try.prog Try.f9 Rows.transitionLaterRow.domain false Rows.transitionLaterRow.laid) (((OpenSpec.ofChange Rows.transitionLaterSpec).at F).post enc Try.prog Try.f9 false true false false):=by
 obtain ⟨places,hx⟩:=reads os enc
 refine returnsInHanded_of_row (C:=Try.checked) (s:=OpenSpec.ofChange Rows.transitionLaterSpec) ownK started (by kernel_rfl) Try.func9
  (witness_row_at (enc:=enc) (C:=Try.checked) false (Tr.nZ os) wit rfl (by kernel_rfl) (by kernel_rfl) (by kernel_rfl)
   (OpenSpec.preRow_of_cond 8 hx (by kernel_rfl) (fun k hk=>by cases hk) (by kernel_rfl) (AX os))) ?_
 intro W base args ds gs before hval hW _ _ _ hL _ _
 exact Bl H enc W base args ds gs before hval hW hL
theorem said:Rows.TransitionLaterSaid:=
 OpenClaim.holds_of_cond 9 Try.f9 rfl rfl rfl rfl rfl rfl rfl ⟨rfl,rfl,rfl,rfl,rfl⟩ rfl rfl rfl rfl rfl (by kernel_rfl) Try.func9 (by kernel_rfl)
  (of_decide_eq_true (by kernel_rfl)) (by unfold Func.isWrapper; first | (rw [if_pos (by decide +kernel)]; kernel_rfl) | (rw [if_neg (by decide +kernel)]; exact ⟨rfl,rfl⟩))
  (fun os started H enc _ F=>by rw [OpenClaim.pre_eq_preRow]; exact GE os started H enc F)
end laterT
#print axioms laterT.said
end Go.Proofs.Ytkcjhljbgjpklaa
