/-
  For every input, cleanroomlaw14.TransitionSchedulesMatchReference returns true and its arguments read behind the call as they read before (the statement of the seat). Conditions: none.
-/
import Derived.Test.YtkcjhljbgjpklaaGreatVZ10
import Derived.Test.YtkcjhljbgjpklaaGreatVZ03
import Derived.Test.YtkcjhljbgjpklaaGreatRows
import Derived.LaidLaws
import Derived.WalkKit
import Derived.ProofKit
import Derived.OpenShut
import Derived.Deep.DeepHandedRow
set_option maxRecDepth 100000
set_option maxHeartbeats 4000000
noncomputable section
namespace Go.Proofs.YtkcjhljbgjpklaaGreat
open Go Tr Sm
open Go.ChangeShapes Go.WideShapes Go.ChangeAt Go.RowKit Go.ChangeMaps
namespace schedT
open Classical in
def M:aU:=fun args=>if ic Tryz.prog 8 Tryz.f3.params.toList args then some (.bool true) else none
theorem Jl:aw Tryz.prog Cy.GC 3 M:=by
 refine aw.of_ev (E:=aq Cy.GC Sm.fs3) (ax Sm.Kh) rfl (by kernel_rfl) QR 3 ?_
 intro args r h
 unfold M at h
 split at h
 ·rename_i ha
  injection h with h; subst h
  exact Sm.ev3L args ha
 ·cases h
theorem ES (H:Type) (enc:TypeId × Value->H) (W:World) (base:Nat) (args:Array Value) (ds gs:List (DataW H)) (before:List MemPlace)
  (hval:∀(j:Nat) t v,Tryz.f3.params[j]?=some t->args[j]?=some v->Value.okWide Tryz.prog W .any base t v)
  (hW:DataW.Whole enc Tryz.prog Tryz.f3.params.toList Rows.transitionSchedulesMatchReferenceSpec.vars false W args.toList ds gs before) (_hL:laidMetH Tryz.prog Rows.transitionSchedulesMatchReferenceRow.laid W) :
  Calls Tryz.prog 3 args W fun e W'=>∃v,e=.returned v/\Rows.transitionSchedulesMatchReferenceSpec.post enc Tryz.prog Tryz.f3 false true false false W args v W':=
 vf Jl (fun args h=>by unfold M; rw [SA h]) (fun ds hds=>by
  rw [show Tryz.f3.params.toList.length=3 by kernel_rfl] at hds
  match ds,hds with
  | [d0,d1,d2],_=>rfl) rfl (by kernel_rfl) (by kernel_rfl) (tb:=4) (by kernel_rfl) Tryz.underlying4 hval hW (Sm.Om)
def wit:Array Value:=#[.agg #[.slice none 0 0,.int .i64 0,.int .i64 0,.int .i64 0,.slice none 0 0,.int .i64 0],.agg #[.int .i64 0,.slice none 0 0,.slice none 0 0,.slice none 0 0],.int .i64 0]
theorem EA (os:Os):laidMet Tryz.prog Rows.transitionSchedulesMatchReferenceRow.laid ((Sm.qB os).forCall (fun _ _=>0) ⟨#[],wit,[]⟩).memory:=
 laidMet_of_run' 8 (by kernel_rfl) (by kernel_rfl)
theorem reads (os:Os) {H:Type} (enc:TypeId × Value->H):∃places,DataW.whole enc Tryz.prog ((Sm.qB os).forCall (fun _ _=>0) ⟨#[],wit,[]⟩).memory Tryz.f3.params.toList Rows.transitionSchedulesMatchReferenceSpec.vars false wit.toList 8=some ([.agg [.nil,.agg [.lit (.int .i64 0),.lit (.int .i64 0),.lit (.int .i64 0)],.nil,.lit (.int .i64 0)],.agg [.lit (.int .i64 0),.nil,.nil,.nil],.lit (.int .i64 0)],[],places):=
 ⟨[],by kernel_rfl⟩
theorem KW (os:Os) (started:os.Started) (H:Type) (enc:TypeId × Value->H) (F:Stop.Interp) :
  ReturnsInHanded {} Tryz.checked os 3 .any ((OpenSpec.ofChange Rows.transitionSchedulesMatchReferenceSpec).preRow enc Tryz.prog Tryz.f3 Rows.transitionSchedulesMatchReferenceRow.domain false Rows.transitionSchedulesMatchReferenceRow.laid) (((OpenSpec.ofChange Rows.transitionSchedulesMatchReferenceSpec).at F).post enc Tryz.prog Tryz.f3 false true false false):=by
 obtain ⟨places,hx⟩:=reads os enc
 refine returnsInHanded_of_row (C:=Tryz.checked) (s:=OpenSpec.ofChange Rows.transitionSchedulesMatchReferenceSpec) ownK started (by kernel_rfl) Tryz.func3
  (witness_row_at (enc:=enc) (C:=Tryz.checked) false (Sm.qB os) wit rfl (by kernel_rfl) (by kernel_rfl) (by kernel_rfl)
   (OpenSpec.preRow_of_cond 8 hx (by kernel_rfl) (fun k hk=>by cases hk) (by kernel_rfl) (EA os))) ?_
 intro W base args ds gs before hval hW _ _ _ hL _ _
 exact ES H enc W base args ds gs before hval hW hL
theorem said:Rows.TransitionSchedulesMatchReferenceSaid:=
 OpenClaim.holds_of_cond 3 Tryz.f3 rfl rfl rfl rfl rfl rfl rfl ⟨rfl,rfl,rfl,rfl,rfl⟩ rfl rfl rfl rfl rfl (by kernel_rfl) Tryz.func3 (by kernel_rfl)
  (UI (by kernel_rfl)) (by unfold Func.isWrapper; first | (rw [SA (by decide +kernel)]; kernel_rfl) | (rw [SD (by decide +kernel)]; exact ⟨rfl,rfl⟩))
  (fun os started H enc _ F=>by rw [OpenClaim.pre_eq_preRow]; exact KW os started H enc F)
end schedT
#print axioms schedT.said
end Go.Proofs.YtkcjhljbgjpklaaGreat
