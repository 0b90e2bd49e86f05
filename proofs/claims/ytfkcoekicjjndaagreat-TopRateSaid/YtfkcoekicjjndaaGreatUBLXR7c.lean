/-
  For every input, cleanroomtop.TopRate returns true and its arguments read behind the call as they read before (the statement of the seat). Conditions: none.
-/
import Derived.Test.YtfkcoekicjjndaaGreatUB08
import Derived.Test.YtfkcoekicjjndaaGreatUB03
import Derived.Test.YtfkcoekicjjndaaGreatRows
import Derived.LaidLaws
import Derived.WalkKit
import Derived.ProofKit
import Derived.OpenShut
import Derived.Deep.DeepHandedRow
set_option maxRecDepth 100000
set_option maxHeartbeats 4000000
noncomputable section
namespace Go.Proofs.YtfkcoekicjjndaaGreat
open Go Tr Tr.Rt
open Go.ChangeShapes Go.WideShapes Go.ChangeAt Go.RowKit Go.ChangeMaps
namespace rateT
open Classical in
def M:aG:=fun args=>if eF Tryz.prog 8 Tryz.f4.params.toList args then some (.bool true) else none
theorem Dz:ak Tryz.prog Cy.GC 4 M:=by
 refine ak.of_ev (E:=ai Cy.GC (Tr.Rt.fsR Sh.M6)) (aj Tr.Rt.sound4) rfl at4 Kl 3 ?_
 intro args r h
 unfold M at h
 split at h
 ·rename_i ha
  injection h with h; subst h
  exact Tr.Rt.ev4L args ha
 ·cases h
theorem yf (H:Type) (enc:TypeId × Value->H) (W:World) (base:Nat) (args:Array Value) (ds gs:List (DataW H)) (before:List MemPlace)
  (hval:∀(j:Nat) t v,Tryz.f4.params[j]?=some t->args[j]?=some v->Value.okWide Tryz.prog W .any base t v)
  (hW:DataW.Whole enc Tryz.prog Tryz.f4.params.toList Rows.topRateSpec.vars false W args.toList ds gs before) (_hL:laidMetH Tryz.prog Rows.topRateRow.laid W) :
  Calls Tryz.prog 4 args W fun e W'=>∃v,e=.returned v/\Rows.topRateSpec.post enc Tryz.prog Tryz.f4 false true false false W args v W':=
 pL Dz (fun args h=>by unfold M; rw [if_pos h]) (fun ds hds=>by
  rw [show Tryz.f4.params.toList.length=3 by kernel_rfl] at hds
  match ds,hds with
  | [d0,d1,d2],_=>rfl) rfl (by kernel_rfl) (by kernel_rfl) (tb:=4) (by kernel_rfl) Tryz.underlying4 hval hW (Tr.Rt.grel0)
def wit:Array Value:=#[.slice none 0 0,.agg #[.int .i64 0,.int .i64 0,.int .i64 0],.int .i64 0]
theorem xX (os:Os):laidMet Tryz.prog Rows.topRateRow.laid ((Tr.Rt.laidWorld os).forCall (fun _ _=>0) ⟨#[],wit,[]⟩).memory:=
 laidMet_of_run' 8 (by kernel_rfl) (by kernel_rfl)
theorem reads (os:Os) {H:Type} (enc:TypeId × Value->H):∃places,DataW.whole enc Tryz.prog ((Tr.Rt.laidWorld os).forCall (fun _ _=>0) ⟨#[],wit,[]⟩).memory Tryz.f4.params.toList Rows.topRateSpec.vars false wit.toList 8=some ([.nil,.agg [.lit (.int .i64 0),.lit (.int .i64 0),.lit (.int .i64 0)],.lit (.int .i64 0)],[],places):=
 ⟨[],by kernel_rfl⟩
theorem Fz (os:Os) (started:os.Started) (H:Type) (enc:TypeId × Value->H) (F:Stop.Interp) :
  ReturnsInHanded {} Tryz.checked os 4 .any ((OpenSpec.ofChange Rows.topRateSpec).preRow enc Tryz.prog Tryz.f4 Rows.topRateRow.domain false Rows.topRateRow.laid) (((OpenSpec.ofChange Rows.topRateSpec).at F).post enc Tryz.prog Tryz.f4 false true false false):=by
 obtain ⟨places,hx⟩:=reads os enc
 refine returnsInHanded_of_row (C:=Tryz.checked) (s:=OpenSpec.ofChange Rows.topRateSpec) ownK started (by kernel_rfl) Tryz.func4
  (witness_row_at (enc:=enc) (C:=Tryz.checked) false (Tr.Rt.laidWorld os) wit rfl (by kernel_rfl) (by kernel_rfl) (by kernel_rfl)
   (OpenSpec.preRow_of_cond 8 hx (by kernel_rfl) (fun k hk=>by cases hk) (by kernel_rfl) (xX os))) ?_
 intro W base args ds gs before hval hW _ _ _ hL _ _
 exact yf H enc W base args ds gs before hval hW hL
theorem said:Rows.TopRateSaid:=
 OpenClaim.holds_of_cond 4 Tryz.f4 rfl rfl rfl rfl rfl rfl rfl ⟨rfl,rfl,rfl,rfl,rfl⟩ rfl rfl rfl rfl rfl (by kernel_rfl) Tryz.func4 (by kernel_rfl)
  (of_decide_eq_true (by kernel_rfl)) (by unfold Func.isWrapper; first | (rw [if_pos (by decide +kernel)]; kernel_rfl) | (rw [if_neg (by decide +kernel)]; exact ⟨rfl,rfl⟩))
  (fun os started H enc _ F=>by rw [OpenClaim.pre_eq_preRow]; exact Fz os started H enc F)
end rateT
#print axioms rateT.said
end Go.Proofs.YtfkcoekicjjndaaGreat
