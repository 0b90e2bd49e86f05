/-
  For every input, cleanroomtop.TopChanged returns true and its arguments read behind the call as they read before (the statement of the seat). Conditions: none.
-/
import Derived.Test.YtfkcoekicjjndaaGreatVC09
import Derived.Test.YtfkcoekicjjndaaGreatVC03
import Derived.Test.YtfkcoekicjjndaaGreatRows
import Derived.LaidLaws
import Derived.WalkKit
import Derived.ProofKit
import Derived.OpenShut
import Derived.Deep.DeepHandedRow
set_option maxRecDepth 100000
set_option maxHeartbeats 4000000
noncomputable section
namespace Go.Proofs.YtfkcoekicjjndaaGreat
open Go Tr Tr.Ch
open Go.ChangeShapes Go.WideShapes Go.ChangeAt Go.RowKit Go.ChangeMaps
namespace changedT
open Classical in
def M:aI:=fun args=>if fD Tryz.prog 8 Tryz.f5.params.toList args then some (.bool true) else none
theorem Hc:an Tryz.prog Cy.GC 5 M:=by
 refine an.of_ev (E:=ai Cy.GC (Tr.Ch.fsC Sh.M6)) (ag Tr.Ch.sound5) rfl at5 OV 3 ?_
 intro args r h
 unfold M at h
 split at h
 ·rename_i ha
  injection h with h; subst h
  exact Tr.Ch.ev5L args ha
 ·cases h
theorem Bl (H:Type) (enc:TypeId × Value->H) (W:World) (base:Nat) (args:Array Value) (ds gs:List (DataW H)) (before:List MemPlace)
  (hval:∀(j:Nat) t v,Tryz.f5.params[j]?=some t->args[j]?=some v->Value.okWide Tryz.prog W .any base t v)
  (hW:DataW.Whole enc Tryz.prog Tryz.f5.params.toList Rows.topChangedSpec.vars false W args.toList ds gs before) (_hL:laidMetH Tryz.prog Rows.topChangedRow.laid W) :
  Calls Tryz.prog 5 args W fun e W'=>∃v,e=.returned v/\Rows.topChangedSpec.post enc Tryz.prog Tryz.f5 false true false false W args v W':=
 rF Hc (fun args h=>by unfold M; rw [RL h]) (fun ds hds=>by
  rw [show Tryz.f5.params.toList.length=5 by kernel_rfl] at hds
  match ds,hds with
  | [d0,d1,d2,d3,d4],_=>rfl) rfl (by kernel_rfl) (by kernel_rfl) (tb:=4) (by kernel_rfl) Tryz.underlying4 hval hW (Tr.Ch.grel0)
def wit:Array Value:=#[.slice none 0 0,.agg #[.int .i64 0,.int .i64 0,.int .i64 0],.slice none 0 0,.int .i64 0,.int .i64 0]
theorem AZ (os:Os):laidMet Tryz.prog Rows.topChangedRow.laid ((Tr.Ch.laidWorld os).forCall (fun _ _=>0) ⟨#[],wit,[]⟩).memory:=
 laidMet_of_run' 8 (by kernel_rfl) (by kernel_rfl)
theorem reads (os:Os) {H:Type} (enc:TypeId × Value->H):∃places,DataW.whole enc Tryz.prog ((Tr.Ch.laidWorld os).forCall (fun _ _=>0) ⟨#[],wit,[]⟩).memory Tryz.f5.params.toList Rows.topChangedSpec.vars false wit.toList 8=some ([.nil,.agg [.lit (.int .i64 0),.lit (.int .i64 0),.lit (.int .i64 0)],.nil,.lit (.int .i64 0),.lit (.int .i64 0)],[],places):=
 ⟨[],by kernel_rfl⟩
theorem Jf (os:Os) (started:os.Started) (H:Type) (enc:TypeId × Value->H) (F:Stop.Interp) :
  ReturnsInHanded {} Tryz.checked os 5 .any ((OpenSpec.ofChange Rows.topChangedSpec).preRow enc Tryz.prog Tryz.f5 Rows.topChangedRow.domain false Rows.topChangedRow.laid) (((OpenSpec.ofChange Rows.topChangedSpec).at F).post enc Tryz.prog Tryz.f5 false true false false):=by
 obtain ⟨places,hx⟩:=reads os enc
 refine returnsInHanded_of_row (C:=Tryz.checked) (s:=OpenSpec.ofChange Rows.topChangedSpec) ownK started (by kernel_rfl) Tryz.func5
  (witness_row_at (enc:=enc) (C:=Tryz.checked) false (Tr.Ch.laidWorld os) wit rfl (by kernel_rfl) (by kernel_rfl) (by kernel_rfl)
   (OpenSpec.preRow_of_cond 8 hx (by kernel_rfl) (fun k hk=>by cases hk) (by kernel_rfl) (AZ os))) ?_
 intro W base args ds gs before hval hW _ _ _ hL _ _
 exact Bl H enc W base args ds gs before hval hW hL
theorem said:Rows.TopChangedSaid:=
 OpenClaim.holds_of_cond 5 Tryz.f5 rfl rfl rfl rfl rfl rfl rfl ⟨rfl,rfl,rfl,rfl,rfl⟩ rfl rfl rfl rfl rfl (by kernel_rfl) Tryz.func5 (by kernel_rfl)
  (of_decide_eq_true (by kernel_rfl)) (by unfold Func.isWrapper; first | (rw [RL (by decide +kernel)]; kernel_rfl) | (rw [RN (by decide +kernel)]; exact ⟨rfl,rfl⟩))
  (fun os started H enc _ F=>by rw [OpenClaim.pre_eq_preRow]; exact Jf os started H enc F)
end changedT
#print axioms changedT.said
end Go.Proofs.YtfkcoekicjjndaaGreat
