/-
  For every input, cleanroomtop.TopShared returns true and its arguments read behind the call as they read before (the statement of the seat). Conditions: none.
-/
import Derived.Test.YtfkcoekicjjndaaGreatUA08
import Derived.Test.YtfkcoekicjjndaaGreatUA03
import Derived.Test.YtfkcoekicjjndaaGreatRows
import Derived.LaidLaws
import Derived.WalkKit
import Derived.ProofKit
import Derived.OpenShut
import Derived.Deep.DeepHandedRow
set_option maxRecDepth 100000
set_option maxHeartbeats 4000000
noncomputable section
namespace Go.Proofs.YtfkcoekicjjndaaGreat
open Go Sh
open Go.ChangeShapes Go.WideShapes Go.ChangeAt Go.RowKit Go.ChangeMaps
namespace sharedT
open Classical in
def M:aN:=fun args=>if eE Tryz.prog 8 Tryz.f3.params.toList args then some (.bool true) else none
theorem Ev:ak Tryz.prog Sh.GS 3 M:=by
 refine ak.of_ev (E:=ac Sh.GS (Sh.fs3 Sh.M6)) (ai Sh.Fh) rfl at3 My 10 ?_
 intro args r h
 unfold M at h
 split at h
 ·rename_i ha
  injection h with h; subst h
  exact Sh.ev3L args ha
 ·cases h
theorem xZ (H:Type) (enc:TypeId × Value->H) (W:World) (base:Nat) (args:Array Value) (ds gs:List (DataW H)) (before:List MemPlace)
  (hval:∀(j:Nat) t v,Tryz.f3.params[j]?=some t->args[j]?=some v->Value.okWide Tryz.prog W .any base t v)
  (hW:DataW.Whole enc Tryz.prog Tryz.f3.params.toList Rows.topSharedSpec.vars false W args.toList ds gs before) (_hL:laidMetH Tryz.prog Rows.topSharedRow.laid W) :
  Calls Tryz.prog 3 args W fun e W'=>∃v,e=.returned v/\Rows.topSharedSpec.post enc Tryz.prog Tryz.f3 false true false false W args v W':=
 pM Ev (fun args h=>by unfold M; rw [if_pos h]) (fun ds hds=>by
  rw [show Tryz.f3.params.toList.length=10 by kernel_rfl] at hds
  match ds,hds with
  | [d0,d1,d2,d3,d4,d5,d6,d7,d8,d9],_=>rfl) rfl (by kernel_rfl) (by kernel_rfl) (tb:=4) (by kernel_rfl) Tryz.underlying4 hval hW (Sh.LB)
def wit:Array Value:=#[.slice none 0 0,.agg #[.int .i64 0,.int .i64 0,.int .i64 0,.int .i64 0],.slice none 0 0,.slice none 0 0,.agg #[.int .i64 0,.int .i64 0,.int .i64 0,.int .i64 0],.slice none 0 0,.slice none 0 0,.slice none 0 0,.int .i64 0,.int .i64 0]
theorem xJ (os:Os):laidMet Tryz.prog Rows.topSharedRow.laid ((Sh.mp os).forCall (fun _ _=>0) ⟨#[],wit,[]⟩).memory:=
 laidMet_of_run' 8 (by kernel_rfl) (by kernel_rfl)
theorem reads (os:Os) {H:Type} (enc:TypeId × Value->H):∃places,DataW.whole enc Tryz.prog ((Sh.mp os).forCall (fun _ _=>0) ⟨#[],wit,[]⟩).memory Tryz.f3.params.toList Rows.topSharedSpec.vars false wit.toList 8=some ([.nil,.agg [.lit (.int .i64 0),.lit (.int .i64 0),.lit (.int .i64 0),.lit (.int .i64 0)],.nil,.nil,.agg [.lit (.int .i64 0),.lit (.int .i64 0),.lit (.int .i64 0),.lit (.int .i64 0)],.nil,.nil,.nil,.lit (.int .i64 0),.lit (.int .i64 0)],[],places):=
 ⟨[],by kernel_rfl⟩
theorem GP (os:Os) (started:os.Started) (H:Type) (enc:TypeId × Value->H) (F:Stop.Interp) :
  ReturnsInHanded {} Tryz.checked os 3 .any ((OpenSpec.ofChange Rows.topSharedSpec).preRow enc Tryz.prog Tryz.f3 Rows.topSharedRow.domain false Rows.topSharedRow.laid) (((OpenSpec.ofChange Rows.topSharedSpec).at F).post enc Tryz.prog Tryz.f3 false true false false):=by
 obtain ⟨places,hx⟩:=reads os enc
 refine returnsInHanded_of_row (C:=Tryz.checked) (s:=OpenSpec.ofChange Rows.topSharedSpec) ownK started (by kernel_rfl) Tryz.func3
  (witness_row_at (enc:=enc) (C:=Tryz.checked) false (Sh.mp os) wit rfl (by kernel_rfl) (by kernel_rfl) (by kernel_rfl)
   (OpenSpec.preRow_of_cond 8 hx (by kernel_rfl) (fun k hk=>by cases hk) (by kernel_rfl) (xJ os))) ?_
 intro W base args ds gs before hval hW _ _ _ hL _ _
 exact xZ H enc W base args ds gs before hval hW hL
theorem said:Rows.TopSharedSaid:=
 OpenClaim.holds_of_cond 3 Tryz.f3 rfl rfl rfl rfl rfl rfl rfl ⟨rfl,rfl,rfl,rfl,rfl⟩ rfl rfl rfl rfl rfl (by kernel_rfl) Tryz.func3 (by kernel_rfl)
  (of_decide_eq_true (by kernel_rfl)) (by unfold Func.isWrapper; first | (rw [if_pos (by decide +kernel)]; kernel_rfl) | (rw [if_neg (by decide +kernel)]; exact ⟨rfl,rfl⟩))
  (fun os started H enc _ F=>by rw [OpenClaim.pre_eq_preRow]; exact GP os started H enc F)
end sharedT
#print axioms sharedT.said
end Go.Proofs.YtfkcoekicjjndaaGreat
