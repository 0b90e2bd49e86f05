/-
  For every input, cleanroomlaw13.ClusterBestMatchesReference returns true and its arguments read behind the call as they read before (the statement of the seat). Conditions: none.
-/
import Derived.Test.YtemklhljjaniaaaU08
import Derived.Test.YtemklhljjaniaaaU03
import Derived.Test.YtemklhljjaniaaaRows
import Derived.LaidLaws
import Derived.WalkKit
import Derived.ProofKit
import Derived.OpenShut
import Derived.Deep.DeepHandedRow
set_option maxRecDepth 100000
set_option maxHeartbeats 4000000
noncomputable section
namespace Go.Proofs.Ytemklhljjaniaaa
open Go
open Go.ChangeShapes Go.WideShapes Go.ChangeAt Go.RowKit Go.ChangeMaps
namespace bestMatches
open Classical in
def M : aT := fun args => if fG Try.prog 8 Try.f4.params.toList args then some (.bool true) else none
theorem C1 : aq Try.prog Cy.GC 4 M := by
 refine aq.of_ev (E := au Cy.GC fsQ) (av Dw) rfl at4 HN 1 ?_
 intro args r h
 unfold M at h
 split at h
 ·rename_i ha
  injection h with h; subst h
  exact ev4L args ha
 ·cases h
theorem zn (H : Type) (enc : TypeId × Value -> H) (W : World) (base : Nat) (args : Array Value) (ds gs : List (DataW H)) (before : List MemPlace)
  (hval : ∀ (j : Nat) t v, Try.f4.params[j]? = some t -> args[j]? = some v -> Value.okWide Try.prog W .any base t v)
  (hW : DataW.Whole enc Try.prog Try.f4.params.toList Rows.clusterBestMatchesReferenceSpec.vars false W args.toList ds gs before) (_hL : laidMetH Try.prog Rows.clusterBestMatchesReferenceRow.laid W) :
  Calls Try.prog 4 args W fun e W' => ∃ v, e = .returned v /\ Rows.clusterBestMatchesReferenceSpec.post enc Try.prog Try.f4 false true false false W args v W' :=
 qE C1 (fun args h => by unfold M; rw [if_pos h]) (fun ds hds => by
  rw [show Try.f4.params.toList.length = 4 by kernel_rfl] at hds
  match ds, hds with
  | [d0, d1, d2, d3], _ => rfl) rfl (by kernel_rfl) (by kernel_rfl) (tb := 4) (by kernel_rfl) Try.underlying4 hval hW (F4)
def wit : Array Value := #[.agg #[.int .i64 0, .int .i64 0, .int .i64 0, .int .i64 0, .int .i64 0], .slice none 0 0, .agg #[.int .i64 0, .slice none 0 0, .slice none 0 0, .slice none 0 0], .agg #[.int .i64 0, .int .i64 0, .int .i64 0]]
theorem yY (os : Os) : laidMet Try.prog Rows.clusterBestMatchesReferenceRow.laid ((ne os).forCall (fun _ _ => 0) ⟨#[], wit, []⟩).memory :=
 laidMet_of_run' 8 (by kernel_rfl) (by kernel_rfl)
theorem reads (os : Os) {H : Type} (enc : TypeId × Value -> H) : ∃ places, DataW.whole enc Try.prog ((ne os).forCall (fun _ _ => 0) ⟨#[], wit, []⟩).memory Try.f4.params.toList Rows.clusterBestMatchesReferenceSpec.vars false wit.toList 8 = some ([.agg [.lit (.int .i64 0), .lit (.int .i64 0), .lit (.int .i64 0), .lit (.int .i64 0), .lit (.int .i64 0)], .nil, .agg [.lit (.int .i64 0), .nil, .nil, .nil], .agg [.lit (.int .i64 0), .lit (.int .i64 0), .lit (.int .i64 0)]], [], places) :=
 ⟨[], by kernel_rfl⟩
theorem DJ (os : Os) (started : os.Started) (H : Type) (enc : TypeId × Value -> H) (F : Stop.Interp) :
  ReturnsInHanded {} Try.checked os 4 .any ((OpenSpec.ofChange Rows.clusterBestMatchesReferenceSpec).preRow enc Try.prog Try.f4 Rows.clusterBestMatchesReferenceRow.domain false Rows.clusterBestMatchesReferenceRow.laid) (((OpenSpec.ofChange Rows.clusterBestMatchesReferenceSpec).at F).post enc Try.prog Try.f4 false true false false) := by
 obtain ⟨places, hx⟩ := reads os enc
 refine returnsInHanded_of_row (C := Try.checked) (s := OpenSpec.ofChange Rows.clusterBestMatchesReferenceSpec) ownK started (by kernel_rfl) Try.func4
  (witness_row_at (enc := enc) (C := Try.checked) false (ne os) wit rfl (by kernel_rfl) (by kernel_rfl) (by kernel_rfl)
   (OpenSpec.preRow_of_cond 8 hx (by kernel_rfl) (fun k hk => by cases hk) (by kernel_rfl) (yY os))) ?_
 intro W base args ds gs before hval hW _ _ _ hL _ _
 exact zn H enc W base args ds gs before hval hW hL
theorem said : Rows.ClusterBestMatchesReferenceSaid :=
 OpenClaim.holds_of_cond 4 Try.f4 rfl rfl rfl rfl rfl rfl rfl ⟨rfl, rfl, rfl, rfl, rfl⟩ rfl rfl rfl rfl rfl (by kernel_rfl) Try.func4 (by kernel_rfl)
  (of_decide_eq_true (by kernel_rfl)) (by unfold Func.isWrapper; first | (rw [if_pos (by decide +kernel)]; kernel_rfl) | (rw [if_neg (by decide +kernel)]; exact ⟨rfl, rfl⟩))
  (fun os started H enc _ F => by rw [OpenClaim.pre_eq_preRow]; exact DJ os started H enc F)
end bestMatches
#print axioms bestMatches.said
end Go.Proofs.Ytemklhljjaniaaa
