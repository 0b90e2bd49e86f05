/-
  For every input, cleanroomlaw01.WireRoundTrip returns true and its arguments read behind the call as they read before (the card of the seat). Conditions: none but those of the given row: the table cleanroom/wire.nibbles reads as laid when the call begins.
-/
import Derived.Test.YtnpmfpcppkdniaaDoorW14
namespace Go.Proofs.YtnpmfpcppkdniaaDoor
open Go
open Go.ChangeShapes Go.WideShapes Go.ChangeAt Go.RowKit Go.ChangeMaps

/-- a pure contract at a world: nothing old turns, the one boolean comes back -/
theorem calls_true {f : FuncId} {M : PModel} (hs : PureSpec Tryd.prog GW f M) {W : World} (ht : Lib.TabIs Tryd.prog W "cleanroom/wire.nibbles" .u32 nibs) {vs : List Value} {args : List AV} (hM : M args = some (.bool true))
    (hl : ListRel W (fun b => b < W.heap.size) Ghost.none vs args) : Calls Tryd.prog f vs.toArray W fun e W' => e = .returned (.bool true) ∧ ∀ may, W.keptBut W' may := by
  refine (hs.2 args _ hM W (fun b => b < W.heap.size) vs (fun _ h => h) (grel_of ht) hl).mono ?_
  rintro e W' ⟨v, OK', rfl, hv, _, hx⟩
  rw [hv.inv_bool]
  exact ⟨rfl, fun may => kept_of_ext hx may⟩

theorem rel_int {W : World} {OK : Nat → Prop} (k : IntKind) (n : Int) : VRel W OK Ghost.none (.int k n) (.int k n) := .int _ _ _
theorem rel_str {W : World} {OK : Nat → Prop} (s : ByteArray) : VRel W OK Ghost.none (.string s) (.str s.data.toList) := .str _ _ _ rfl

namespace roundTrip
theorem cells36 : Tryd.prog.cellsOf 36 = 2 := by kernel_rfl
theorem cells9 : Tryd.prog.cellsOf 9 = 1 := by kernel_rfl

theorem contract (H : Type) (enc : TypeId × Value → H) (W : World) (base : Nat) (args : Array Value) (ds gs : List (DataW H)) (before : List MemPlace)
    (hval : ∀ (j : Nat) t v, Tryd.f4.params[j]? = some t → args[j]? = some v → Value.okWide Tryd.prog W .any base t v)
    (hW : DataW.Whole enc Tryd.prog Tryd.f4.params.toList Rows.wireRoundTripSpec.vars false W args.toList ds gs before) (hL : laidMetH Tryd.prog Rows.wireRoundTripRow.laid W) :
    Calls Tryd.prog 4 args W fun e W' => ∃ v, e = .returned v ∧ Rows.wireRoundTripSpec.post enc Tryd.prog Tryd.f4 false true false false W args v W' := by
  have hW' := hW
  obtain ⟨p, q, hA0, hV, rfl, hfz, hnd⟩ := hW
  have hA : DataW.TrodAll enc Tryd.prog W 0 (fun _ => true) true Tryd.f4.params.toList args.toList ds p := hA0
  rw [Tryd.params4] at hA hval
  obtain ⟨v0, vs0, d0, ds0, p0, q0, hargs, rfl, rfl, h0, r0⟩ := trodAll_cons hA
  obtain ⟨v1, vs1, d1, ds1, p1, q1, rfl, rfl, rfl, h1, r1⟩ := trodAll_cons r0
  obtain ⟨v2, vs2, d2, ds2, p2, q2, rfl, rfl, rfl, h2, r2⟩ := trodAll_cons r1
  obtain ⟨rfl, rfl, rfl⟩ := trodAll_nil r2
  obtain rfl : args = #[v0, v1, v2] := by cases args; simp_all
  obtain ⟨rfl, rfl⟩ := trodVars_none hV
  obtain ⟨c, rfl, rfl, rfl, wc⟩ := open_int Tryd.underlying3 (hval 0 3 v0 rfl rfl) h0
  obtain ⟨t, rfl, rfl, rfl, wt⟩ := open_string Tryd.underlying9 (hval 1 9 v1 rfl rfl) h1
  obtain ⟨s0, s1, rfl, rfl, rfl, z0, z1⟩ := open_two Tryd.underlying36 Tryd.underlying9 cells9 cells36 (hval 2 36 v2 rfl rfl) h2
  clear hA0
  simp only [List.append_nil] at hW'
  have wc' : -9223372036854775808 ≤ c ∧ c ≤ 9223372036854775807 := bounds_i64 wc
  have hsz : ∀ s : ByteArray, s.size ≤ maxLen → s.data.toList.length ≤ 9223372036854775807 := fun s hs => by
    have h1 : s.data.toList.length = s.size := Array.length_toList
    have h2 : maxLen = 9223372036854775807 := by decide
    omega
  have walk := calls_true spec4 (table hL) (vs := [.int .i64 c, .string t, .agg #[.string s0, .string s1]]) (args := [.int .i64 c, .str t.data.toList, .agg [.str s0.data.toList, .str s1.data.toList]])
    (by simp only [M4]; rw [if_pos ⟨wc', hsz _ wt, hsz _ z0, hsz _ z1⟩])
    ⟨rel_int _ _, rel_str _, .agg _ _ _ rfl (fun i => if i = 0 then .string s0 else .string s1) (fun i hi => by
        have : i = 0 ∨ i = 1 := by simp at hi; omega
        rcases this with rfl | rfl <;> exact ⟨rfl, rfl⟩) (fun i hi => by
        have : i = 0 ∨ i = 1 := by simp at hi; omega
        rcases this with rfl | rfl <;> exact rel_str _), trivial⟩
  refine walk.mono fun e W' ⟨he, hk⟩ => ?_
  subst he
  refine ⟨_, rfl, _, _, _, [], [], [], hW', trodAll_cons_mk (shut_bool Tryd.underlying4 _) trodAll_mk0, ?_, rfl, hk _, fun h => by cases h⟩
  rw [Tryd.params4]
  exact trodAll_cons_mk (shut_int Tryd.underlying3 wc) (trodAll_cons_mk (shut_string Tryd.underlying9 wt) (trodAll_cons_mk (shut_two Tryd.underlying36 Tryd.underlying9 cells9 cells36 z0 z1) trodAll_mk0))

/-- A WORLD FOR THE WITNESS: the table holds what its initialiser lays. -/
noncomputable def laidWorld (os : Os) : World :=
  { World.holding Tryd.prog os ⟨#[], #[], []⟩ with heap := (World.holding Tryd.prog os ⟨#[], #[], []⟩).heap.modify 0 fun
      | .cells _ t frozen => .cells #[.int .u32 0, .int .u32 274646895, .int .u32 549293790, .int .u32 820201905, .int .u32 1098587580, .int .u32 1361435347, .int .u32 1640403810, .int .u32 1905808397, .int .u32 2197175160, .int .u32 2460548119, .int .u32 2722870694, .int .u32 2987750089, .int .u32 3280807620, .int .u32 3553878443, .int .u32 3811616794, .int .u32 4084100981] t frozen
      | o => o }
noncomputable def wit : Array Value := #[.int .i64 0, .string ⟨#[]⟩, .agg #[.string ⟨#[]⟩, .string ⟨#[]⟩]]
theorem laid_met (os : Os) : laidMet Tryd.prog Rows.wireRoundTripRow.laid ((laidWorld os).forCall (fun _ _ => 0) ⟨#[], wit, []⟩).memory :=
  laidMet_of_run' 8 (by kernel_rfl) (by kernel_rfl)
theorem reads (os : Os) {H : Type} (enc : TypeId × Value → H) : ∃ places, DataW.whole enc Tryd.prog ((laidWorld os).forCall (fun _ _ => 0) ⟨#[], wit, []⟩).memory Tryd.f4.params.toList Rows.wireRoundTripSpec.vars false wit.toList 8 = some ([.lit (.int .i64 0), .lit (.string []), .agg [.lit (.string []), .lit (.string [])]], [], places) :=
  ⟨[], by kernel_rfl⟩

set_option maxRecDepth 100000 in
theorem lifted (os : Os) (started : os.Started) (H : Type) (enc : TypeId × Value → H) (F : Stop.Interp) :
    ReturnsInHanded {} Tryd.checked os 4 .any ((OpenSpec.ofChange Rows.wireRoundTripSpec).preRow enc Tryd.prog Tryd.f4 Rows.wireRoundTripRow.domain false Rows.wireRoundTripRow.laid) (((OpenSpec.ofChange Rows.wireRoundTripSpec).at F).post enc Tryd.prog Tryd.f4 false true false false) := by
  obtain ⟨places, hx⟩ := reads os enc
  refine returnsInHanded_of_row (C := Tryd.checked) (s := OpenSpec.ofChange Rows.wireRoundTripSpec) ownK started (by kernel_rfl) Tryd.func4
    (witness_row_at (enc := enc) (C := Tryd.checked) false (laidWorld os) wit rfl (by kernel_rfl) (by kernel_rfl) (by kernel_rfl)
      (OpenSpec.preRow_of_cond 8 hx (by kernel_rfl) (fun k hk => by cases hk) (by kernel_rfl) (laid_met os))) ?_
  intro W base args ds gs before hval hW _ _ _ hL _ _
  exact contract H enc W base args ds gs before hval hW hL

theorem said : Rows.WireRoundTripSaid :=
  OpenClaim.holds_of_cond 4 Tryd.f4 rfl rfl rfl rfl rfl rfl rfl ⟨rfl, rfl, rfl, rfl, rfl⟩ rfl rfl rfl rfl rfl (by kernel_rfl) Tryd.func4 (by kernel_rfl)
    (of_decide_eq_true (by kernel_rfl)) (by unfold Func.isWrapper; first | (rw [if_pos (by decide +kernel)]; kernel_rfl) | (rw [if_neg (by decide +kernel)]; exact ⟨rfl, rfl⟩))
    (fun os started H enc _ F => by rw [OpenClaim.pre_eq_preRow]; exact lifted os started H enc F)

theorem plain (f : FuncId) (fn : Func) (hf : Tryd.pinned.checked.prog.funcNamed "cleanroom/cleanroomlaw01.WireRoundTrip" = some f) (hfn : Tryd.pinned.checked.prog.funcs[f]? = some fn) :
    false = Tryd.pinned.checked.prog.looks [] ∧ ∀ (j : Nat) t, fn.params[j]? = some t → Tryd.pinned.checked.prog.wantsStandIn t = false := by
  obtain rfl : f = 4 := Option.some.inj ((show Tryd.prog.funcNamed "cleanroom/cleanroomlaw01.WireRoundTrip" = some 4 by kernel_rfl).symm.trans hf) |>.symm
  obtain rfl : fn = Tryd.f4 := (Option.some.inj (Tryd.func4.symm.trans hfn)).symm
  refine ⟨by kernel_rfl, fun j t ht => ?_⟩
  rw [Tryd.params4] at ht
  have hm : t = 3 ∨ t = 9 ∨ t = 36 := by simpa using Array.mem_of_getElem? ht
  rcases hm with rfl | rfl | rfl
  · exact (show Tryd.prog.wantsStandIn 3 = false by kernel_rfl)
  · exact (show Tryd.prog.wantsStandIn 9 = false by kernel_rfl)
  · exact (show Tryd.prog.wantsStandIn 36 = false by kernel_rfl)

theorem card : Rows.WireRoundTripCardSaid :=
  Claim7.holds_tied_plain_at .later [] _ _ _ _ said (fun _ h => by cases h) (by kernel_rfl) (fun _ h => by cases h) wireRoundTrip_row_tie rfl ⟨rfl, rfl⟩ (by kernel_rfl) rfl plain (by kernel_rfl)
end roundTrip
#print axioms roundTrip.card
end Go.Proofs.YtnpmfpcppkdniaaDoor
