/-
  Wire: RoundTrip, the card.
-/
import Derived.Test.YtnpmfpcppkdniaaDoorW13
import Derived.Test.YtnpmfpcppkdniaaDoorCards
import Derived.Test.YtnpmfpcppkdniaaDoorTie
import Derived.WalkKit
import Derived.ProofKit
import Derived.OpenShut
import Derived.Deep.DeepHandedRow
import Derived.Lib.LaidTab
namespace Go.Proofs.YtnpmfpcppkdniaaDoor
open Go
open Go.ChangeShapes Go.WideShapes Go.ChangeAt Go.RowKit

/-- nothing of the old world has turned -/
theorem kept_of_ext {W W' : World} {OK OK' : Nat → Prop} (h : Ext W OK Ghost.none W' OK' Ghost.none) (may : MemPlace → Prop) : W.keptBut W' may := by
  refine ⟨h.os, h.output, fun i hi => ?_⟩
  have e := h.blk i hi (fun _ _ (hx : _ ∈ []) => by cases hx)
  rw [e]
  cases W.heap[i]? with
  | none => rfl
  | some o => cases o <;> first | exact ⟨rfl, rfl, rfl, fun _ _ => rfl⟩ | exact .inr ⟨rfl, rfl⟩ | rfl

theorem ownK : ownKnob Tryd.prog.godebug = none := by kernel_rfl
theorem gTab : Tryd.prog.globalNamed "cleanroom/wire.nibbles" = some 0 := by kernel_rfl
theorem gTabType : (Tryd.prog.globals[0]?).map (·.type) = some 52 := by kernel_rfl
theorem cells52 : Tryd.prog.cellsOf 52 = 16 := by kernel_rfl
theorem cells43 : Tryd.prog.cellsOf 43 = 1 := by kernel_rfl

/-- the table, of a list that starts with it -/
theorem grel_of {W : World} (h : Lib.TabIs Tryd.prog W "cleanroom/wire.nibbles" .u32 nibs) : GRel GW W (fun b => b < W.heap.size) := by
  intro gl cs hg
  unfold GW at hg
  split at hg
  · rename_i e
    subst e
    injection hg with hg; subst hg
    have hc : ∀ i (hi : i < nibs.length), W.cell? ⟨0, i, none⟩ = some (.int .u32 nibs[i]) := fun i hi => by
      have := h.cell gTab i hi
      rwa [List.getD_eq_getElem?_getD, List.getElem?_eq_getElem hi, Option.getD_some] at this
    have h0 := hc 0 (by decide)
    cases hh : W.heap[0]? with
    | none => simp [World.cell?, hh] at h0
    | some o =>
      cases o with
      | cells c T fz =>
        refine .fp _ 0 0 T c fz _ (fun i => .int .u32 (nibs.getD i 0)) (Array.getElem?_eq_some_iff.1 hh).1 hh (by decide) (fun i hi => ?_) (fun i hi => ?_)
        · have hi' : i < nibs.length := by simpa using hi
          simp only [List.getElem_map, List.getD_eq_getElem?_getD, List.getElem?_eq_getElem hi', Option.getD_some]
          exact .int _ _ _
        · have hi' : i < nibs.length := by simpa using hi
          have := hc i hi'
          simp only [World.cell?, hh] at this
          simp only [Nat.zero_add, List.getD_eq_getElem?_getD, List.getElem?_eq_getElem hi', Option.getD_some]
          exact ⟨by simpa using this, rfl⟩
      | _ => simp [World.cell?, hh] at h0
  · cases hg

theorem spec10 : PureSpec Tryd.prog GW 10 (fun args => match args with | [] => some (.bool true) | _ => none) := by
  refine PureSpec.of_ev (E := envOf GW fsS) (envOf_sound soundS) rfl at10 comp10 1 ?_
  intro args r h
  split at h
  · injection h with h; subst h; exact ⟨0, ev10⟩
  · cases h
theorem sound4 : ∀ f M, lookM fs4 f = some M → FnSpecY Tryd.prog GW f M :=
  lookM_cons (FnSpecY.of_pure spec10 4) (lookM_cons (FnSpecY.of_pure spec11 4) (lookM_cons (FnSpecY.of_pure spec12 4) (lookM_cons (FnSpecY.of_pure spec15 4) (lookM_cons (FnSpecY.of_pure spec17 4) (lookM_cons (FnSpecY.of_pure spec19 4) lookM_nil)))))

def M4 : PModel := fun args => match args with
  | [.int .i64 c, .str t, .agg [.str p, .str q]] => if (-9223372036854775808 ≤ c ∧ c ≤ 9223372036854775807) ∧ t.length ≤ 9223372036854775807 ∧ p.length ≤ 9223372036854775807 ∧ q.length ≤ 9223372036854775807 then some (.bool true) else none
  | _ => none
theorem spec4 : PureSpec Tryd.prog GW 4 M4 := by
  refine PureSpec.of_ev (E := envOf GW fs4) (envOf_sound sound4) rfl at4 comp4 1 ?_
  intro args r h
  unfold M4 at h
  split at h
  · simp only [Option.ite_none_right_eq_some, Option.some.injEq] at h
    obtain ⟨⟨h1, h2, h3, h4⟩, rfl⟩ := h
    exact ⟨0, ev4 _ _ _ _ h1 h2 h3 h4⟩
  · cases h

theorem table {W : World} (h : laidMetH Tryd.prog Rows.wireRoundTripRow.laid W) : Lib.TabIs Tryd.prog W "cleanroom/wire.nibbles" .u32 nibs :=
  Lib.tabIs_of_head (rest := []) gTab gTabType Tryd.underlying52 Tryd.underlying43 cells43 cells52 h

/-- two strings, opened -/
theorem open_two {H : Type} {enc : TypeId × Value → H} {P : Program} {w : World} {r : Reach} {b0 base : Nat} {sp : Nat → Bool} {held : Bool} {t e : TypeId} {v : Value} {d : DataW H} {ps : List MemPlace} (ht : P.underlying t = some (.array 2 e)) (he : P.underlying e = some .string) (hce : P.cellsOf e = 1) (hct : P.cellsOf t = 2)
    (hval : Value.okWide P w r b0 t v) (hd : DataW.Trod enc P w base sp held t v d ps) :
    ∃ s0 s1 : ByteArray, v = .agg #[.string s0, .string s1] ∧ d = .agg [.lit (.string s0.data.toList), .lit (.string s1.data.toList)] ∧ ps = [] ∧ s0.size ≤ maxLen ∧ s1.size ≤ maxLen := by
  simp only [Value.okWide, ht] at hval
  obtain ⟨cs, rfl, hsz, _⟩ := hval
  obtain ⟨fuel, hf⟩ := hd
  obtain ⟨xs, m, rfl, hx, hl, hxl, hall⟩ := DataW.trod_array ht hf
  have hcl : cs.toList.length = 2 := by simpa [hct] using hsz
  have h0 := hall 0 (by omega)
  have h1 := hall 1 (by omega)
  simp only [Value.cells] at h0 h1
  match xs, hxl with
  | [x0, x1], _ =>
    match hcs : cs.toList, hcl with
    | [a, b], _ =>
      simp only [hcs, hce, Nat.zero_mul, Nat.one_mul, List.drop_zero, List.getElem?_cons_zero, List.getElem?_cons_succ, List.take_succ_cons, List.take_zero, List.drop_succ_cons] at h0 h1
      obtain ⟨s0, e0, rfl, z0⟩ := DataW.trod_string he h0
      obtain ⟨s1, e1, rfl, z1⟩ := DataW.trod_string he h1
      simp only [List.cons.injEq, and_true] at e0 e1
      subst e0; subst e1
      injection hx with hx1 hx2
      refine ⟨s0, s1, ?_, by simpa using hx1, by simpa using hx2, z0, z1⟩
      congr 1
      apply Array.ext'
      simpa using hcs
theorem shut_two {H : Type} {enc : TypeId × Value → H} {P : Program} {w : World} {base : Nat} {sp : Nat → Bool} {held : Bool} {t e : TypeId} {s0 s1 : ByteArray} (ht : P.underlying t = some (.array 2 e)) (he : P.underlying e = some .string) (hce : P.cellsOf e = 1) (hct : P.cellsOf t = 2)
    (z0 : s0.size ≤ maxLen) (z1 : s1.size ≤ maxLen) : DataW.Trod enc P w base sp held t (.agg #[.string s0, .string s1]) (.agg [.lit (.string s0.data.toList), .lit (.string s1.data.toList)]) [] := by
  refine ⟨2, ?_⟩
  have hs : ∀ s : ByteArray, s.size ≤ maxLen → DataW.trod enc P w base sp held 1 e [.string s] = some (.lit (.string s.data.toList), []) := fun s hs => by simp [DataW.trod, he, hs]
  unfold DataW.trod
  simp [ht, hce, hct, Value.cells, hs _ z0, hs _ z1, List.range_succ]
end Go.Proofs.YtnpmfpcppkdniaaDoor
