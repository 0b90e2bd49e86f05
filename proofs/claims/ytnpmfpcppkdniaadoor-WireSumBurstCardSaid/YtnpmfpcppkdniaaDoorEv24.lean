/-
  The contract of a law that returns true, of trees. Program-independent.
-/
import Derived.Test.YtnpmfpcppkdniaaDoorEv23
import Derived.RowKit
namespace Go.Proofs.YtnpmfpcppkdniaaDoor
open Go
open Go.ChangeShapes Go.WideShapes Go.RowKit

def LawArgs (P : Program) (n : Nat) : List TypeId → List AV → Prop
  | [], [] => True
  | t :: ts, a :: r => TA P n t a ∧ LawArgs P n ts r
  | _, _ => False

/-- nothing of the old world has turned -/
theorem keptX {W W' : World} {OK OK' : Nat → Prop} (h : Ext W OK Ghost.none W' OK' Ghost.none) (may : MemPlace → Prop) : W.keptBut W' may := by
  refine ⟨h.os, h.output, fun i hi => ?_⟩
  have e := h.blk i hi (fun _ _ (hx : _ ∈ []) => by cases hx)
  rw [e]
  cases W.heap[i]? with
  | none => rfl
  | some o => cases o <;> first | exact ⟨rfl, rfl, rfl, fun _ _ => rfl⟩ | exact .inr ⟨rfl, rfl⟩ | rfl

section
variable {H : Type} {enc : TypeId × Value → H} {P : Program}

theorem okWide_agg {w : World} {r : Reach} {b : Nat} {t : TypeId} {v : Value} (h : Value.okWide P w r b t v) (ha : aggT P t = true) : ∃ cs, v = .agg cs := by
  unfold aggT at ha
  unfold Value.okWide at h
  split at ha
  · rename_i hu; rw [hu] at h; obtain ⟨cs, h, _⟩ := h; exact ⟨cs, h⟩
  · rename_i hu; rw [hu] at h; obtain ⟨cs, h, _⟩ := h; exact ⟨cs, h⟩
  · cases ha
theorem okWide_one {w : World} {r : Reach} {b : Nat} {n : Nat} {t : TypeId} {v : Value} (h : Value.okWide P w r b t v) (hp : plainT P n t = true) (ha : aggT P t = false) : v.oneCell' = true := by
  cases n with
  | zero => cases hp
  | succ n =>
    unfold plainT at hp
    unfold aggT at ha
    unfold Value.okWide Cell.okWide Cell.ok at h
    cases hu : P.underlying t with
    | none => rw [hu] at hp; cases hp
    | some d =>
      rw [hu] at h hp ha
      cases d <;> simp only [reduceCtorEq, Bool.false_eq_true] at hp ha <;> cases v <;> simp_all [Value.oneCell']

theorem args_tree {W : World} {n : Nat} : ∀ (ts : List TypeId) (vs : List Value) (ds : List (DataW H)) (ps : List MemPlace), (∀ t ∈ ts, plainT P n t = true) → (∀ (j : Nat) t v, ts[j]? = some t → vs[j]? = some v → ∃ r b, Value.okWide P W r b t v) →
    DataW.TrodAll enc P W 0 (fun _ => true) true ts vs ds ps → ds.length = ts.length ∧ ∃ ls, LawArgs P n ts ls ∧ ListRel W (fun b => b < W.heap.size) Ghost.none vs ls
  | [], [], [], ps, _, _, _ => ⟨rfl, [], trivial, trivial⟩
  | t :: ts, v :: vs, d :: ds, ps, hp, hv, h => by
    obtain ⟨p, q, h1, h2, _⟩ := h
    obtain ⟨r, b, hv0⟩ := hv 0 t v rfl rfl
    obtain ⟨a, ha1, ha2⟩ := trod_TA (hp t (by simp)) (okWide_agg hv0) (okWide_one hv0 (hp t (by simp))) h1
    obtain ⟨hl, ls, h3, h4⟩ := args_tree ts vs ds q (fun u hu => hp u (by simp [hu])) (fun j t' v' e1 e2 => hv (j + 1) t' v' (by simpa using e1) (by simpa using e2)) h2
    exact ⟨by simp [hl], a :: ls, ⟨ha1, h3⟩, ⟨ha2, h4⟩⟩
  | [], [], _ :: _, _, _, _, h => h.elim
  | [], _ :: _, _, _, _, _, h => h.elim
  | _ :: _, [], _, _, _, _, h => h.elim
  | _ :: _, _ :: _, [], _, _, _, h => h.elim

/-- the arguments read as before -/
theorem args_stay {W W' : World} {sp : Nat → Bool} (hl : laidOutB P = true) : ∀ (ts : List TypeId) (vs : List Value) (ds : List (DataW H)) (ps : List MemPlace), (∀ t ∈ ts, P.readableRec t = true ∧ t < P.types.size) →
    (∀ p ∈ ps, W.sameAt W' p ∧ sp p.block = true) → DataW.TrodAll enc P W 0 (fun _ => true) true ts vs ds ps → DataW.TrodAll enc P W' 0 sp true ts vs ds ps
  | [], [], [], ps, _, _, h => h
  | t :: ts, v :: vs, d :: ds, ps, hp, hs, h => by
    obtain ⟨p, q, h1, h2, rfl⟩ := h
    exact ⟨p, q, WideElems.Trod_stays hl (hp t (by simp)).1 (hp t (by simp)).2 h1 (fun x hx => (hs x (by simp [hx])).1) (fun x hx => (hs x (by simp [hx])).2),
      args_stay hl ts vs ds q (fun u hu => hp u (by simp [hu])) (fun x hx => hs x (by simp [hx])) h2, rfl⟩
  | [], [], _ :: _, _, _, _, h => h.elim
  | [], _ :: _, _, _, _, _, h => h.elim
  | _ :: _, [], _, _, _, _, h => h.elim
  | _ :: _, _ :: _, [], _, _, _, h => h.elim

theorem sameAt_ext {W W' : World} {OK OK' : Nat → Prop} (h : Ext W OK Ghost.none W' OK' Ghost.none) (p : MemPlace) (hp : p.block < W.heap.size) : W.sameAt W' p := by
  cases p with
  | cell b off =>
    have e := h.blk b hp (fun _ _ (hx : _ ∈ []) => by cases hx)
    simp only [World.sameAt, World.cell?, e]
  | map b => exact h.blk b hp (fun _ _ (hx : _ ∈ []) => by cases hx)

/-- A law that returns true, of whatever trees its arguments are. -/
theorem law_contract {f : FuncId} {fn : Func} {G : Nat → Option (List AV)} {n : Nat} {M : PModel} (hs : PureSpec P G f M) (hM : ∀ args, LawArgs P n fn.params.toList args → M args = some (.bool true))
    {spec : ChangeSpec} (hspec : ∀ ds : List (DataW H), ds.length = fn.params.toList.length → spec.fn H ds = { results := [.lit (.bool true)], args := ds }) (hvars : spec.vars = [])
    (hp : fn.params.toList.all (fun t => plainT P n t && P.readableRec t && Nat.blt t P.types.size) = true) (hl : laidOutB P = true) {tb : TypeId} (hres : fn.resultTypes = #[tb]) (hb : P.underlying tb = some .bool)
    {W : World} {base : Nat} {args : Array Value} {ds gs : List (DataW H)} {before : List MemPlace} (hval : ∀ (j : Nat) t v, fn.params[j]? = some t → args[j]? = some v → Value.okWide P W .any base t v)
    (hW : DataW.Whole enc P fn.params.toList spec.vars false W args.toList ds gs before) (hG : GRel G W (fun b => b < W.heap.size)) :
    Calls P f args W fun e W' => ∃ v, e = .returned v ∧ spec.post enc P fn false true false false W args v W' := by
  have hW' := hW
  have hlt := hW.lt
  obtain ⟨p, q, hA, hV, rfl, hfz, hnd⟩ := hW
  rw [hvars] at hV
  obtain ⟨rfl, rfl⟩ := trodVars_none hV
  rw [List.all_eq_true] at hp
  have hp' : ∀ t ∈ fn.params.toList, plainT P n t = true ∧ P.readableRec t = true ∧ t < P.types.size := fun t ht => by
    have := hp t ht
    simp only [Bool.and_eq_true] at this
    exact ⟨this.1.1, this.1.2, by simpa [Nat.blt_eq] using this.2⟩
  obtain ⟨hdl, ls, h1, h2⟩ := args_tree (n := n) _ _ _ _ (fun t ht => (hp' t ht).1) (fun j t v e1 e2 => ⟨_, _, hval j t v (by simpa using e1) (by simpa using e2)⟩) hA
  have hc := hs.2 ls _ (hM ls h1) W (fun b => b < W.heap.size) args.toList (fun _ h => h) hG h2
  rw [Array.toArray_toList] at hc
  refine hc.mono ?_
  rintro e W1 ⟨v, OK', rfl, hv, _, hx⟩
  obtain rfl := hv.inv_bool
  refine ⟨_, rfl, ds, [], p ++ [], [], p, [], hW', ?_, ?_, ?_, keptX hx _, fun h => by cases h⟩
  · rw [List.append_nil, hspec ds hdl, hres]
    exact trodAll_cons_mk (shut_bool hb _) trodAll_mk0
  · rw [List.append_nil, hspec ds hdl]
    exact args_stay hl _ _ _ _ (fun t ht => (hp' t ht).2) (fun x hx' => ⟨sameAt_ext hx x (hlt x (by simp [hx'])), by simpa using hlt x (by simp [hx'])⟩) hA
  · rw [List.append_nil, hspec ds hdl, hvars]
    rfl

/-! ### arguments, opened -/

variable {n : Nat} {t e : TypeId} {a : AV}
theorem aggT_false {d : TypeDesc} (hu : P.underlying t = some d) (h : (match d with | .struct _ => true | .array _ _ => true | _ => false) = false) : aggT P t = false := by
  unfold aggT; rw [hu]
  cases d <;> simp_all
theorem TA.int {k : IntKind} (hu : P.underlying t = some (.int k)) (h : TA P n t a) : ∃ z, a = .int k z ∧ k.min ≤ z ∧ z ≤ k.max := by
  obtain ⟨xs, h1, _, rfl⟩ := h
  cases n with
  | zero => exact h1.elim
  | succ n =>
    simp only [TC, hu] at h1
    obtain ⟨z, rfl, h2⟩ := h1
    exact ⟨z, by simp [wholeA, aggT_false hu rfl], h2⟩
theorem TA.i64 (hu : P.underlying t = some (.int .i64)) (h : TA P n t a) : ∃ z, a = .int .i64 z ∧ inI z := by
  obtain ⟨z, h1, h2, h3⟩ := TA.int hu h
  exact ⟨z, h1, h2, h3⟩
theorem TA.str (hu : P.underlying t = some .string) (h : TA P n t a) : ∃ s, a = .str s ∧ s.length ≤ 9223372036854775807 := by
  obtain ⟨xs, h1, _, rfl⟩ := h
  cases n with
  | zero => exact h1.elim
  | succ n =>
    simp only [TC, hu] at h1
    obtain ⟨z, rfl, h2⟩ := h1
    exact ⟨z, by simp [wholeA, aggT_false hu rfl], h2⟩
theorem TA.bool (hu : P.underlying t = some .bool) (h : TA P n t a) : ∃ b, a = .bool b := by
  obtain ⟨xs, h1, _, rfl⟩ := h
  cases n with
  | zero => exact h1.elim
  | succ n =>
    simp only [TC, hu] at h1
    obtain ⟨z, rfl⟩ := h1
    exact ⟨z, by simp [wholeA, aggT_false hu rfl]⟩
theorem TA.slice (hu : P.underlying t = some (.slice e)) (h : TA P (n + 1) t a) : a = .nilS ∨ ∃ es, a = .fs (P.cellsOf e) es ∧ es.length ≤ 9223372036854775807 ∧ ∀ x ∈ es, TA P n e x := by
  obtain ⟨xs, h1, _, rfl⟩ := h
  simp only [TC, hu] at h1
  have hw : ∀ x, wholeA P t [x] = x := fun x => by simp [wholeA, aggT_false hu rfl]
  rcases h1 with rfl | ⟨es, rfl, h2, h3⟩
  · exact .inl (hw _)
  · exact .inr ⟨es, hw _, h2, h3⟩
theorem TA.agg (ha : aggT P t = true) (h : TA P n t a) : ∃ xs, a = .agg xs ∧ TC P n t xs ∧ xs.length = P.cellsOf t := by
  obtain ⟨xs, h1, h2, rfl⟩ := h
  exact ⟨xs, by simp [wholeA, ha], h1, h2⟩
theorem LawArgs.cons {ts : List TypeId} {args : List AV} (h : LawArgs P n (t :: ts) args) : ∃ a r, args = a :: r ∧ TA P n t a ∧ LawArgs P n ts r := by
  cases args with
  | nil => exact h.elim
  | cons a r => exact ⟨a, r, rfl, h.1, h.2⟩
theorem LawArgs.nil {args : List AV} (h : LawArgs P n [] args) : args = [] := by
  cases args with
  | nil => rfl
  | cons a r => exact h.elim
end
end Go.Proofs.YtnpmfpcppkdniaaDoor
