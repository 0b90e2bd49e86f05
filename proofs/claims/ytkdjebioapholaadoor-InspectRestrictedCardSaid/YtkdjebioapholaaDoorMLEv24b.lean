/-
  The contract of a law, where the size of an argument counts. Program-independent.
-/
import Derived.Test.YtkdjebioapholaaDoorM03
namespace Go.Proofs.YtkdjebioapholaaDoor
open Go
open Go.ChangeShapes Go.WideShapes Go.RowKit

section
variable {H : Type} {enc : TypeId × Value → H} {P : Program}

/-- A law that returns true, of trees of which something more is known. -/
theorem law_contract_q {Q : List AV → Prop} {f : FuncId} {fn : Func} {G : Nat → Option (List AV)} {n : Nat} {M : PModel} (hs : PureSpec P G f M) (hM : ∀ args, LawArgs P n fn.params.toList args → Q args → M args = some (.bool true))
    {spec : ChangeSpec} (hspec : ∀ ds : List (DataW H), ds.length = fn.params.toList.length → spec.fn H ds = { results := [.lit (.bool true)], args := ds }) (hvars : spec.vars = [])
    (hp : fn.params.toList.all (fun t => plainT P n t && P.readableRec t && Nat.blt t P.types.size) = true) (hl : laidOutB P = true) {tb : TypeId} (hres : fn.resultTypes = #[tb]) (hb : P.underlying tb = some .bool)
    {W : World} {base : Nat} {args : Array Value} {ds gs : List (DataW H)} {before : List MemPlace} (hval : ∀ (j : Nat) t v, fn.params[j]? = some t → args[j]? = some v → Value.okWide P W .any base t v)
    (hW : DataW.Whole enc P fn.params.toList spec.vars false W args.toList ds gs before) (hG : GRel G W (fun b => b < W.heap.size))
    (hQ : ∀ ls p, DataW.TrodAll enc P W 0 (fun _ => true) true fn.params.toList args.toList ds p → ListRel W (fun b => b < W.heap.size) Ghost.none args.toList ls → Q ls) :
    Calls P f args W fun e W' => ∃ v, e = .returned v ∧ spec.post enc P fn false true false false W args v W' := by
  have hW' := hW
  have hlt := hW.lt
  obtain ⟨p, q, hA, hV, rfl, hfz, hnd⟩ := hW
  rw [hvars] at hV
  obtain ⟨rfl, rfl⟩ := trodVars_none hV
  rw [List.all_eq_true] at hp
  have hp' : ∀ t ∈ fn.params.toList, plainT P n t = true ∧ P.readableRec t = true ∧ t < P.types.size := fun t ht => by
    have := hp t ht
    simp only [Bool.and_eq_true] at this
    exact ⟨this.1.1, this.1.2, by simpa [Nat.blt_eq] using this.2⟩
  obtain ⟨hdl, ls, h1, h2⟩ := args_tree (n := n) _ _ _ _ (fun t ht => (hp' t ht).1) (fun j t v e1 e2 => ⟨_, _, hval j t v (by simpa using e1) (by simpa using e2)⟩) hA
  have hc := hs.2 ls _ (hM ls h1 (hQ ls _ hA h2)) W (fun b => b < W.heap.size) args.toList (fun _ h => h) hG h2
  rw [Array.toArray_toList] at hc
  refine hc.mono ?_
  rintro e W1 ⟨v, OK', rfl, hv, _, hx⟩
  obtain rfl := hv.inv_bool
  refine ⟨_, rfl, ds, [], p ++ [], [], p, [], hW', ?_, ?_, ?_, keptX hx _, fun h => by cases h⟩
  · rw [List.append_nil, hspec ds hdl, hres]
    exact trodAll_cons_mk (shut_bool hb _) trodAll_mk0
  · rw [List.append_nil, hspec ds hdl]
    exact args_stay hl _ _ _ _ (fun t ht => (hp' t ht).2) (fun x hx' => ⟨sameAt_ext hx x (hlt x (by simp [hx'])), by simpa using hlt x (by simp [hx'])⟩) hA
  · rw [List.append_nil, hspec ds hdl, hvars]
    rfl


/-- how long the first argument can be -/
theorem head_len {W : World} {OK : Nat → Prop} {g : Ghost} {t e : TypeId} {ts us : List TypeId} {vs : List Value} {ds gs : List (DataW H)} {p : List MemPlace} {ls : List AV} {s : Nat} {es : List AV} (hu : P.underlying t = some (.slice e))
    (hA : DataW.TrodAll enc P W 0 (fun _ => true) true (t :: ts) vs ds p) (hR : ListRel W OK g vs ls) (hw : (DataW.weightsEach P ((t :: ts) ++ us) (ds ++ gs)).all (fun x => decide (x ≤ reachBytes)) = true) (h0 : ls[0]? = some (.fs s es)) : es.length * P.bytesOf e ≤ reachBytes := by
  cases vs with
  | nil => cases ds <;> exact hA.elim
  | cons v vs =>
    cases ds with
    | nil => exact hA.elim
    | cons d ds =>
      cases ls with
      | nil => exact hR.elim
      | cons a r =>
        simp only [List.getElem?_cons_zero, Option.some.injEq] at h0
        subst h0
        obtain ⟨p1, q1, ⟨fuel, h1⟩, _, _⟩ := hA
        obtain ⟨b, o, cap, T, c, fz, vals, rfl, hb, hh, hcap, _⟩ := hR.1.inv_fs
        simp only [List.cons_append, DataW.weightsEach, List.all_append, Bool.and_eq_true] at hw
        have hw1 := hw.1
        rcases DataW.trod_slice hu h1 with ⟨hv, _⟩ | ⟨a', len, cap', elems, rest, m, _, hv, hx, _, _, _, hl, _⟩
        · simp only [Value.cells, List.cons.injEq, Value.slice.injEq] at hv
          simp at hv
        · have hlen : len = es.length := by
            simp only [Value.cells] at hv
            simp at hv
            exact hv.2.1.symm
          simp only [Prod.mk.injEq] at hx
          rw [hx.1] at hw1
          simp only [DataW.weights, hu, List.all_cons, Bool.and_eq_true, decide_eq_true_eq, List.length_map] at hw1
          have h2 : es.length * P.bytesOf e ≤ (elems.length + rest.length) * P.bytesOf e := Nat.mul_le_mul_right _ (by omega)
          exact Nat.le_trans h2 hw1.1
end
end Go.Proofs.YtkdjebioapholaaDoor
