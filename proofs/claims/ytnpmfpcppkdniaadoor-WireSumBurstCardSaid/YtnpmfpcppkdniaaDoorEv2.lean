/-
  The arena and the heap: a new entry, a store into an entry, an append. Program-independent.
-/
import Derived.Test.YtnpmfpcppkdniaaDoorEv1
import Derived.Laws.CopyRow
namespace Go.Proofs.YtnpmfpcppkdniaaDoor
open Go

/-- cells with a stretch of them written over -/
def splice (c : Array Value) (p : Nat) (vs : List Value) : Array Value := (c.toList.take p ++ vs ++ c.toList.drop (p + vs.length)).toArray

theorem splice_size (c : Array Value) (p : Nat) (vs : List Value) (h : p + vs.length ≤ c.size) : (splice c p vs).size = c.size := by
  simp [splice]; omega
theorem splice_in (c : Array Value) (p : Nat) (vs : List Value) (h : p + vs.length ≤ c.size) (j : Nat) (hj : j < vs.length) : (splice c p vs)[p + j]? = vs[j]? := by
  have h1 : min p c.size = p := by omega
  simp only [splice, List.getElem?_toArray, List.append_assoc]
  rw [List.getElem?_append_right (by simp; omega)]
  simp only [List.length_take, Array.length_toList, h1, Nat.add_sub_cancel_left]
  rw [List.getElem?_append_left hj]
theorem splice_out (c : Array Value) (p : Nat) (vs : List Value) (h : p + vs.length ≤ c.size) (j : Nat) (hj : j < p ∨ p + vs.length ≤ j) : (splice c p vs)[j]? = c[j]? := by
  have h1 : min p c.size = p := by omega
  simp only [splice, List.getElem?_toArray, List.append_assoc]
  rcases hj with hj | hj
  · rw [List.getElem?_append_left (by simp; omega), List.getElem?_take_of_lt hj]; simp
  · rw [List.getElem?_append_right (by simp; omega)]
    simp only [List.length_take, Array.length_toList, h1]
    rw [List.getElem?_append_right (by omega), List.getElem?_drop]
    have : p + vs.length + (j - p - vs.length) = j := by omega
    simp [this]

theorem unfrozen_splice {c : Array Value} {fz : Nat × Nat} (h : unfrozen c fz) (p : Nat) (vs : List Value) (hl : p + vs.length ≤ c.size) : unfrozen (splice c p vs) fz := fun j hj => h j (by rwa [splice_size c p vs hl] at hj)

theorem addr_add (b o i : Nat) : (⟨b, o, none⟩ : Addr).add i = ⟨b, o + i, none⟩ := by unfold Addr.add; split <;> simp_all

theorem run_storeCells_u (P : Program) (b o : Nat) (t : TypeId) (fz : Nat × Nat) : ∀ (vs : List Value) (i : Nat) (cur : Array Value) (w : World), w.heap[b]? = some (.cells cur t fz) → unfrozen cur fz →
    o + i + vs.length ≤ cur.size → (∀ v ∈ vs, v.oneCell' = true) → (storeCells ⟨b, o, none⟩ vs i).run P w = .ok () (w.setRow b (splice cur (o + i) vs))
  | [], i, cur, w, hg, _, _, _ => by
    simp only [storeCells, splice, List.append_nil, List.length_nil, Nat.add_zero, List.take_append_drop, Array.toArray_toList]
    rw [setRow_self w b cur t fz hg]
    rfl
  | v :: rest, i, cur, w, hg, hu, hl, h1 => by
    have hi : o + i < cur.size := by simp at hl; omega
    have hcell : w.cell? ⟨b, o + i, none⟩ = some cur[o + i] := by simp [World.cell?, hg, hi]
    have hfro : w.frozen? ⟨b, o + i, none⟩ = false := by
      have := hu (o + i) hi
      simp only [World.frozen?, hg]
      exact this
    have hst : (store ((⟨b, o, none⟩ : Addr).add i) v).run P w = .ok () (w.setRow b (cur.setIfInBounds (o + i) v)) := by
      rw [addr_add, run_store P w _ v _ (h1 v (by simp)), hcell]
      simp [hfro, setCell_eq_setRow w b (o + i) cur t fz v hg]
    have ih := run_storeCells_u P b o t fz rest (i + 1) (cur.setIfInBounds (o + i) v) (w.setRow b (cur.setIfInBounds (o + i) v)) (setRow_heap w b cur _ t _ hg) (fun j hj => hu j (by simpa using hj)) (by simp at hl ⊢; omega) (fun x hx => h1 x (by simp [hx]))
    simp only [storeCells, Sem.run_bind, hst, Result.andThen_ok, ih, setRow_setRow]
    congr 2
    have e := list_seg_step cur.toList (o + i) v rest (by simp at hl ⊢; omega)
    unfold splice
    congr 1
    simpa [Array.toList_setIfInBounds, Nat.add_assoc] using e

/-- The ghost with a new entry. -/
def Ghost.push (g : Ghost) (n : Nat) (inc : Inc) : Ghost := fun id => if id = n then [inc] else g id
theorem Ghost.push_le (g : Ghost) (n : Nat) (inc : Inc) (h : g n = []) : g.le (g.push n inc) := fun id i hi => by
  by_cases e : id = n
  · subst e; rw [h] at hi; cases hi
  · exact ⟨i.n, Nat.le_refl _, by simpa [Ghost.push, e] using hi⟩

/-- A new block is a new entry. -/
theorem ARel.push {w w' : World} {OK : Nat → Prop} {g : Ghost} {A : Arena} (h : ARel w OK g A) (o : Obj) (hh : w'.heap = w.heap.push o) (ho : w'.os = w.os) (ht : w'.tape = w.tape) (hp : w'.output = w.output)
    (e : Ent) (inc : Inc) (hb : inc.b = w.heap.size)
    (he : ∀ g' : Ghost, g.le g' → (∀ b, b < w.heap.size → w'.heap[b]? = w.heap[b]?) → w'.heap[w.heap.size]? = some o → EntAt w' OK g' [inc] e) :
    ARel w' OK (g.push A.length inc) (A ++ [e]) ∧ Ext w OK g w' OK (g.push A.length inc) := by
  have hgn : g A.length = [] := h.out _ (Nat.le_refl _)
  have hle := g.push_le A.length inc hgn
  have hblk : ∀ b, b < w.heap.size → w'.heap[b]? = w.heap[b]? := fun b hb => by rw [hh, Array.getElem?_push, if_neg (by omega)]
  have hnew : w'.heap[w.heap.size]? = some o := by rw [hh]; simp
  have hsz : w'.heap.size = w.heap.size + 1 := by rw [hh]; simp
  refine ⟨⟨fun id hid => ?_, fun id hid => ?_, fun id id' i i' hd hd' hi hi' eb => ?_, fun id i hi ho => ?_, fun id i hi => ?_, fun b hb => ?_⟩, ⟨ho, ht, hp, by omega, fun b hb _ => hblk b hb, hle, fun _ h => h, fun id i hi => ?_, fun _ h => .inl h, fun b r hb _ => (hblk b (Array.getElem?_eq_some_iff.1 hb).1).trans hb, fun k i hi _ => by
    by_cases e1 : k = A.length
    · subst e1; rw [hgn] at hi; cases hi
    · simp [Ghost.push, e1]⟩⟩
  · by_cases e1 : id = A.length
    · subst e1
      simp only [Ghost.push, if_pos, List.getElem_concat_length]
      exact he _ hle hblk hnew
    · have hlt : id < A.length := by simp at hid; omega
      simp only [Ghost.push, if_neg e1, List.getElem_append_left hlt]
      exact (h.ent id hlt).mono (fun _ h => h) (fun b hb => hblk b (h.ok b hb)) hle (fun i hi => hblk _ (h.low id i hi))
  · simp at hid
    simp only [Ghost.push]
    rw [if_neg (by omega)]
    exact h.out id (by omega)
  · simp only [Ghost.push] at hi hi'
    split at hi <;> split at hi'
    · simp at hi hi'; subst hi; subst hi'; simp_all
    · simp at hi; subst hi; have := h.low _ _ hi'; omega
    · simp at hi'; subst hi'; have := h.low _ _ hi; omega
    · have hx : ∀ k, ¬ k = A.length → ∀ i, i ∈ g k → (A ++ [e])[k]? = A[k]? := fun k hk i hi => by
        have : k < A.length := by
          rcases Nat.lt_or_ge k A.length with h1 | h1
          · exact h1
          · rw [h.out k h1] at hi; cases hi
        rw [List.getElem?_append_left this]
      refine h.one _ _ _ _ ?_ ?_ hi hi' (by assumption)
      · rw [← hx _ (by assumption) _ hi]; exact hd
      · rw [← hx _ (by assumption) _ hi']; exact hd'
  · simp only [Ghost.push] at hi
    split at hi
    · simp at hi; subst hi; have := h.ok _ ho; omega
    · exact h.apart _ _ hi ho
  · simp only [Ghost.push] at hi
    split at hi
    · simp at hi; subst hi; omega
    · have := h.low _ _ hi; omega
  · have := h.ok b hb; omega
  · simp only [Ghost.push] at hi
    split at hi
    · simp at hi; subst hi; exact .inr (by omega)
    · exact .inl ⟨id, i, hi, rfl⟩

/-- An entry of which one block is written: no other block turns, the ghost may grow at that one entry. -/
theorem ARel.turn {w w' : World} {OK : Nat → Prop} {g g' : Ghost} {A : Arena} (h : ARel w OK g A) (id : Nat) (hid : id < A.length) (hlive : A[id]? ≠ some .dead) (inc : Inc) (hinc : inc ∈ g id)
    (hs : w'.heap.size = w.heap.size) (ho : w'.os = w.os) (ht : w'.tape = w.tape) (hp : w'.output = w.output) (hblk : ∀ b, b ≠ inc.b → w'.heap[b]? = w.heap[b]?) (hnl : ∀ r : Loop, w.heap[inc.b]? = some (.loop r) → r.state ≠ .busy)
    (hg : g.le g') (hother : ∀ k, k ≠ id → g' k = g k) (hsame : ∀ i, i ∈ g' id → ∃ i0, i0 ∈ g id ∧ i = { i0 with n := i.n }) (hinj : ∀ i i', i ∈ g' id → i' ∈ g' id → i.b = i'.b → i = i')
    (e : Ent) (he : (∀ b, OK b → w'.heap[b]? = w.heap[b]?) → EntAt w' OK g' (g' id) e) (hfx : (∃ i, i ∈ g id ∧ i.esz = 0) → g' id = g id) :
    ARel w' OK g' (A.set id e) ∧ Ext w OK g w' OK g' := by
  have hokb : ∀ b, OK b → w'.heap[b]? = w.heap[b]? := fun b hb => hblk b (fun e => h.apart id inc hinc (e ▸ hb))
  have hfrom : ∀ k i, i ∈ g' k → ∃ i0, i0 ∈ g k ∧ i = { i0 with n := i.n } := fun k i hi => by
    by_cases e1 : k = id
    · subst e1; exact hsame i hi
    · rw [hother k e1] at hi; exact ⟨i, hi, rfl⟩
  refine ⟨⟨fun k hk => ?_, fun k hk => ?_, fun k k' i i' hd hd' hi hi' e1 => ?_, fun k i hi hob => ?_, fun k i hi => ?_, fun b hb => ?_⟩, ⟨ho, ht, hp, by omega, fun b hb hu => ?_, hg, fun _ h => h, fun k i hi => ?_, fun _ h => .inl h, fun b r hb hr => (hblk b (fun e => (hnl r (e ▸ hb)) hr)).trans hb, fun k i hi h0 => by
    by_cases e1 : k = id
    · subst e1; exact hfx ⟨i, hi, h0⟩
    · exact hother k e1⟩⟩
  · by_cases e1 : k = id
    · subst e1; simp only [List.getElem_set_self]; exact he hokb
    · have hk' : k < A.length := by simpa using hk
      rw [List.getElem_set_ne (Ne.symm e1), hother k e1]
      by_cases hdk : A[k]? = some .dead
      · rw [List.getElem?_eq_getElem hk'] at hdk
        injection hdk with hdk
        rw [hdk]; trivial
      · refine (h.ent k hk').mono (fun _ h => h) hokb hg (fun i hi => hblk _ (fun eb => ?_))
        exact e1 (h.one k id i inc hdk hlive hi hinc eb).1
  · simp at hk
    by_cases e1 : k = id
    · omega
    · rw [hother k e1]; exact h.out k hk
  · obtain ⟨i0, h0, h1⟩ := hfrom k i hi
    obtain ⟨i0', h0', h1'⟩ := hfrom k' i' hi'
    have hb0 : i0.b = i0'.b := by have a1 : i.b = i0.b := by rw [h1]
                                  have a2 : i'.b = i0'.b := by rw [h1']
                                  rw [← a1, ← a2]; exact e1
    have hl : ∀ k : Nat, (A.set id e)[k]? ≠ some Ent.dead → A[k]? ≠ some Ent.dead := fun k hd => by
      by_cases e2 : k = id
      · rw [e2]; exact hlive
      · rw [List.getElem?_set_ne (Ne.symm e2)] at hd; exact hd
    obtain ⟨rfl, _⟩ := h.one k k' i0 i0' (hl k hd) (hl k' hd') h0 h0' hb0
    refine ⟨rfl, ?_⟩
    by_cases e2 : k = id
    · subst e2; exact hinj i i' hi hi' e1
    · rw [hother k e2] at hi hi'; exact (h.one k k i i' (hl k hd) (hl k hd') hi hi' e1).2
  · obtain ⟨i0, h0, h1⟩ := hfrom k i hi
    exact h.apart k i0 h0 (by rw [h1] at hob; exact hob)
  · obtain ⟨i0, h0, h1⟩ := hfrom k i hi
    have := h.low k i0 h0
    rw [h1, hs]; exact this
  · rw [hs]; exact h.ok b hb
  · exact hblk b (fun e1 => hu id inc hinc e1.symm)
  · obtain ⟨i0, h0, h1⟩ := hfrom k i hi
    exact .inl ⟨k, i0, h0, by rw [h1]⟩

end Go.Proofs.YtnpmfpcppkdniaaDoor
