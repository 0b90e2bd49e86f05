/-
  append. Program-independent.
-/
import Derived.Test.YtnpmfpcppkdniaaDoorEv8
namespace Go.Proofs.YtnpmfpcppkdniaaDoor
open Go
section
variable {P : Program} {w : World} {OK : Nat → Prop} {g : Ghost} {A : Arena}


theorem run_append_in {t xt ty e : TypeId} {i : TypeInfo} {b ao sLen sCap n : Nat} {x : Value} {news : Array Value} {w' : World} (ht : P.underlying t = some (.slice e)) (hx : (∃ e', P.underlying xt = some (.slice e')) ∨ P.underlying xt = some .string) (hi : P.info? e = some i)
    (hl : (Builtin.lenOf x).run P w = .ok n w) (hf : (Builtin.firstCells i.size n x).run P w = .ok news w) (hroom : sLen + n ≤ sCap) (hst : (storeCells ⟨b, ao + sLen * i.size, none⟩ news.toList).run P w = .ok () w') :
    (Builtin.append_ #[t, xt] ty #[.slice (some ⟨b, ao, none⟩) sLen sCap, x]).run P w = .ok (.slice (some ⟨b, ao, none⟩) (sLen + n) sCap) w' := by
  rcases hx with ⟨e', hx⟩ | hx <;> simp [Builtin.append_, run_underlying' ht, run_underlying' hx, run_sizeOf' hi, hl, hroom, hf, addr_add, hst]

theorem run_append_new {t xt ty e : TypeId} {i : TypeInfo} {z : Value} {base : Option Addr} {sLen sCap n : Nat} {x : Value} {olds news : Array Value} (ht : P.underlying t = some (.slice e)) (hx : (∃ e', P.underlying xt = some (.slice e')) ∨ P.underlying xt = some .string) (hi : P.info? e = some i) (hz : i.zero = some z)
    (hl : (Builtin.lenOf x).run P w = .ok n w) (hf : ∀ d, (Builtin.firstCells i.size n x).run P { w with drawn := d } = .ok news { w with drawn := d }) (hfo : ∀ d, (Builtin.firstCells i.size sLen (.slice base sLen sCap)).run P { w with drawn := d } = .ok olds { w with drawn := d })
    (hroom : sCap < sLen + n) (hb0 : 0 < i.bytes) (hb : (sLen + n) * i.bytes ≤ 140737488355328) :
    ∃ k, sLen + n ≤ k ∧ (Builtin.append_ #[t, xt] ty #[.slice base sLen sCap, x]).run P w = .ok (.slice (some ⟨w.heap.size, 0, none⟩) (sLen + n) k)
      { { w with drawn := w.drawn + 1 } with heap := w.heap.push (.cells (olds ++ news ++ Builtin.zeroCells z.cells (k - (sLen + n))) e) } := by
  have h1 : ¬ (sLen + n ≤ sCap) := by omega
  have h2 : sLen + n ≤ (sLen + n) * i.bytes := Nat.le_mul_of_pos_right _ hb0
  have h3 : ¬ (9223372036854775807 < ((sLen : Int) + (n : Int))) := by omega
  have h4 : ¬ (281474976710656 < Builtin.nextslicecap (sLen + n) sCap * i.bytes) := by
    have := growslice_fits hroom hb; omega
  refine ⟨grownCap w (sLen + n) sCap e, grownCap_ge w _ _ e, ?_⟩
  have hf' : (Builtin.firstCells i.size n x).run P w.drew = .ok news w.drew := hf (w.drawn + 1)
  have hfo' : (Builtin.firstCells i.size sLen (.slice base sLen sCap)).run P w.drew = .ok olds w.drew := hfo (w.drawn + 1)
  rcases hx with ⟨e', hx⟩ | hx <;> simp [Builtin.append_, run_underlying' ht, run_underlying' hx, run_sizeOf' hi, hl, h1, run_typeInfo' hi, h3, h4, Question.forced, run_zeroValue' hi hz, newRow, grownCap, i64max, hf', hfo'] <;> rfl

def evAppend (esz bytes : Nat) (A : Arena) (s x : AV) : Option (AV × Arena) :=
  match srcElems esz A x with
  | none => none
  | some xs =>
    match s with
    | .nilS => if xs.length = 0 then some (.nilS, A)
      else if 0 < esz ∧ 0 < bytes ∧ xs.length * bytes ≤ 140737488355328 then some (.sl A.length 0 xs.length, A ++ [.row esz false xs]) else none
    | .sl id off len =>
      match A[id]? with
      | some (.row s' _ es) =>
        if s' = esz ∧ 0 < esz ∧ 0 < bytes ∧ (len + xs.length) * bytes ≤ 140737488355328 then
          if off = 0 ∧ len = es.length then some (.sl id 0 (len + xs.length), A.set id (.row esz true (es ++ xs)))
          else some (.sl A.length 0 (len + xs.length), A.set id .dead ++ [.row esz false ((es.drop off).take len ++ xs)])
        else none
      | _ => none
    | _ => none

theorem ElemsRel.append {size : Nat} {c1 c2 : Array Value} {xs ys : List AV} (h1 : ElemsRel w OK g size c1 xs) (h2 : ElemsRel w OK g size c2 ys) (rest : Array Value) :
    ∀ i (h : i < (xs ++ ys).length), ElemAt w OK g (c1 ++ c2 ++ rest) (i * size) size (xs ++ ys)[i] := by
  intro i hi
  simp only [List.length_append] at hi
  by_cases hc : i < xs.length
  · obtain ⟨v, a1, a2, a3, a4⟩ := h1.2 i hc
    rw [List.getElem_append_left hc]
    refine ⟨v, a1, a2, a3, fun j hj => ?_⟩
    have hlt : i * size + j < c1.size := by
      rw [h1.1]
      have : (i + 1) * size ≤ xs.length * size := Nat.mul_le_mul_right _ hc
      rw [Nat.add_mul] at this; omega
    rw [Array.getElem?_append_left (by simp; omega), Array.getElem?_append_left hlt]
    exact a4 j hj
  · rw [List.getElem_append_right (by omega)]
    obtain ⟨v, a1, a2, a3, a4⟩ := h2.2 (i - xs.length) (by omega)
    refine ⟨v, a1, a2, a3, fun j hj => ?_⟩
    have e : i * size = c1.size + (i - xs.length) * size := by
      rw [h1.1, ← Nat.add_mul]; congr 1; omega
    have hlt : (i - xs.length) * size + j < c2.size := by
      rw [h2.1]
      have : (i - xs.length + 1) * size ≤ ys.length * size := Nat.mul_le_mul_right _ (by omega)
      rw [Nat.add_mul] at this; omega
    rw [e, Nat.add_assoc, Array.getElem?_append_left (by simp; omega), Array.getElem?_append_right (by omega), Nat.add_sub_cancel_left]
    exact a4 j hj

/-- an entry is let go -/
theorem ARel.kill (hA : ARel w OK g A) (id : Nat) : ARel w OK g (A.set id .dead) where
  ent k hk := by
    by_cases e : id = k
    · subst e; simp [EntAt]
    · rw [List.getElem_set_ne e]; exact hA.ent k (by simpa using hk)
  out k hk := hA.out k (by simpa using hk)
  one k k' i i' hd hd' hi hi' e := by
    have hl : ∀ k : Nat, (A.set id Ent.dead)[k]? ≠ some Ent.dead → A[k]? ≠ some Ent.dead := fun k hd => by
      by_cases e2 : id = k
      · subst e2
        rw [List.getElem?_set] at hd
        split at hd
        · split at hd
          · exact absurd rfl hd
          · rw [List.getElem?_eq_none (by omega)]; simp
        · exact hd
      · rwa [List.getElem?_set_ne e2] at hd
    exact hA.one k k' i i' (hl k hd) (hl k' hd') hi hi' e
  apart := hA.apart
  low := hA.low
  ok := hA.ok

/-- the block of a row that is moved to another entry -/
theorem ARel.pushOld (hA : ARel w OK g A) (id : Nat) (hlt : id < A.length) (hdead : A[id]? = some .dead) (inc inc' : Inc) (hinc : inc ∈ g id) (hb : inc'.b = inc.b) (e : Ent)
    (hex : ∀ k i, A[k]? ≠ some .dead → i ∈ g k → i.b ≠ inc.b) (he : ∀ g' : Ghost, g.le g' → EntAt w OK g' [inc'] e) :
    ARel w OK (g.push A.length inc') (A ++ [e]) ∧ g.le (g.push A.length inc') := by
  have hgn : g A.length = [] := hA.out _ (Nat.le_refl _)
  have hle := g.push_le A.length inc' hgn
  refine ⟨⟨fun k hk => ?_, fun k hk => ?_, fun k k' i i' hd hd' hi hi' eb => ?_, fun k i hi ho => ?_, fun k i hi => ?_, hA.ok⟩, hle⟩
  · by_cases e1 : k = A.length
    · subst e1
      simp only [Ghost.push, if_pos, List.getElem_concat_length]
      exact he _ hle
    · have hlt : k < A.length := by simp at hk; omega
      simp only [Ghost.push, if_neg e1, List.getElem_append_left hlt]
      exact (hA.ent k hlt).mono (fun _ h => h) (fun b hb => rfl) hle (fun i hi => rfl)
  · simp at hk
    simp only [Ghost.push]
    rw [if_neg (by omega)]
    exact hA.out k (by omega)
  · have hx : ∀ k, ¬ k = A.length → ∀ i, i ∈ g k → (A ++ [e])[k]? = A[k]? := fun k hk i hi => by
      have : k < A.length := by
        rcases Nat.lt_or_ge k A.length with h1 | h1
        · exact h1
        · rw [hA.out k h1] at hi; cases hi
      rw [List.getElem?_append_left this]
    simp only [Ghost.push] at hi hi'
    split at hi <;> split at hi'
    · simp at hi hi'; subst hi; subst hi'; simp_all
    · rename_i h1 h2
      simp at hi; subst hi
      exact absurd (by rw [← eb, hb]) (hex k' i' (by rw [← hx _ h2 _ hi']; exact hd') hi')
    · rename_i h1 h2
      simp at hi'; subst hi'
      exact absurd (by rw [eb, hb]) (hex k i (by rw [← hx _ h1 _ hi]; exact hd) hi)
    · rename_i h1 h2
      exact hA.one _ _ _ _ (by rw [← hx _ h1 _ hi]; exact hd) (by rw [← hx _ h2 _ hi']; exact hd') hi hi' eb
  · simp only [Ghost.push] at hi
    split at hi
    · simp at hi; subst hi; rw [hb] at ho; exact hA.apart id inc hinc ho
    · exact hA.apart _ _ hi ho
  · simp only [Ghost.push] at hi
    split at hi
    · simp at hi; subst hi; rw [hb]; exact hA.low id inc hinc
    · exact hA.low _ _ hi
end
end Go.Proofs.YtnpmfpcppkdniaaDoor
