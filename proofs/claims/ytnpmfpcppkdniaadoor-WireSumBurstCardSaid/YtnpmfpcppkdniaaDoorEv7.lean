/-
  Stores, append, copy, and the conversions between strings and bytes. Program-independent.
-/
import Derived.Test.YtnpmfpcppkdniaaDoorEv6
namespace Go.Proofs.YtnpmfpcppkdniaaDoor
open Go
section
variable {P : Program} {w : World} {OK : Nat → Prop} {g : Ghost} {A : Arena}

/-- an element with a stretch of its cells written over -/
def storeElem (e : AV) (esz o : Nat) (a : AV) : Option AV :=
  if o = 0 ∧ (cellsOf a).length = esz then some a
  else match e with
    | .agg cs => if cs.length = esz ∧ o + (cellsOf a).length ≤ esz then some (.agg (cs.take o ++ cellsOf a ++ cs.drop (o + (cellsOf a).length))) else none
    | _ => none

/-- '*p = v' -/
def evStore (size : Nat) (A : Arena) : AV → AV → Option Arena
  | .ptr id i o, a =>
    match A[id]? with
    | some (.row esz gr es) =>
      match es[i]? with
      | some e =>
        if gr = false ∧ a.solid = true ∧ (cellsOf a).length = size ∧ 0 < size then
          match storeElem e esz o a with
          | some e' => some (A.set id (.row esz false (es.set i e')))
          | none => none
        else none
      | none => none
    | _ => none
  | _, _ => none

theorem storeElem_sound {c : Array Value} {p esz o : Nat} {e e' a : AV} {v : Value} (he : ElemAt w OK g c p esz e) (hv : VRel w OK g v a) (hs : a.solid = true) (hp : p + esz ≤ c.size) (hpos : 0 < (cellsOf a).length) (h : storeElem e esz o a = some e') (ho : o < esz) :
    o + v.cells.size ≤ esz ∧ ElemAt w OK g (splice c (p + o) v.cells.toList) p esz e' := by
  obtain ⟨h1, h2, h3⟩ := hv.cells hs
  have hlen : v.cells.toList.length = (cellsOf a).length := by simpa using h1
  unfold storeElem at h
  split at h
  · rename_i hc
    obtain ⟨rfl, hsz⟩ := hc
    injection h with h; subst h
    refine ⟨by omega, v, hv, by omega, h2, fun j hj => ?_⟩
    rw [Nat.add_zero, splice_in _ _ _ (by rw [hlen]; omega) j (by omega)]; simp
  · split at h
    · rename_i cs
      simp only [Option.ite_none_right_eq_some, Option.some.injEq] at h
      obtain ⟨⟨hcl, hle⟩, rfl⟩ := h
      obtain ⟨u, hu, hus, huok, huc⟩ := he
      obtain ⟨vs, vals, rfl, hl, hg, hvv⟩ := hu.inv_agg
      have hcr : CellsRel w OK g vs cs := ⟨hl, fun i hi => ⟨vals i, (hg i hi).1, (hg i hi).2, hvv i hi⟩⟩
      have hsp := hcr.splice hv hs o (by omega)
      have hvsz : vs.size = esz := by simpa [Value.cells] using hus
      refine ⟨by omega, .agg (splice vs o v.cells.toList), hsp.agg, ?_, ?_, fun j hj => ?_⟩
      · show (splice vs o v.cells.toList).size = esz
        rw [splice_size _ _ _ (by rw [hlen]; omega)]; exact hvsz
      · intro x hx
        replace hx : x ∈ (splice vs o v.cells.toList).toList := hx
        obtain ⟨k, hk, rfl⟩ := List.getElem_of_mem hx
        simp only [Array.length_toList] at hk
        obtain ⟨y, a1, a2, _⟩ := hsp.2 k (by rw [← hsp.1]; exact hk)
        rw [Array.getElem?_eq_getElem hk] at a1
        injection a1 with a1
        simp only [Array.getElem_toList]
        rw [a1]; exact a2
      · show (splice c (p + o) v.cells.toList)[p + j]? = (splice vs o v.cells.toList)[j]?
        by_cases c1 : o ≤ j ∧ j < o + v.cells.toList.length
        · have := splice_in c (p + o) v.cells.toList (by rw [hlen]; omega) (j - o) (by omega)
          rw [show p + o + (j - o) = p + j by omega] at this
          have t2 := splice_in vs o v.cells.toList (by rw [hlen]; omega) (j - o) (by omega)
          rw [show o + (j - o) = j by omega] at t2
          rw [this, t2]
        · rw [splice_out _ _ _ (by rw [hlen]; omega) (p + j) (by omega), splice_out _ _ _ (by rw [hlen]; omega) j (by omega)]
          simpa [Value.cells] using huc j hj
    · cases h

theorem ElemAt.splice_out {c : Array Value} {p esz q : Nat} {e : AV} {vs : List Value} (h : ElemAt w OK g c p esz e) (hl : q + vs.length ≤ c.size) (ha : p + esz ≤ q ∨ q + vs.length ≤ p) : ElemAt w OK g (splice c q vs) p esz e := by
  obtain ⟨v, h1, h2, h3, h4⟩ := h
  exact ⟨v, h1, h2, h3, fun j hj => by rw [Go.Proofs.YtnpmfpcppkdniaaDoor.splice_out _ _ _ hl (p + j) (by omega)]; exact h4 j hj⟩

theorem evStore_sound {t : TypeId} {i : TypeInfo} {v1 v2 : Value} {a1 a2 : AV} {A' : Arena} (hi : P.info? t = some i) (hA : ARel w OK g A) (h1 : VRel w OK g v1 a1) (h2 : VRel w OK g v2 a2) (he : evStore i.size A a1 a2 = some A') :
    ∃ w', (Instr.storeAt t v1 v2).run P w = .ok () w' ∧ ARel w' OK g A' ∧ Ext w OK g w' OK g := by
  unfold evStore at he
  split at he
  · rename_i id k o
    obtain ⟨inc, hinc, rfl, hn, ho⟩ := h1.inv_ptr
    split at he
    · rename_i esz gr es hid
      split at he
      · rename_i e hes
        split at he
        · rename_i hc
          obtain ⟨rfl, hsol, hsz, hpos⟩ := hc
          split at he
          · rename_i e' hst
            injection he with he; subst he
            obtain ⟨hlt', hrow⟩ := List.getElem?_eq_some_iff.1 hid
            obtain ⟨hk, rfl⟩ := List.getElem?_eq_some_iff.1 hes
            have hent := hA.ent id hlt'
            rw [hrow] at hent
            obtain ⟨h0, hinv⟩ := hent
            obtain ⟨hone, hnn⟩ := h0 rfl
            obtain ⟨hesz, hne, hnc, c, T, fz, hh, hu, hcs, hel⟩ := hinv inc hinc
            obtain ⟨q1, q2, _⟩ := h2.cells hsol
            rw [hesz] at ho
            have hin : inc.o + k * esz + esz ≤ c.size := by
              have : (k + 1) * esz ≤ inc.cap * esz := Nat.mul_le_mul_right _ (by omega)
              rw [Nat.add_mul] at this; omega
            obtain ⟨r1, r2⟩ := storeElem_sound (hel k hk hn) h2 hsol hin (by omega) hst ho
            have hvl : v2.cells.toList.length = v2.cells.size := by simp
            have hrun := run_storeCells_u P inc.b (inc.o + k * esz + o) T fz v2.cells.toList 0 c w hh hu (by rw [hvl]; omega) (fun x hx => q2 x hx)
            have hsz2 : v2.cells.size = i.size := by omega
            have hdead : A[id]? ≠ some Ent.dead := by rw [hid]; simp
            obtain ⟨s1, s2⟩ := hA.turn (w' := w.setRow inc.b (splice c (inc.o + k * esz + o) v2.cells.toList)) (g' := g) id hlt' hdead inc hinc (by simp) rfl rfl rfl (fun b hb => setRow_other w inc.b b _ hb) (fun r hr _ => by rw [hh] at hr; cases hr) g.le_refl (fun _ _ => rfl) (fun i hi => ⟨i, hi, rfl⟩)
              (fun i i' hi hi' e => (hA.one id id i i' hdead hdead hi hi' e).2) (.row esz false (es.set k e')) (fun hokb => by
                have hm : ∀ {v : Value} {a : AV}, VRel w OK g v a → VRel (w.setRow inc.b (splice c (inc.o + k * esz + o) v2.cells.toList)) OK g v a := fun h => h.mono (fun _ h => h) hokb g g.le_refl
                refine ⟨fun _ => ⟨hone, fun x hx => by simpa using hnn x hx⟩, fun x hx => ?_⟩
                obtain rfl : x = inc := by
                  match hgi : g id, hone, hx, hinc with
                  | [], _, hx, _ => cases hx
                  | [y], _, hx, hinc => simp at hx hinc; rw [hx, hinc]
                  | _ :: _ :: _, ho, _, _ => simp at ho
                refine ⟨hesz, by simpa using hne, hnc, _, T, fz, setRow_heap w x.b c _ T fz hh, unfrozen_splice hu _ _ (by rw [hvl]; omega), by rw [splice_size _ _ _ (by rw [hvl]; omega)]; exact hcs, fun j hj hjn => ?_⟩
                simp only [List.length_set] at hj
                by_cases e1 : k = j
                · subst e1
                  simp only [List.getElem_set_self]
                  obtain ⟨u, u1, u2, u3, u4⟩ := r2
                  exact ⟨u, hm u1, u2, u3, u4⟩
                · rw [List.getElem_set_ne e1]
                  have hd : x.o + j * esz + esz ≤ x.o + k * esz ∨ x.o + k * esz + esz ≤ x.o + j * esz := by
                    rcases Nat.lt_or_gt_of_ne e1 with h | h
                    · have : (k + 1) * esz ≤ j * esz := Nat.mul_le_mul_right _ h
                      rw [Nat.add_mul] at this; omega
                    · have : (j + 1) * esz ≤ k * esz := Nat.mul_le_mul_right _ h
                      rw [Nat.add_mul] at this; omega
                  obtain ⟨u, u1, u2, u3, u4⟩ := (hel j hj hjn).splice_out (q := x.o + k * esz + o) (vs := v2.cells.toList) (by rw [hvl]; omega) (by rw [hvl]; omega)
                  exact ⟨u, hm u1, u2, u3, u4⟩) (fun _ => rfl)
            refine ⟨_, ?_, s1, s2⟩
            rw [hesz]
            simp only [Instr.storeAt, Instr.sureAddr, storeVar, Sem.run_bind, Sem.run_pure, Result.andThen_ok, run_sizeOf' hi, hsz2, ne_eq, not_true, if_false]
            exact hrun
          · cases he
        · cases he
      · cases he
    · cases he
  · cases he
end
end Go.Proofs.YtnpmfpcppkdniaaDoor
