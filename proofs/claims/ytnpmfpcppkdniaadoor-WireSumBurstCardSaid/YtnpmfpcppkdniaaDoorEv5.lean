/-
  More operations that leave the world alone: addresses, parts, slices, lengths. Program-independent.
-/
import Derived.Test.YtnpmfpcppkdniaaDoorEv4
namespace Go.Proofs.YtnpmfpcppkdniaaDoor
open Go
section
variable {P : Program} {w : World} {OK : Nat → Prop} {g : Ghost} {A : Arena}

/-- '&s[i]' -/
def evIndexSl (esz : Nat) (A : Arena) : AV → AV → Option AV
  | .sl id off len, .int _ n =>
    match A[id]? with
    | some (.row s _ _) => if s = esz ∧ 0 < esz ∧ 0 ≤ n ∧ n < len then some (.ptr id (off + n.toNat) 0) else none
    | _ => none
  | .fs s es, .int _ n =>
    if 0 ≤ n then (match es[n.toNat]? with
      | some e => if s = esz ∧ 0 < esz ∧ e.solid = true then some (.fp (cellsOf e)) else none
      | none => none) else none
  | _, _ => none

theorem ElemAt.fp {c : Array Value} {T : TypeId} {fz : Nat × Nat} {b p esz : Nat} {e : AV} (hb : OK b) (hh : w.heap[b]? = some (.cells c T fz)) (h : ElemAt w OK Ghost.none c p esz e) (hs : e.solid = true) (hp : 0 < esz) :
    VRel w OK g (.pointer (some ⟨b, p, none⟩)) (.fp (cellsOf e)) := by
  obtain ⟨v, hv, hsz, hok, hc⟩ := h
  obtain ⟨h1, h2, h3⟩ := hv.cells hs
  obtain ⟨f, hf⟩ : ∃ f : Nat → Value, ∀ i (hi : i < (cellsOf e).length), v.cells[i]? = some (f i) ∧ (f i).oneCell' = true ∧ VRel w OK Ghost.none (f i) (cellsOf e)[i] :=
    ⟨fun i => (v.cells[i]?).getD undef, fun i hi => by
      obtain ⟨x, a1, a2, a3⟩ := h3 i hi
      simp only [a1, Option.getD_some]
      exact ⟨trivial, a2, a3⟩⟩
  exact .fp _ b p T c fz (cellsOf e) f hb hh (by omega) (fun i hi => (hf i hi).2.2) (fun i hi => ⟨by rw [hc i (by omega)]; exact (hf i hi).1, (hf i hi).2.1⟩)

theorem evIndexSl_sound {t elem : TypeId} {i : TypeInfo} {v1 v2 : Value} {a1 a2 r : AV} (ht : P.underlying t = some (.slice elem)) (hi : P.info? elem = some i) (hA : ARel w OK g A) (h1 : VRel w OK g v1 a1) (h2 : VRel w OK g v2 a2)
    (he : evIndexSl i.size A a1 a2 = some r) : Yields' P w OK g (Instr.indexAt t v1 v2) r := by
  unfold evIndexSl at he
  split at he
  · rename_i id off len k n
    obtain rfl := h2.inv_int
    obtain ⟨inc, cap, ao, hinc, rfl, hl, hn, hcap, ha⟩ := h1.inv_sl
    split at he
    · rename_i s gr es hid
      simp only [Option.ite_none_right_eq_some, Option.some.injEq] at he
      obtain ⟨⟨rfl, hpos, h0, hlt⟩, rfl⟩ := he
      obtain ⟨hlt', hrow⟩ := List.getElem?_eq_some_iff.1 hid
      have hent := hA.ent id hlt'
      rw [hrow] at hent
      obtain ⟨hesz, _⟩ := hent.2 inc hinc
      refine ⟨.pointer (some ⟨inc.b, ao + n.toNat * i.size, none⟩), ?_, ?_⟩
      · simp [Instr.indexAt, asIntOf, run_underlying' ht, run_sizeOf' hi, h0, hlt, addr_add]
      · refine .ptr _ id _ 0 _ inc hinc (by omega) (by omega) ?_
        rw [ha (by omega), hesz, Nat.add_mul]; omega
    · cases he
  · rename_i s es k n
    obtain rfl := h2.inv_int
    obtain ⟨b, o, cap, T, c, fz, vals, rfl, hb, hh, hcap, hv, hs, hc⟩ := h1.inv_fs
    split at he
    · rename_i h0
      split at he
      · rename_i e hes
        simp only [Option.ite_none_right_eq_some, Option.some.injEq] at he
        obtain ⟨⟨rfl, hpos, hsol⟩, rfl⟩ := he
        obtain ⟨hlt, rfl⟩ := List.getElem?_eq_some_iff.1 hes
        refine ⟨.pointer (some ⟨b, o + n.toNat * i.size, none⟩), ?_, ?_⟩
        · have hlt' : n < es.length := by omega
          simp [Instr.indexAt, asIntOf, run_underlying' ht, run_sizeOf' hi, h0, hlt', addr_add]
        · exact ElemAt.fp hb hh ⟨vals n.toNat, hv _ hlt, (hs _ hlt).1, (hs _ hlt).2, hc _ hlt⟩ hsol hpos
      · cases he
    · cases he
  · cases he

/-- '&p[i]', p the address of an array of n elements of s cells -/
def evIndexArr (n s : Nat) (A : Arena) : AV → AV → Option AV
  | .ptr id i o, .int _ k =>
    match A[id]? with
    | some (.row esz gr es) =>
      if 0 ≤ k ∧ k < n then
        if esz = s ∧ o = 0 ∧ gr = false ∧ i + k.toNat < es.length then some (.ptr id (i + k.toNat) 0)
        else if o + k.toNat * s < esz then some (.ptr id i (o + k.toNat * s)) else none
      else none
    | _ => none
  | .fp cs, .int _ k => if 0 ≤ k ∧ k < n ∧ k.toNat * s < cs.length then some (.fp (cs.drop (k.toNat * s))) else none
  | _, _ => none

theorem VRel.fp_drop {b o : Nat} {cs : List AV} (h : VRel w OK g (.pointer (some ⟨b, o, none⟩)) (.fp cs)) (k : Nat) (hk : k < cs.length) : VRel w OK g (.pointer (some ⟨b, o + k, none⟩)) (.fp (cs.drop k)) := by
  obtain ⟨b', o', T, c, fz, vals, he, hb, hh, hne, hv, hc⟩ := h.inv_fp
  injection he with he; injection he with he; injection he with e1 e2
  subst e1; subst e2
  refine .fp _ b (o + k) T c fz _ (fun i => vals (k + i)) hb hh (by simp; omega) (fun i hi => ?_) (fun i hi => ?_)
  · simp only [List.getElem_drop]; exact hv (k + i) (by simp at hi; omega)
  · have := hc (k + i) (by simp at hi; omega)
    rwa [← Nat.add_assoc] at this

theorem evIndexArr_sound {t elem : TypeId} {n : Nat} {i : TypeInfo} {v1 v2 : Value} {a1 a2 r : AV} (ht : P.underlying t = some (.array n elem)) (hi : P.info? elem = some i) (hA : ARel w OK g A) (h1 : VRel w OK g v1 a1) (h2 : VRel w OK g v2 a2)
    (he : evIndexArr n i.size A a1 a2 = some r) : Yields' P w OK g (Instr.indexAt t v1 v2) r := by
  unfold evIndexArr at he
  split at he
  · rename_i id i0 o kk k
    obtain rfl := h2.inv_int
    obtain ⟨inc, hinc, rfl, hn, ho⟩ := h1.inv_ptr
    split at he
    · rename_i esz gr es hid
      obtain ⟨hlt', hrow⟩ := List.getElem?_eq_some_iff.1 hid
      have hent := hA.ent id hlt'
      rw [hrow] at hent
      obtain ⟨hesz, _⟩ := hent.2 inc hinc
      split at he
      · rename_i hk
        have hrun : (Instr.indexAt t (.pointer (some ⟨inc.b, inc.o + i0 * inc.esz + o, none⟩)) (.int kk k)).run P w = .ok (.pointer (some ⟨inc.b, inc.o + i0 * inc.esz + o + k.toNat * i.size, none⟩)) w := by
          simp [Instr.indexAt, Instr.sureAddr, asIntOf, run_underlying' ht, run_sizeOf' hi, hk.1, hk.2, addr_add]
        split at he
        · rename_i hc
          obtain ⟨rfl, rfl, rfl, hlt⟩ := hc
          injection he with he; subst he
          have hn' := (hent.1 rfl).2 inc hinc
          exact ⟨_, hrun, .ptr _ id _ 0 _ inc hinc (by omega) ho (by rw [hesz, Nat.add_mul]; omega)⟩
        · split at he
          · rename_i hc
            injection he with he; subst he
            exact ⟨_, hrun, .ptr _ id i0 _ _ inc hinc hn (by omega) (by omega)⟩
          · cases he
      · cases he
    · cases he
  · rename_i cs kk k
    obtain rfl := h2.inv_int
    simp only [Option.ite_none_right_eq_some, Option.some.injEq] at he
    obtain ⟨⟨hk0, hk1, hk2⟩, rfl⟩ := he
    obtain ⟨b, o, T, c, fz, vals, rfl, _⟩ := h1.inv_fp
    refine ⟨.pointer (some ⟨b, o + k.toNat * i.size, none⟩), ?_, h1.fp_drop _ hk2⟩
    simp [Instr.indexAt, Instr.sureAddr, asIntOf, run_underlying' ht, run_sizeOf' hi, hk0, hk1, addr_add]
  · cases he

/-- '&p.f' -/
def evFieldAddr (off : Nat) (A : Arena) : AV → Option AV
  | .ptr id i o =>
    match A[id]? with
    | some (.row esz _ _) => if o + off < esz then some (.ptr id i (o + off)) else none
    | _ => none
  | .fp cs => if off < cs.length then some (.fp (cs.drop off)) else none
  | _ => none
theorem evFieldAddr_sound {s : TypeId} {fields : Array Field} {k : Nat} {f : Field} {i : TypeInfo} {v : Value} {a r : AV} (hs : P.underlying s = some (.struct fields)) (hf : fields[k]? = some f) (hi : P.info? f.type = some i) (hz : i.size ≠ 0) (hA : ARel w OK g A)
    (h : VRel w OK g v a) (he : evFieldAddr f.offset A a = some r) : Yields' P w OK g (Instr.fieldAt s v k) r := by
  unfold evFieldAddr at he
  split at he
  · rename_i id i0 o
    obtain ⟨inc, hinc, rfl, hn, ho⟩ := h.inv_ptr
    split at he
    · rename_i esz gr es hid
      simp only [Option.ite_none_right_eq_some, Option.some.injEq] at he
      obtain ⟨hlt, rfl⟩ := he
      obtain ⟨hlt', hrow⟩ := List.getElem?_eq_some_iff.1 hid
      have hent := hA.ent id hlt'
      rw [hrow] at hent
      obtain ⟨hesz, _⟩ := hent.2 inc hinc
      refine ⟨.pointer (some ⟨inc.b, inc.o + i0 * inc.esz + o + f.offset, none⟩), ?_, .ptr _ id i0 _ _ inc hinc hn (by omega) (by omega)⟩
      simp [Instr.fieldAt, Instr.sureAddr, run_underlying' hs, hf, fieldPlace, run_sizeOf' hi, hz, addr_add]
    · cases he
  · rename_i cs
    simp only [Option.ite_none_right_eq_some, Option.some.injEq] at he
    obtain ⟨hlt, rfl⟩ := he
    obtain ⟨b, o, T, c, fz, vals, rfl, _⟩ := h.inv_fp
    refine ⟨.pointer (some ⟨b, o + f.offset, none⟩), ?_, h.fp_drop _ hlt⟩
    simp [Instr.fieldAt, Instr.sureAddr, run_underlying' hs, hf, fieldPlace, run_sizeOf' hi, hz, addr_add]
  · cases he

/-- a part of a row of cells -/
def evPart (agg : Bool) (off size : Nat) : AV → Option AV
  | .agg cs => if agg then (if off + size ≤ cs.length then some (.agg ((cs.drop off).take size)) else none) else cs[off]?
  | _ => none
theorem evPart_sound {t : TypeId} {i : TypeInfo} {agg : Bool} {off : Nat} {v : Value} {a r : AV} (hi : P.info? t = some i) (ha : isAggB P t = some agg) (h : VRel w OK g v a) (he : evPart agg off i.size a = some r) :
    Yields' P w OK g (do part t (← asAgg v) off) r := by
  unfold evPart at he
  split at he
  · rename_i cs
    obtain ⟨vs, vals, rfl, hl, hg, hv⟩ := h.inv_agg
    cases agg
    · simp only [Bool.false_eq_true, if_false] at he
      obtain ⟨hlt, rfl⟩ := List.getElem?_eq_some_iff.1 he
      exact ⟨vals off, by simp [asAgg, part, run_isAgg' ha, (hg off hlt).1], hv off hlt⟩
    · simp only [if_true, Option.ite_none_right_eq_some, Option.some.injEq] at he
      obtain ⟨hle, rfl⟩ := he
      refine ⟨.agg (vs.extract off (off + i.size)), by simp [asAgg, part, run_isAgg' ha, run_sizeOf' hi], ?_⟩
      refine .agg _ _ _ (by simp; omega) (fun j => vals (off + j)) (fun j hj => ?_) (fun j hj => ?_)
      · simp at hj
        exact ⟨by rw [Array.getElem?_extract, if_pos (by omega)]; exact (hg (off + j) (by omega)).1, (hg (off + j) (by omega)).2⟩
      · simp only [List.getElem_take, List.getElem_drop]; exact hv (off + j) (by simp at hj; omega)
  · cases he

theorem evField_sound {s : TypeId} {fields : Array Field} {k : Nat} {f : Field} {i : TypeInfo} {agg : Bool} {v : Value} {a r : AV} (hs : P.underlying s = some (.struct fields)) (hf : fields[k]? = some f) (hi : P.info? f.type = some i) (ha : isAggB P f.type = some agg)
    (h : VRel w OK g v a) (he : evPart agg f.offset i.size a = some r) : Yields' P w OK g (Instr.field s v k) r := by
  obtain ⟨x, h1, h2⟩ := evPart_sound hi ha h he
  exact ⟨x, by simpa [Instr.field, run_underlying' hs, hf] using h1, h2⟩

/-- 'a[i]' of an array that is a value -/
def evIndexVal (agg : Bool) (n s : Nat) : AV → AV → Option AV
  | a, .int _ k => if 0 ≤ k ∧ k < n then evPart agg (k.toNat * s) s a else none
  | _, _ => none
theorem evIndexVal_sound {t elem : TypeId} {n : Nat} {i : TypeInfo} {agg : Bool} {v1 v2 : Value} {a1 a2 r : AV} (ht : P.underlying t = some (.array n elem)) (hi : P.info? elem = some i) (ha : isAggB P elem = some agg)
    (h1 : VRel w OK g v1 a1) (h2 : VRel w OK g v2 a2) (he : evIndexVal agg n i.size a1 a2 = some r) : Yields' P w OK g (Instr.index t v1 v2) r := by
  unfold evIndexVal at he
  split at he
  · rename_i kk k
    obtain rfl := h2.inv_int
    simp only [Option.ite_none_right_eq_some] at he
    obtain ⟨⟨hk0, hk1⟩, he⟩ := he
    have he' := he
    unfold evPart at he'
    split at he'
    · rename_i cs
      obtain ⟨x, e1, e2⟩ := evPart_sound hi ha h1 he
      obtain ⟨vs, vals, rfl, _⟩ := h1.inv_agg
      refine ⟨x, ?_, e2⟩
      simp only [asAgg, Sem.run_bind, Sem.run_pure, Result.andThen_ok] at e1
      simp [Instr.index, asIntOf, run_underlying' ht, hk0, hk1, run_sizeOf' hi, e1]
    · cases he'
  · cases he

/-- 's[i]' of a string -/
def evIndexStr : AV → AV → Option AV
  | .str l, .int _ k => if 0 ≤ k then (l[k.toNat]?).map fun b => .int .u8 b.toNat else none
  | _, _ => none
theorem evIndexStr_sound {t : TypeId} {v1 v2 : Value} {a1 a2 r : AV} (ht : P.underlying t = some .string) (h1 : VRel w OK g v1 a1) (h2 : VRel w OK g v2 a2) (he : evIndexStr a1 a2 = some r) : Yields' P w OK g (Instr.index t v1 v2) r := by
  unfold evIndexStr at he
  split at he
  · rename_i l kk k
    obtain rfl := h2.inv_int
    obtain ⟨s, rfl, hs⟩ := h1.inv_str
    simp only [Option.ite_none_right_eq_some, Option.map_eq_some_iff] at he
    obtain ⟨hk, b, hb, rfl⟩ := he
    have hsz : s.size = l.length := by rw [← hs, Array.length_toList]; rfl
    obtain ⟨hlt, hbe⟩ := List.getElem?_eq_some_iff.1 hb
    have : s[k.toNat]? = some b := by
      rw [getElem?_pos s k.toNat (by rw [hsz]; exact hlt)]
      congr 1
      subst hbe
      subst hs
      show s.data[k.toNat] = _
      simp
    exact ⟨.int .u8 b.toNat, by simp [Instr.index, asIntOf, run_underlying' ht, hk, this], .int _ _ _⟩
  · cases he

def evExtract (k : Nat) : AV → Option AV
  | .tup vs => vs[k]?
  | _ => none
theorem evExtract_sound {k : Nat} {v : Value} {a r : AV} (h : VRel w OK g v a) (he : evExtract k a = some r) : Yields' P w OK g (Instr.extract v k) r := by
  unfold evExtract at he
  split at he
  · obtain ⟨vs, vals, rfl, hl, hg, hv⟩ := h.inv_tup
    obtain ⟨hlt, rfl⟩ := List.getElem?_eq_some_iff.1 he
    exact ⟨vals k, by simp [Instr.extract, hg k hlt], hv k hlt⟩
  · cases he

/-- the bounds of a slice expression -/
def hiB (len : Nat) : Option AV → Option Nat
  | none => some len
  | some (.int _ n) => if 0 ≤ n ∧ n ≤ len then some n.toNat else none
  | some _ => none
def loB : Option AV → Option Nat
  | none => some 0
  | some (.int _ n) => if 0 ≤ n then some n.toNat else none
  | some _ => none
def evBounds (len : Nat) (lo hi : Option AV) : Option (Nat × Nat) :=
  match loB lo, hiB len hi with
  | some l, some h => if l ≤ h then some (l, h) else none
  | _, _ => none

def ORel (w : World) (OK : Nat → Prop) (g : Ghost) : Option Value → Option AV → Prop
  | none, none => True
  | some v, some a => VRel w OK g v a
  | _, _ => False

theorem hiB_sound {len h : Nat} {hi : Option Value} {ahi : Option AV} (hr : ORel w OK g hi ahi) (he : hiB len ahi = some h) :
    (hi = none ∧ h = len) ∨ ∃ k n, hi = some (.int k n) ∧ 0 ≤ n ∧ n ≤ len ∧ h = n.toNat := by
  cases hi with
  | none => cases ahi with
    | none => simp [hiB] at he; exact .inl ⟨rfl, he.symm⟩
    | some a => exact hr.elim
  | some v => cases ahi with
    | none => exact hr.elim
    | some a =>
      have hr' : VRel w OK g v a := hr
      unfold hiB at he
      split at he
      · rename_i e; cases e
      · rename_i k n e
        injection e with e; subst e
        simp only [Option.ite_none_right_eq_some, Option.some.injEq] at he
        exact .inr ⟨k, n, by rw [hr'.inv_int], he.1.1, he.1.2, he.2.symm⟩
      · cases he
theorem loB_sound {l : Nat} {lo : Option Value} {alo : Option AV} (hr : ORel w OK g lo alo) (he : loB alo = some l) :
    (lo = none ∧ l = 0) ∨ ∃ k n, lo = some (.int k n) ∧ 0 ≤ n ∧ l = n.toNat := by
  cases lo with
  | none => cases alo with
    | none => simp [loB] at he; exact .inl ⟨rfl, he.symm⟩
    | some a => exact hr.elim
  | some v => cases alo with
    | none => exact hr.elim
    | some a =>
      have hr' : VRel w OK g v a := hr
      unfold loB at he
      split at he
      · rename_i e; cases e
      · rename_i k n e
        injection e with e; subst e
        simp only [Option.ite_none_right_eq_some, Option.some.injEq] at he
        exact .inr ⟨k, n, by rw [hr'.inv_int], he.1, he.2.symm⟩
      · cases he

theorem evBounds_sound {sl : Bool} {len cap l h : Nat} {lo hi : Option Value} {alo ahi : Option AV} (hlo : ORel w OK g lo alo) (hhi : ORel w OK g hi ahi) (hcap : len ≤ cap) (he : evBounds len alo ahi = some (l, h)) :
    (Instr.sliceBounds sl len cap lo hi none).run P w = .ok (l, h, cap) w ∧ l ≤ h ∧ h ≤ len := by
  unfold evBounds at he
  split at he
  · rename_i l' h' e1 e2
    simp only [Option.ite_none_right_eq_some, Option.some.injEq, Prod.mk.injEq] at he
    obtain ⟨hle, rfl, rfl⟩ := he
    rcases hiB_sound hhi e2 with ⟨rfl, rfl⟩ | ⟨k, n, rfl, h0, h1, rfl⟩ <;> rcases loB_sound hlo e1 with ⟨rfl, rfl⟩ | ⟨k', n', rfl, h0', rfl⟩
    · exact ⟨rfl, hle, Nat.le_refl _⟩
    · have h2 : n' ≤ h' := by omega
      exact ⟨by simp [Instr.sliceBounds, Instr.sliceBound, asIntOf, h0', h2], hle, Nat.le_refl _⟩
    · have h2 : n ≤ cap := by omega
      exact ⟨by simp [Instr.sliceBounds, Instr.sliceBound, asIntOf, h0, h2], hle, by omega⟩
    · have h2 : n ≤ cap := by omega
      have h3 : n' ≤ n.toNat := by omega
      have h4 : n' ≤ max n 0 := by omega
      exact ⟨by simp [Instr.sliceBounds, Instr.sliceBound, asIntOf, h0, h2, h0', h3, h4], hle, by omega⟩
  · cases he

/-- 's[lo:hi]' of a string -/
def evSliceStr (lo hi : Option AV) : AV → Option AV
  | .str s => (evBounds s.length lo hi).map fun x => .str ((s.drop x.1).take (x.2 - x.1))
  | _ => none
theorem evSliceStr_sound {t : TypeId} {v : Value} {lo hi : Option Value} {a r : AV} {alo ahi : Option AV} (ht : P.underlying t = some .string)
    (h : VRel w OK g v a) (hlo : ORel w OK g lo alo) (hhi : ORel w OK g hi ahi) (he : evSliceStr alo ahi a = some r) : Yields' P w OK g (Instr.slice t v lo hi none) r := by
  unfold evSliceStr at he
  split at he
  · rename_i l
    obtain ⟨s, rfl, hs⟩ := h.inv_str
    simp only [Option.map_eq_some_iff, Prod.exists] at he
    obtain ⟨a, b, hb, rfl⟩ := he
    have hsz : s.size = l.length := by rw [← hs, Array.length_toList]; rfl
    obtain ⟨h1, h2, h3⟩ := evBounds_sound (P := P) (sl := false) hlo hhi (Nat.le_refl _) hb
    rw [← hsz] at h1
    refine ⟨.string (s.extract a b), by simp [Instr.slice, run_underlying' ht, h1], .str _ _ _ ?_⟩
    rw [Lib.extract_data, hs]
  · cases he

/-- 's[lo:hi]' of a slice -/
def evSliceSl (esz : Nat) (A : Arena) (lo hi : Option AV) : AV → Option AV
  | .sl id off len => match A[id]? with
    | some (.row s _ _) => if s = esz then (evBounds len lo hi).map fun x => .sl id (off + x.1) (x.2 - x.1) else none
    | _ => none
  | .fs s es => if s = esz then (evBounds es.length lo hi).map fun x => .fs s ((es.drop x.1).take (x.2 - x.1)) else none
  | .nilS => (evBounds 0 lo hi).map fun _ => .nilS
  | _ => none
theorem evSliceSl_sound {t e : TypeId} {i : TypeInfo} {v : Value} {lo hi : Option Value} {a r : AV} {alo ahi : Option AV} (ht : P.underlying t = some (.slice e)) (hi' : P.info? e = some i)
    (hA : ARel w OK g A) (h : VRel w OK g v a) (hlo : ORel w OK g lo alo) (hhi : ORel w OK g hi ahi) (he : evSliceSl i.size A alo ahi a = some r) : Yields' P w OK g (Instr.slice t v lo hi none) r := by
  unfold evSliceSl at he
  split at he
  · rename_i id off len
    split at he
    · rename_i s gr es hid
      simp only [Option.ite_none_right_eq_some, Option.map_eq_some_iff, Prod.exists] at he
      obtain ⟨rfl, l, h', hb, rfl⟩ := he
      obtain ⟨inc, cap, ao, hinc, rfl, hl, hn, hcap, ha⟩ := h.inv_sl
      obtain ⟨hlt', hrow⟩ := List.getElem?_eq_some_iff.1 hid
      have hent := hA.ent id hlt'
      rw [hrow] at hent
      obtain ⟨hesz, _⟩ := hent.2 inc hinc
      obtain ⟨h1, h2, h3⟩ := evBounds_sound (P := P) (sl := true) hlo hhi hl hb
      by_cases hc : cap = l
      · refine ⟨.slice (some ⟨inc.b, ao, none⟩) (h' - l) (cap - l), ?_, ?_⟩
        · simp only [Instr.slice, Sem.run_bind, run_underlying' ht, Result.andThen_ok, h1, run_sizeOf' hi', if_pos hc]; rfl
        · exact .sl _ id _ _ _ _ inc hinc (by omega) (by omega) (by omega) (fun h0 => absurd (by omega) h0)
      · refine ⟨.slice (some ⟨inc.b, ao + l * i.size, none⟩) (h' - l) (cap - l), ?_, ?_⟩
        · simp only [Instr.slice, Sem.run_bind, run_underlying' ht, Result.andThen_ok, h1, run_sizeOf' hi', if_neg hc, Option.map_some, addr_add]; rfl
        · exact .sl _ id _ _ _ _ inc hinc (by omega) (by omega) (by omega) (fun h0 => by rw [ha (by omega), hesz, Nat.add_mul]; omega)
    · cases he
  · rename_i s es
    simp only [Option.ite_none_right_eq_some, Option.map_eq_some_iff, Prod.exists] at he
    obtain ⟨rfl, l, h', hb, rfl⟩ := he
    obtain ⟨b, o, cap, T, c, fz, vals, rfl, hb', hh, hcap, hv, hs, hc⟩ := h.inv_fs
    obtain ⟨h1, h2, h3⟩ := evBounds_sound (P := P) (sl := true) hlo hhi hcap hb
    have hlen : ((es.drop l).take (h' - l)).length = h' - l := by simp; omega
    by_cases hc' : cap = l
    · refine ⟨.slice (some ⟨b, o, none⟩) ((es.drop l).take (h' - l)).length (cap - l), ?_, ?_⟩
      · simp only [Instr.slice, Sem.run_bind, run_underlying' ht, Result.andThen_ok, h1, run_sizeOf' hi', if_pos hc', hlen]; rfl
      · exact .fs _ b o _ _ T c fz _ vals hb' hh (by omega) (fun i hi => by omega) (fun i hi => by omega) (fun i hi => by omega)
    · refine ⟨.slice (some ⟨b, o + l * i.size, none⟩) ((es.drop l).take (h' - l)).length (cap - l), ?_, ?_⟩
      · simp only [Instr.slice, Sem.run_bind, run_underlying' ht, Result.andThen_ok, h1, run_sizeOf' hi', if_neg hc', Option.map_some, addr_add, hlen]; rfl
      · refine .fs _ b _ _ _ T c fz _ (fun k => vals (l + k)) hb' hh (by omega) (fun k hk => ?_) (fun k hk => hs (l + k) (by omega)) (fun k hk j hj => ?_)
        · simp only [List.getElem_take, List.getElem_drop]; exact hv (l + k) (by omega)
        · have := hc (l + k) (by omega) j hj
          rw [← this]; congr 1; rw [Nat.add_mul]; omega
  · simp only [Option.map_eq_some_iff, Prod.exists] at he
    obtain ⟨l, h', hb, rfl⟩ := he
    obtain ⟨p0, rfl⟩ := h.inv_nilS
    obtain ⟨h1, h2, h3⟩ := evBounds_sound (P := P) (sl := true) hlo hhi (Nat.le_refl 0) hb
    obtain rfl : h' = 0 := by omega
    obtain rfl : l = 0 := by omega
    refine ⟨.slice p0 0 0, ?_, .nilS _ _⟩
    simp only [Instr.slice, Sem.run_bind, run_underlying' ht, Result.andThen_ok, h1, run_sizeOf' hi', if_true]; rfl
  · cases he

/-- 'len(s)' of a string -/
def evLenStr : AV → Option AV
  | .str s => some (.int .i64 s.length)
  | _ => none
theorem evLenStr_sound {t t' : TypeId} {v : Value} {a r : AV} (ht : P.underlying t = some .string) (h : VRel w OK g v a) (he : evLenStr a = some r) : Yields' P w OK g (Builtin.len_ #[t] t' #[v]) r := by
  unfold evLenStr at he
  split at he
  · obtain ⟨s, rfl, hs⟩ := h.inv_str
    injection he with he; subst he
    have hsz : s.size = s.data.toList.length := by rw [Array.length_toList]; rfl
    rw [← hs, ← hsz]
    exact ⟨.int .i64 s.size, by simp [Builtin.len_, run_underlying' ht, goInt], .int _ _ _⟩
  · cases he
/-- 'len(s)' of a slice -/
def evLenSl : AV → Option AV
  | .fs _ es => some (.int .i64 es.length)
  | .sl _ _ len => some (.int .i64 len)
  | .nilS => some (.int .i64 0)
  | _ => none
theorem evLenSl_sound {t t' e : TypeId} {v : Value} {a r : AV} (ht : P.underlying t = some (.slice e)) (h : VRel w OK g v a) (he : evLenSl a = some r) : Yields' P w OK g (Builtin.len_ #[t] t' #[v]) r := by
  unfold evLenSl at he
  split at he
  · obtain ⟨b, o, cap, T, c, fz, vals, rfl, _⟩ := h.inv_fs
    injection he with he; subst he
    exact ⟨_, by simp [Builtin.len_, run_underlying' ht, goInt], .int _ _ _⟩
  · obtain ⟨inc, cap, ao, hinc, rfl, _⟩ := h.inv_sl
    injection he with he; subst he
    exact ⟨_, by simp [Builtin.len_, run_underlying' ht, goInt], .int _ _ _⟩
  · obtain ⟨p0, rfl⟩ := h.inv_nilS
    injection he with he; subst he
    exact ⟨_, by simp [Builtin.len_, run_underlying' ht, goInt], .int _ _ _⟩
  · cases he
/-- 'len(m)' of a map -/
def evLenMap (A : Arena) : AV → Option AV
  | .nilM => some (.int .i64 0)
  | .map id => match A[id]? with
    | some (.map kvs) => some (.int .i64 kvs.length)
    | _ => none
  | _ => none
theorem evLenMap_sound {t t' k e : TypeId} {v : Value} {a r : AV} (ht : P.underlying t = some (.map k e)) (hA : ARel w OK g A) (h : VRel w OK g v a) (he : evLenMap A a = some r) : Yields' P w OK g (Builtin.len_ #[t] t' #[v]) r := by
  unfold evLenMap at he
  split at he
  · obtain rfl := h.inv_nilM
    injection he with he; subst he
    exact ⟨.int .i64 0, by simp [Builtin.len_, run_underlying' ht, goInt], .int _ _ _⟩
  · rename_i id
    obtain ⟨inc, hinc, rfl⟩ := h.inv_map
    split at he
    · rename_i kvs hid
      injection he with he; subst he
      obtain ⟨hlt', hrow⟩ := List.getElem?_eq_some_iff.1 hid
      have hent := hA.ent id hlt'
      rw [hrow] at hent
      obtain ⟨inc', e1, es, clock, h1, h2, _⟩ := hent
      rw [e1] at hinc
      simp at hinc; subst hinc
      refine ⟨.int .i64 es.size, ?_, by rw [h2]; exact .int _ _ _⟩
      simp [Builtin.len_, run_underlying' ht, goInt, getObj, Sem.run, h1]
    · cases he
  · cases he

/-- 'min(a, b)', 'max(a, b)' of integers -/
def evMin2 (isMax : Bool) : AV → AV → Option AV
  | .int k x, .int _ y => some (.int k (if isMax then (if y > x then y else x) else (if y < x then y else x)))
  | _, _ => none
def evMinL (isMax : Bool) : AV → List AV → Option AV
  | a, [] => some a
  | a, b :: r => match evMin2 isMax a b with
    | some c => evMinL isMax c r
    | none => none
theorem evMinL_sound {isMax : Bool} : ∀ (vs : List Value) (as : List AV) (v : Value) (a r : AV), vs.length = as.length → (∀ i (h : i < as.length) (h' : i < vs.length), VRel w OK g vs[i] as[i]) → VRel w OK g v a → evMinL isMax a as = some r →
    ∃ x, (vs.foldlM (if isMax then Builtin.max2 else Builtin.min2) v).run P w = .ok x w ∧ VRel w OK g x r
  | [], [], v, a, r, _, _, h, he => by injection he with he; subst he; exact ⟨v, rfl, h⟩
  | [], _ :: _, _, _, _, hl, _, _, _ => by simp at hl
  | _ :: _, [], _, _, _, hl, _, _, _ => by simp at hl
  | u :: vs, b :: as, v, a, r, hl, hr, h, he => by
    have hu : VRel w OK g u b := hr 0 (by simp) (by simp)
    unfold evMinL at he
    split at he
    · rename_i c hc
      unfold evMin2 at hc
      split at hc
      · injection hc with hc; subst hc
        obtain rfl := h.inv_int
        obtain rfl := hu.inv_int
        obtain ⟨x, h1, h2⟩ := evMinL_sound vs as _ _ r (by simpa using hl) (fun i h h' => hr (i + 1) (by simp; omega) (by simp; omega)) (.int g _ _) he
        refine ⟨x, ?_, h2⟩
        cases isMax <;> simpa [Builtin.max2, Builtin.min2] using h1
      · cases hc
    · cases he

/-- a check that a pointer is none -/
def evNilCheck : AV → Option AV
  | .ptr id i o => some (.ptr id i o)
  | .fp cs => some (.fp cs)
  | _ => none

/-- structs whose cells are integers, strings and bools: equal if each cell is -/
def eqCell : AV → AV → Option Bool
  | .int k a, .int k' b => if k = k' then some (a == b) else none
  | .str a, .str b => some (a == b)
  | .bool a, .bool b => some (a == b)
  | _, _ => none
end
end Go.Proofs.YtnpmfpcppkdniaaDoor
