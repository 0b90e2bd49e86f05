/-
  Operations that read memory. Program-independent.
-/
import Derived.Test.YtnpmfpcppkdniaaDoorEv3
namespace Go.Proofs.YtnpmfpcppkdniaaDoor
open Go
section
variable {P : Program} {w : World} {OK : Nat → Prop} {g : Ghost} {A : Arena}

theorem run_underlying' {t : TypeId} {d : TypeDesc} (h : P.underlying t = some d) : (underlying t).run P w = .ok d w := by simp [underlying, h]
theorem run_typeInfo' {t : TypeId} {i : TypeInfo} (h : P.info? t = some i) : (typeInfo t).run P w = .ok i w := by simp [typeInfo, h]
theorem run_sizeOf' {t : TypeId} {i : TypeInfo} (h : P.info? t = some i) : (sizeOf t).run P w = .ok i.size w := by simp [sizeOf, run_typeInfo' h]
theorem run_zeroValue' {t : TypeId} {i : TypeInfo} {z : Value} (h : P.info? t = some i) (hz : i.zero = some z) : (zeroValue t).run P w = .ok z w := by simp [zeroValue, run_typeInfo' h, hz]

/-- is a type's value a row of cells? -/
def isAggB (P : Program) (t : TypeId) : Option Bool :=
  match P.underlying t with
  | some (.struct _) | some (.array _ _) => some true
  | some _ => some false
  | none => none
theorem run_isAgg' {t : TypeId} {b : Bool} (h : isAggB P t = some b) : (isAgg t).run P w = .ok b w := by
  unfold isAggB at h
  split at h
  · rename_i h1; injection h with h; subst h; simp [isAgg, run_underlying' h1]
  · rename_i h1; injection h with h; subst h; simp [isAgg, run_underlying' h1]
  · rename_i d h1 h2 h3
    injection h with h; subst h
    rw [isAgg, Sem.run_bind, run_underlying' h3]
    cases d <;> simp_all
  · cases h

theorem cell_at {b o : Nat} {c : Array Value} {T : TypeId} {fz : Nat × Nat} (h : w.heap[b]? = some (.cells c T fz)) : w.cell? ⟨b, o, none⟩ = c[o]? := by simp [World.cell?, h]

/-- The cells from an address on, as the model loads them. -/
theorem run_loadVar' {t : TypeId} {i : TypeInfo} {agg : Bool} {b o : Nat} {c : Array Value} {T : TypeId} {fz : Nat × Nat} (hi : P.info? t = some i) (ha : isAggB P t = some agg)
    (h : w.heap[b]? = some (.cells c T fz)) (f : Nat → Value) (hf : ∀ j, j < (if agg then i.size else 1) → c[o + j]? = some (f j)) :
    (loadVar t ⟨b, o, none⟩).run P w = .ok (if agg then .agg ((List.range i.size).map f).toArray else f 0) w := by
  cases agg
  · have h0 := hf 0 (by simp)
    simp only [Nat.add_zero] at h0
    simp [loadVar, run_isAgg' ha, cell_at h, h0]
  · have := run_loadCells (P := P) w ⟨b, o, none⟩ i.size f (fun j hj => by rw [addr_add, cell_at h]; exact hf j (by simpa using hj))
    simp [loadVar, run_isAgg' ha, run_sizeOf' hi, this]

/-- a tree that is no row of cells -/
def flat1 : AV → Bool
  | .tup _ | .agg _ => false
  | _ => true

def loadElem (e : AV) (esz o : Nat) (agg : Bool) (size : Nat) : Option AV :=
  if agg then
    if o = 0 ∧ size = esz then (match e with | .agg cs => some (.agg cs) | .undef => some .undef | _ => none)
    else if o + size ≤ esz then (match e with | .agg cs => some (.agg ((cs.drop o).take size)) | _ => none)
    else none
  else match e with
    | .agg cs => cs[o]?
    | .undef => some .undef
    | .tup _ => none
    | e => if o = 0 then some e else none

def evLoad (agg : Bool) (size : Nat) (A : Arena) : AV → Option AV
  | .ptr id i o =>
    match A[id]? with
    | some (.row esz gr es) =>
      if agg && esz == 1 && !(size == 1) && !gr then
        if i + size ≤ es.length ∧ ((es.drop i).take size).all flat1 = true ∧ o = 0 then some (.agg ((es.drop i).take size)) else none
      else match es[i]? with
        | some e => loadElem e esz o agg size
        | none => none
    | _ => none
  | .fp cs => if agg then (if size = cs.length then some (.agg cs) else if size ≤ cs.length then some (.agg (cs.take size)) else none) else cs[0]?
  | _ => none

theorem cells_flat1 {v : Value} {e : AV} (h : VRel w OK g v e) (hf : flat1 e = true) (hs : v.cells.size = 1) : ∃ x, v.cells[0]? = some x ∧ VRel w OK g x e := by
  cases h with
  | undef _ v => exact ⟨v.cells[0], by simp [hs], .undef _ _⟩
  | tup => cases hf
  | agg => cases hf
  | bool _ b => exact ⟨_, rfl, .bool _ _⟩
  | int _ k n => exact ⟨_, rfl, .int _ _ _⟩
  | str _ s l h => exact ⟨_, rfl, .str _ _ _ h⟩
  | nilS _ p => exact ⟨_, rfl, .nilS _ p⟩
  | nilP => exact ⟨_, rfl, .nilP _⟩
  | nilM => exact ⟨_, rfl, .nilM _⟩
  | nilF => exact ⟨_, rfl, .nilF _⟩
  | nilI => exact ⟨_, rfl, .nilI _⟩
  | fs _ b o cap esz T c fz es vals hb hh hcap hv hss hc => exact ⟨_, rfl, .fs _ b o cap esz T c fz es vals hb hh hcap hv hss hc⟩
  | sl _ id off len cap ao inc hi hl hn hcap ha => exact ⟨_, rfl, .sl _ id off len cap ao inc hi hl hn hcap ha⟩
  | ptr _ id i o ao inc hi hn ho ha => exact ⟨_, rfl, .ptr _ id i o ao inc hi hn ho ha⟩
  | fp _ b o T c fz cs vals hb hh hne hv hc => exact ⟨_, rfl, .fp _ b o T c fz cs vals hb hh hne hv hc⟩
  | func _ fn vs1 vs2 cs1 cs2 hl1 hl2 vals1 vals2 hg1 hg2 hv1 hv2 => exact ⟨_, rfl, .func _ fn vs1 vs2 cs1 cs2 hl1 hl2 vals1 vals2 hg1 hg2 hv1 hv2⟩
  | map _ id inc hi => exact ⟨_, rfl, .map _ id inc hi⟩
  | iface _ t v a hv => exact ⟨_, rfl, .iface _ t v a hv⟩

/-- an element's cells, and what is loaded of them -/
theorem loadElem_sound {t : TypeId} {i : TypeInfo} {agg : Bool} {b p o esz : Nat} {c : Array Value} {T : TypeId} {fz : Nat × Nat} {e r : AV} (hi : P.info? t = some i) (ha : isAggB P t = some agg)
    (h : w.heap[b]? = some (.cells c T fz)) (he : ElemAt w OK g c p esz e) (ho : o < esz) (hr : loadElem e esz o agg i.size = some r) :
    ∃ v, (loadVar t ⟨b, p + o, none⟩).run P w = .ok v w ∧ VRel w OK g v r := by
  obtain ⟨v, hv, hs, hok, hc⟩ := he
  unfold loadElem at hr
  cases agg
  · obtain ⟨x, hx⟩ : ∃ x, v.cells[o]? = some x := ⟨v.cells[o]'(by omega), by simp [hs, ho]⟩
    have h0 : c[p + o]? = some x := by rw [hc o ho]; exact hx
    have hrun := run_loadVar' (P := P) (w := w) hi ha h (fun _ => x) (o := p + o) (fun j hj => by simp at hj; subst hj; simpa using h0)
    refine ⟨x, hrun, ?_⟩
    simp only [Bool.false_eq_true, if_false] at hr
    split at hr
    · cases hv with
      | agg _ vs cs hl vals hg' hv =>
        obtain ⟨hlt, rfl⟩ := List.getElem?_eq_some_iff.1 hr
        have h2 := (hg' o hlt).1
        rw [show vs[o]? = some x from hx] at h2
        injection h2 with h2
        rw [h2]
        exact hv o hlt
    · injection hr with hr; subst hr; exact .undef _ _
    · cases hr
    · split at hr
      · rename_i hn1 hn2 hn3 h0
        subst h0
        injection hr with hr; subst hr
        have hf : flat1 e = true := by cases e <;> simp_all [flat1]
        have h1 : v.cells.size = 1 := by
          have hsol : e.solid = true := by cases e <;> simp_all [AV.solid]
          rw [(hv.cells hsol).1]
          cases e <;> simp_all [cellsOf]
        obtain ⟨y, hy, hvy⟩ := cells_flat1 hv hf h1
        rw [hx] at hy
        injection hy with hy
        rw [hy]; exact hvy
      · cases hr
  · simp only [if_true] at hr
    split at hr
    · rename_i h1
      obtain ⟨rfl, hsz⟩ := h1
      split at hr
      · rename_i cs
        injection hr with hr; subst hr
        obtain ⟨vs, vals, rfl, hl, hg', hv'⟩ := hv.inv_agg
        have hvs : vs.size = i.size := by simpa [Value.cells, hsz] using hs
        have hrun := run_loadVar' (P := P) (w := w) hi ha h vals (o := p + 0) (fun j hj => by
          simp at hj
          have := hc j (by omega)
          simpa [Value.cells, (hg' j (by omega)).1] using this)
        refine ⟨_, hrun, ?_⟩
        have : (((List.range i.size).map vals).toArray) = vs := by
          apply Array.ext
          · simp [hvs]
          · intro j h1 h2
            have := (hg' j (by omega)).1
            rw [Array.getElem?_eq_getElem h2] at this
            injection this with this
            simp [this]
        rw [if_pos rfl, this]
        exact hv
      · injection hr with hr; subst hr
        have hrun := run_loadVar' (P := P) (w := w) hi ha h (fun j => v.cells.getD j undef) (o := p + 0) (fun j hj => by
            simp at hj
            have := hc j (by omega)
            rw [Nat.add_zero, this]
            simp [hs, ← hsz, hj])
        exact ⟨_, hrun, .undef _ _⟩
      · cases hr
    · split at hr
      · rename_i h1 h2
        split at hr
        · rename_i cs
          injection hr with hr; subst hr
          obtain ⟨vs, vals, rfl, hl, hg', hv'⟩ := hv.inv_agg
          have hvs : vs.size = esz := by simpa [Value.cells] using hs
          have hrun := run_loadVar' (P := P) (w := w) hi ha h (fun j => vals (o + j)) (o := p + o) (fun j hj => by
            simp at hj
            have := hc (o + j) (by omega)
            rw [Nat.add_assoc, this]
            simpa [Value.cells] using (hg' (o + j) (by omega)).1)
          refine ⟨_, hrun, ?_⟩
          rw [if_pos rfl]
          refine .agg _ _ _ (by simp; omega) (fun j => vals (o + j)) (fun j hj => ?_) (fun j hj => ?_)
          · simp at hj
            exact ⟨by simp [List.getElem?_range (show j < i.size by omega)], (hg' (o + j) (by omega)).2⟩
          · simp only [List.getElem_take, List.getElem_drop]
            exact hv' (o + j) (by simp at hj; omega)
        · cases hr
      · cases hr

theorem evLoad_sound {t : TypeId} {i : TypeInfo} {agg : Bool} {v : Value} {a r : AV} (hi : P.info? t = some i) (hg : isAggB P t = some agg) (hA : ARel w OK g A) (h : VRel w OK g v a) (he : evLoad agg i.size A a = some r) :
    Yields' P w OK g (Instr.loadAt t v) r := by
  unfold evLoad at he
  split at he
  · rename_i id i0 o
    obtain ⟨inc, hinc, rfl, hn, ho⟩ := h.inv_ptr
    split at he
    · rename_i esz gr es hid
      obtain ⟨hlt, hrow⟩ := List.getElem?_eq_some_iff.1 hid
      have hent := hA.ent id hlt
      rw [hrow] at hent
      obtain ⟨hesz, hne, _, c, T, fz, hh, _, _, hel⟩ := hent.2 inc hinc
      split at he
      · rename_i hcond
        simp only [Bool.and_eq_true, beq_iff_eq, Bool.not_eq_true', beq_eq_false_iff_ne] at hcond
        obtain ⟨⟨⟨rfl, rfl⟩, hsz⟩, rfl⟩ := hcond
        have hn' := (hent.1 rfl).2 inc hinc
        split at he
        · rename_i hc
          obtain ⟨hlen, hall, rfl⟩ := hc
          injection he with he; subst he
          have hfl : ∀ j (hj : j < i.size), ∃ x, c[inc.o + i0 * 1 + 0 + j]? = some x ∧ VRel w OK g x (es[i0 + j]'(by omega)) ∧ x.oneCell' = true := fun j hj => by
            obtain ⟨v, hv, hs, hok, hc'⟩ := hel (i0 + j) (by omega) (by omega)
            have hfj : flat1 (es[i0 + j]'(by omega)) = true := by
              have := List.all_eq_true.1 hall (es[i0 + j]'(by omega)) (by
                rw [List.mem_take_iff_getElem]
                exact ⟨j, by simp; omega, by simp⟩)
              exact this
            obtain ⟨x, hx, hvx⟩ := cells_flat1 hv hfj hs
            refine ⟨x, ?_, hvx, hok x (by rw [Array.mem_toList_iff]; exact Array.mem_of_getElem? hx)⟩
            have := hc' 0 (by omega)
            rw [hx] at this
            rw [← this]; congr 1; omega
          obtain ⟨f, hf⟩ : ∃ f : Nat → Value, ∀ j (hj : j < i.size), c[inc.o + i0 * 1 + 0 + j]? = some (f j) ∧ VRel w OK g (f j) (es[i0 + j]'(by omega)) ∧ (f j).oneCell' = true :=
            ⟨fun j => (c[inc.o + i0 * 1 + 0 + j]?).getD undef, fun j hj => by
              obtain ⟨x, h1, h2, h3⟩ := hfl j hj
              simp only [h1, Option.getD_some]
              exact ⟨trivial, h2, h3⟩⟩
          have hrun := run_loadVar' (P := P) (w := w) hi hg hh f (o := inc.o + i0 * 1 + 0) (fun j hj => (hf j (by simpa using hj)).1)
          refine ⟨_, by rw [hesz]; simpa [Instr.loadAt, Instr.sureAddr] using hrun, ?_⟩
          refine .agg _ _ _ (by simp; omega) f (fun j hj => ?_) (fun j hj => ?_)
          · simp at hj
            exact ⟨by simp [List.getElem?_range (show j < i.size by omega)], (hf j (by omega)).2.2⟩
          · simp only [List.getElem_take, List.getElem_drop]; exact (hf j (by simp at hj; omega)).2.1
        · cases he
      · split at he
        · rename_i e hes
          obtain ⟨hi0, rfl⟩ := List.getElem?_eq_some_iff.1 hes
          rw [hesz] at ho
          obtain ⟨v, h1, h2⟩ := loadElem_sound hi hg hh (hel i0 hi0 hn) ho he
          exact ⟨v, by rw [hesz]; simpa [Instr.loadAt, Instr.sureAddr] using h1, h2⟩
        · cases he
    · cases he
  · rename_i cs
    obtain ⟨b, o, T, c, fz, vals, rfl, hb, hh, hne, hv, hc⟩ := h.inv_fp
    have hv' : ∀ j (hj : j < cs.length), VRel w OK g (vals j) cs[j] := fun j hj => (hv j hj).none_to
    cases agg
    · simp only [Bool.false_eq_true, if_false] at he
      obtain ⟨hlt, rfl⟩ := List.getElem?_eq_some_iff.1 he
      have hrun := run_loadVar' (P := P) (w := w) hi hg hh vals (o := o) (fun j hj => by simp at hj; subst hj; exact (hc 0 hlt).1)
      exact ⟨vals 0, by simpa [Instr.loadAt, Instr.sureAddr] using hrun, hv' 0 hlt⟩
    · simp only [if_true] at he
      have key : ∀ n, n = i.size → n ≤ cs.length → Yields' P w OK g (Instr.loadAt t (.pointer (some ⟨b, o, none⟩))) (.agg (cs.take n)) := by
        rintro n rfl hle
        have hrun := run_loadVar' (P := P) (w := w) hi hg hh vals (o := o) (fun j hj => (hc j (by simp at hj; omega)).1)
        refine ⟨_, by simpa [Instr.loadAt, Instr.sureAddr] using hrun, ?_⟩
        refine .agg _ _ _ (by simp; omega) vals (fun j hj => ?_) (fun j hj => ?_)
        · simp at hj
          exact ⟨by simp [List.getElem?_range (show j < i.size by omega)], (hc j (by omega)).2⟩
        · simp only [List.getElem_take]; exact hv' j (by simp at hj; omega)
      split at he
      · rename_i h1
        injection he with he; subst he
        have := key cs.length h1.symm (Nat.le_refl _)
        rwa [List.take_length] at this
      · split at he
        · rename_i h1 h2
          injection he with he; subst he
          exact key _ rfl h2
        · cases he
  · cases he
end
end Go.Proofs.YtnpmfpcppkdniaaDoor
