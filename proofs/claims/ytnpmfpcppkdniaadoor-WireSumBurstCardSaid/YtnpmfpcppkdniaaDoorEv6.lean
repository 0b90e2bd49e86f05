/-
  Operations that make memory and write it. Program-independent.
-/
import Derived.Test.YtnpmfpcppkdniaaDoorEv5
namespace Go.Proofs.YtnpmfpcppkdniaaDoor
open Go
section
variable {P : Program} {w : World} {OK : Nat → Prop} {g : Ghost} {A : Arena}

/-- What an operation may do: it yields r, in a world that the arena A' tells. -/
def Does (P : Program) (w : World) (OK : Nat → Prop) (g : Ghost) (s : Sem Value) (r : AV) (A' : Arena) : Prop :=
  ∃ v w' g', s.run P w = .ok v w' ∧ VRel w' OK g' v r ∧ ARel w' OK g' A' ∧ Ext w OK g w' OK g'

theorem Yields'.does {s : Sem Value} {r : AV} (h : Yields' P w OK g s r) (hA : ARel w OK g A) : Does P w OK g s r A := by
  obtain ⟨v, h1, h2⟩ := h
  exact ⟨v, w, g, h1, h2, hA, Ext.refl _ _ _⟩

/-- A new row of elements in a new block. -/
theorem ARel.pushRow (hA : ARel w OK g A) {w' : World} (c : Array Value) (T : TypeId) (fz : Nat × Nat) (hh : w'.heap = w.heap.push (.cells c T fz)) (ho : w'.os = w.os) (ht : w'.tape = w.tape) (hp : w'.output = w.output)
    (hu : unfrozen c fz) (esz cap : Nat) (gr : Bool) (es : List AV) (hcap : es.length ≤ cap) (hsz : cap * esz ≤ c.size)
    (hel : ∀ i (h : i < es.length), ElemAt w OK g c (i * esz) esz es[i]) :
    ARel w' OK (g.push A.length ⟨w.heap.size, 0, es.length, cap, esz⟩) (A ++ [.row esz gr es]) ∧ Ext w OK g w' OK (g.push A.length ⟨w.heap.size, 0, es.length, cap, esz⟩) := by
  refine hA.push (.cells c T fz) hh ho ht hp (.row esz gr es) ⟨w.heap.size, 0, es.length, cap, esz⟩ rfl (fun g' hg hb hn => ?_)
  refine ⟨fun _ => ⟨by simp, by simp⟩, fun inc hi => ?_⟩
  simp at hi; subst hi
  refine ⟨rfl, Nat.le_refl _, hcap, c, T, fz, hn, hu, by simpa using hsz, fun i hi _ => ?_⟩
  have := (hel i hi).mono (w' := w') (OK' := OK) (g' := g') (fun _ h => h) (fun b hb' => hb b (hA.ok b hb')) hg
  simpa using this

theorem Ghost.push_self (g : Ghost) (n : Nat) (inc : Inc) : inc ∈ g.push n inc n := by simp [Ghost.push]

theorem unfrozen_zero (c : Array Value) : unfrozen c (0, 0) := fun j _ => by simp

/-- a new variable -/
def evBox (size : Nat) (a : AV) (A : Arena) : Option (AV × Arena) :=
  if 0 < size ∧ a.solid = true ∧ (cellsOf a).length = size then some (.ptr A.length 0 0, A ++ [.row size false [a]]) else none
theorem evBox_sound {t : TypeId} {v : Value} {a r : AV} {size : Nat} {A' : Arena} (hA : ARel w OK g A) (h : VRel w OK g v a) (he : evBox size a A = some (r, A')) : Does P w OK g (Instr.box t v) r A' := by
  unfold evBox at he
  simp only [Option.ite_none_right_eq_some, Option.some.injEq, Prod.mk.injEq] at he
  obtain ⟨⟨hpos, hsol, hlen⟩, rfl, rfl⟩ := he
  obtain ⟨h1, h2, _⟩ := h.cells hsol
  obtain ⟨k1, k2⟩ := hA.pushRow (w' := { w with heap := w.heap.push (.cells v.cells t (0, 0)) }) v.cells t (0, 0) rfl rfl rfl rfl (unfrozen_zero _) size 1 false [a] (by simp) (by omega)
    (fun i hi => by
      simp at hi; subst hi
      exact ⟨v, h, by omega, h2, fun j hj => by simp⟩)
  refine ⟨.pointer (some ⟨w.heap.size, 0, none⟩), _, _, ?_, ?_, k1, k2⟩
  · simp [Instr.box, newVar, newRow]
  · exact .ptr _ _ 0 0 _ _ (Ghost.push_self _ _ _) (by simp) hpos (by simp)

theorem evAlloc_sound {t : TypeId} {i : TypeInfo} {z : Value} {a r : AV} {A' : Arena} {old : Value} (hi : P.info? t = some i) (hz : i.zero = some z) (hA : ARel w OK g A) (h : VRel w OK g z a) (he : evBox i.size a A = some (r, A')) :
    Does P w OK g (Instr.alloc t true old) r A' := by
  obtain ⟨v, w', g', h1, h2, h3, h4⟩ := evBox_sound (P := P) (t := t) hA h he
  refine ⟨v, w', g', ?_, h2, h3, h4⟩
  simpa [Instr.alloc, Instr.box, run_zeroValue' hi hz] using h1

/-- a new array: its elements are the elements of the row -/
def evAllocArr (n esz : Nat) (z : AV) (A : Arena) : Option (AV × Arena) :=
  if 0 < esz ∧ 0 < n ∧ z.solid = true ∧ (cellsOf z).length = esz then some (.ptr A.length 0 0, A ++ [.row esz false (List.replicate n z)]) else none

theorem getElem?_flat {n s : Nat} (f : Nat → Nat → Value) {c : Array Value} (hc : ∀ i j, i < n → j < s → c[i * s + j]? = some (f i j)) (i j : Nat) (hi : i < n) (hj : j < s) : c[i * s + j]? = some (f i j) := hc i j hi hj

/-- an array's value and its elements -/
def unflat (n s : Nat) (cs : List AV) : List AV := (List.range n).map fun i => if s = 1 then cs.getD i .undef else .agg ((cs.drop (i * s)).take s)

theorem evAllocArr_sound {t : TypeId} {i : TypeInfo} {n esz : Nat} {z ze : AV} {zv : Value} {r : AV} {A' : Arena} {old : Value} {vs : Array Value} (hi : P.info? t = some i) (hz : i.zero = some (.agg vs)) (hsz : vs.size = n * esz)
    (hze : VRel w OK g zv ze) (hrep : ∀ k j, k < n → j < esz → vs[k * esz + j]? = zv.cells[j]?) (hA : ARel w OK g A) (he : evAllocArr n esz ze A = some (r, A')) :
    Does P w OK g (Instr.alloc t true old) r A' := by
  unfold evAllocArr at he
  simp only [Option.ite_none_right_eq_some, Option.some.injEq, Prod.mk.injEq] at he
  obtain ⟨⟨hpos, hn, hsol, hlen⟩, rfl, rfl⟩ := he
  obtain ⟨h1, h2, _⟩ := hze.cells hsol
  obtain ⟨k1, k2⟩ := hA.pushRow (w' := { w with heap := w.heap.push (.cells vs t (0, 0)) }) vs t (0, 0) rfl rfl rfl rfl (unfrozen_zero _) esz n false (List.replicate n ze) (by simp) (by omega)
    (fun i hi => by
      simp only [List.length_replicate] at hi
      simp only [List.getElem_replicate]
      exact ⟨zv, hze, by omega, h2, fun j hj => hrep i j hi hj⟩)
  refine ⟨.pointer (some ⟨w.heap.size, 0, none⟩), _, _, ?_, ?_, k1, k2⟩
  · simp [Instr.alloc, run_zeroValue' hi hz, newVar, newRow, Value.cells]
  · exact .ptr _ _ 0 0 _ _ (Ghost.push_self _ _ _) (by simpa using hn) hpos (by simp)

/-- 'make([]T, len, cap)' -/
def evMake (esz bytes : Nat) (z : AV) (A : Arena) : AV → AV → Option (AV × Arena)
  | .int _ l, .int _ c =>
    if 0 ≤ l ∧ l ≤ c ∧ c ≤ 9223372036854775807 ∧ bytes * c ≤ 281474976710656 ∧ z.solid = true ∧ (cellsOf z).length = esz ∧ 0 < esz then
      some (.sl A.length 0 l.toNat, A ++ [.row esz false (List.replicate l.toNat z)])
    else none
  | _, _ => none

theorem wrap_i64 {n : Int} (h0 : -9223372036854775808 ≤ n) (h1 : n ≤ 9223372036854775807) : IntKind.i64.wrap n = n := by
  simp only [IntKind.wrap, IntKind.bits, IntKind.signed, Bool.true_and, decide_eq_true_eq, ge_iff_le]
  split <;> omega

theorem evMake_sound {t e : TypeId} {i : TypeInfo} {z : Value} {v1 v2 : Value} {a1 a2 za r : AV} {A' : Arena} (ht : P.underlying t = some (.slice e)) (hi : P.info? e = some i) (hz : i.zero = some z) (hzs : z.cells.size = i.size) (hA : ARel w OK g A) (h : VRel w OK g z za)
    (h1 : VRel w OK g v1 a1) (h2 : VRel w OK g v2 a2) (he : evMake i.size i.bytes za A a1 a2 = some (r, A')) : Does P w OK g (Instr.makeSlice t v1 v2) r A' := by
  unfold evMake at he
  split at he
  · rename_i k1 l k2 c
    obtain rfl := h1.inv_int
    obtain rfl := h2.inv_int
    simp only [Option.ite_none_right_eq_some, Option.some.injEq, Prod.mk.injEq] at he
    obtain ⟨⟨hl, hlc, hc, hb, hsol, hlen, hpos⟩, rfl, rfl⟩ := he
    obtain ⟨hcs, hok, _⟩ := h.cells hsol
    let C : Array Value := (Array.range (c.toNat * i.size)).map (z.cells[· % z.cells.size]!)
    have hCs : C.size = c.toNat * i.size := by simp [C]
    obtain ⟨q1, q2⟩ := hA.pushRow (w' := { w with heap := w.heap.push (.cells C e (0, 0)) }) C e (0, 0) rfl rfl rfl rfl (unfrozen_zero _) i.size c.toNat false (List.replicate l.toNat za) (by simp; omega) (by omega)
      (fun k hk => by
        simp only [List.length_replicate] at hk
        simp only [List.getElem_replicate]
        refine ⟨z, h, hzs, hok, fun j hj => ?_⟩
        have hlt : k * i.size + j < c.toNat * i.size := by
          have : (k + 1) * i.size ≤ c.toNat * i.size := Nat.mul_le_mul_right _ (by omega)
          rw [Nat.add_mul] at this; omega
        have hmod : (k * i.size + j) % z.cells.size = j := by rw [hzs, Nat.add_comm, Nat.add_mul_mod_self_right, Nat.mod_eq_of_lt hj]
        simp only [C]
        rw [Array.getElem?_map, Array.getElem?_eq_getElem (by simpa using hlt)]
        have hj' : j % i.size = j := Nat.mod_eq_of_lt hj
        simp [hj', hzs, hj])
    refine ⟨.slice (some ⟨w.heap.size, 0, none⟩) l.toNat c.toNat, _, _, ?_, ?_, q1, q2⟩
    · have e1 : IntKind.i64.wrap l = l := wrap_i64 (by omega) (by omega)
      have e2 : IntKind.i64.wrap c = c := wrap_i64 (by omega) (by omega)
      have e3 : ¬ (c < 0) := by omega
      have e4 : ¬ (281474976710656 < (i.bytes : Int) * c) := by omega
      have e5 : ¬ (l < 0) := by omega
      have e6 : ¬ (c < l) := by omega
      by_cases hz0 : c.toNat * i.size = 0
      · have hC : C = #[] := by simp [C, hz0]
        have hc0 : c.toNat = 0 := (Nat.mul_eq_zero.1 hz0).resolve_right (by omega)
        obtain rfl : c = 0 := by omega
        obtain rfl : l = 0 := by omega
        simp [Instr.makeSlice, run_underlying' ht, asInt, asIntOf, run_typeInfo' hi, e1, run_sizeOf' hi, newRow, hC]
        congr 2
        apply Array.ext <;> simp
      · have : ¬ (c.toNat = 0 ∨ i.size = 0) := fun h => hz0 (Nat.mul_eq_zero.2 h)
        simp [Instr.makeSlice, run_underlying' ht, asInt, asIntOf, run_typeInfo' hi, e1, e2, e3, e4, e5, e6, run_sizeOf' hi, run_zeroValue' hi hz, this, newRow, C]
        exact fun h => absurd h hz0
    · have : l.toNat = (List.replicate l.toNat za).length := by simp
      exact .sl _ _ 0 _ _ _ _ (Ghost.push_self _ _ _) (by omega) (by simp) (by simp) (fun _ => by simp)
  · cases he

/-! ### struct and array literals, slice literals -/

theorem foldl_set_get (vs : List Value) (off : Nat) : ∀ (k : Nat) (cells : Array Value) (p : Nat),
    ((vs.zipIdx k).foldl (fun cs x => cs.setIfInBounds (off + x.2) x.1) cells)[p]? = if off + k ≤ p ∧ p < off + k + vs.length ∧ p < cells.size then vs[p - off - k]? else cells[p]? := by
  induction vs with
  | nil => intro k cells p; simp; omega
  | cons v vs ih =>
    intro k cells p
    simp only [List.zipIdx_cons, List.foldl_cons, ih, Array.size_setIfInBounds, List.length_cons]
    by_cases h1 : off + (k + 1) ≤ p ∧ p < off + (k + 1) + vs.length ∧ p < cells.size
    · have h2 : off + k ≤ p ∧ p < off + k + (vs.length + 1) ∧ p < cells.size := by omega
      rw [if_pos h1, if_pos h2]
      have : p - off - k = (p - off - (k + 1)) + 1 := by omega
      rw [this, List.getElem?_cons_succ]
    · rw [if_neg h1]
      by_cases h2 : off + k = p ∧ p < cells.size
      · have h3 : off + k ≤ p ∧ p < off + k + (vs.length + 1) ∧ p < cells.size := by omega
        rw [if_pos h3]
        have : p - off - k = 0 := by omega
        rw [this, List.getElem?_cons_zero, h2.1, Array.getElem?_setIfInBounds_self_of_lt h2.2]
      · have h3 : ¬ (off + k ≤ p ∧ p < off + k + (vs.length + 1) ∧ p < cells.size) := by omega
        rw [if_neg h3]
        by_cases h4 : off + k = p
        · have h5 : ¬ p < cells.size := by omega
          rw [Array.getElem?_eq_none (by simp; omega), Array.getElem?_eq_none (by omega)]
        · rw [Array.getElem?_setIfInBounds_ne h4]

theorem fold_splice (v : Value) (off : Nat) (cells : Array Value) (h : off + v.cells.size ≤ cells.size) :
    v.cells.zipIdx.foldl (fun cs x => cs.setIfInBounds (off + x.2) x.1) cells = splice cells off v.cells.toList := by
  have e : v.cells.zipIdx.foldl (fun cs x => cs.setIfInBounds (off + x.2) x.1) cells = (v.cells.toList.zipIdx 0).foldl (fun cs x => cs.setIfInBounds (off + x.2) x.1) cells := by
    rw [← Array.foldl_toList]; simp
  rw [e]
  apply Array.ext_getElem?
  intro p
  rw [foldl_set_get]
  by_cases h1 : off + 0 ≤ p ∧ p < off + 0 + v.cells.toList.length ∧ p < cells.size
  · rw [if_pos h1]
    have := splice_in cells off v.cells.toList (by simpa using h) (p - off) (by simp at h1 ⊢; omega)
    rw [show off + (p - off) = p by omega] at this
    rw [this]; simp
  · rw [if_neg h1]
    by_cases h2 : p < cells.size
    · rw [splice_out cells off v.cells.toList (by simpa using h) p (by simp at h1 ⊢; omega)]
    · rw [Array.getElem?_eq_none (by omega), Array.getElem?_eq_none (by rw [splice_size _ _ _ (by simpa using h)]; omega)]

/-- cells and trees -/
def CellsRel (w : World) (OK : Nat → Prop) (g : Ghost) (cells : Array Value) (cs : List AV) : Prop :=
  cells.size = cs.length ∧ ∀ i (h : i < cs.length), ∃ x, cells[i]? = some x ∧ x.oneCell' = true ∧ VRel w OK g x cs[i]

theorem CellsRel.agg {cells : Array Value} {cs : List AV} (h : CellsRel w OK g cells cs) : VRel w OK g (.agg cells) (.agg cs) := by
  refine .agg _ _ _ h.1 (fun i => (cells[i]?).getD undef) (fun i hi => ?_) (fun i hi => ?_)
  · obtain ⟨x, h1, h2, h3⟩ := h.2 i hi
    simp only [h1, Option.getD_some]; exact ⟨trivial, h2⟩
  · obtain ⟨x, h1, h2, h3⟩ := h.2 i hi
    simp only [h1, Option.getD_some]; exact h3

theorem VRel.cellsRel {v : Value} {a : AV} (h : VRel w OK g v a) (hs : a.solid = true) : CellsRel w OK g v.cells (cellsOf a) := by
  obtain ⟨h1, _, h3⟩ := h.cells hs
  exact ⟨h1, h3⟩

theorem CellsRel.splice {cells : Array Value} {cs : List AV} (h : CellsRel w OK g cells cs) {v : Value} {a : AV} (hv : VRel w OK g v a) (hs : a.solid = true) (off : Nat) (hl : off + (cellsOf a).length ≤ cs.length) :
    CellsRel w OK g (splice cells off v.cells.toList) (cs.take off ++ cellsOf a ++ cs.drop (off + (cellsOf a).length)) := by
  obtain ⟨h1, _, h3⟩ := hv.cells hs
  have hlen : v.cells.toList.length = (cellsOf a).length := by simpa using h1
  have hle : off + v.cells.toList.length ≤ cells.size := by rw [hlen, h.1]; exact hl
  refine ⟨by rw [splice_size _ _ _ hle, h.1]; simp; omega, fun i hi => ?_⟩
  have hi' : i < cs.length := by simp at hi; omega
  by_cases c1 : i < off
  · rw [splice_out _ _ _ hle i (.inl c1)]
    have : (cs.take off ++ cellsOf a ++ cs.drop (off + (cellsOf a).length))[i] = cs[i] := by
      rw [List.getElem_append_left (by simp; omega), List.getElem_append_left (by simp; omega)]; simp
    rw [this]; exact h.2 i hi'
  · by_cases c2 : i < off + (cellsOf a).length
    · have e := splice_in cells off v.cells.toList hle (i - off) (by omega)
      rw [show off + (i - off) = i by omega] at e
      have : (cs.take off ++ cellsOf a ++ cs.drop (off + (cellsOf a).length))[i] = (cellsOf a)[i - off] := by
        rw [List.getElem_append_left (by simp; omega), List.getElem_append_right (by simp; omega)]
        congr 1; simp; omega
      rw [e, this]
      obtain ⟨x, a1, a2, a3⟩ := h3 (i - off) (by omega)
      exact ⟨x, by simpa using a1, a2, a3⟩
    · rw [splice_out _ _ _ hle i (.inr (by omega))]
      have : (cs.take off ++ cellsOf a ++ cs.drop (off + (cellsOf a).length))[i] = cs[i] := by
        rw [List.getElem_append_right (by simp; omega), List.getElem_drop]
        congr 1; simp; omega
      rw [this]; exact h.2 i hi'

def fillA (cs : List AV) : List (Nat × Nat × AV) → Option (List AV)
  | [] => some cs
  | (off, size, a) :: rest => if a.solid = true ∧ (cellsOf a).length = size ∧ off + size ≤ cs.length then fillA (cs.take off ++ cellsOf a ++ cs.drop (off + size)) rest else none

/-- what is filled in, beside what the model fills in -/
def PartsRel (w : World) (OK : Nat → Prop) (g : Ghost) (place : Nat → Option (Nat × Nat)) : List (Nat × Value) → List (Nat × Nat × AV) → Prop
  | [], [] => True
  | (i, v) :: vs, (off, size, a) :: as => place i = some (off, size) ∧ VRel w OK g v a ∧ PartsRel w OK g place vs as
  | _, _ => False

theorem fillA_sound {place : Nat → Option (Nat × Nat)} : ∀ (vs : List (Nat × Value)) (as : List (Nat × Nat × AV)) (cells : Array Value) (cs r : List AV), PartsRel w OK g place vs as → CellsRel w OK g cells cs → fillA cs as = some r →
    ∃ out, Instr.fill place cells vs = some out ∧ CellsRel w OK g out r
  | [], [], cells, cs, r, _, h, he => by injection he with he; subst he; exact ⟨cells, rfl, h⟩
  | [], _ :: _, _, _, _, hp, _, _ => hp.elim
  | _ :: _, [], _, _, _, hp, _, _ => hp.elim
  | (i, v) :: vs, (off, size, a) :: as, cells, cs, r, hp, h, he => by
    obtain ⟨hpl, hv, hp⟩ := hp
    unfold fillA at he
    simp only [Option.ite_none_right_eq_some] at he
    obtain ⟨⟨hsol, hlen, hle⟩, he⟩ := he
    have hsz : v.cells.size = size := by rw [(hv.cells hsol).1, hlen]
    have hle2 : off + v.cells.size ≤ cells.size := by rw [hsz, h.1]; exact hle
    have hs := h.splice hv hsol off (by omega)
    rw [hlen] at hs
    obtain ⟨out, h1, h2⟩ := fillA_sound vs as _ _ r hp hs he
    refine ⟨out, ?_, h2⟩
    have c1 : (decide (v.cells.size ≠ size) || decide (off + v.cells.size > cells.size)) = false := by simp; omega
    unfold Instr.fill
    rw [hpl]
    simp only [c1, Bool.false_eq_true, if_false]
    rw [fold_splice v off cells hle2]
    exact h1

theorem evBuildStruct_sound {t : TypeId} {i : TypeInfo} {z : Value} {zs : List AV} {fields : Array Field} {parts : Array (Nat × Value)} {as : List (Nat × Nat × AV)} {r : List AV} (ht : P.underlying t = some (.struct fields)) (hi : P.info? t = some i) (hz : i.zero = some z)
    (hzs : CellsRel w OK g z.cells zs) (places : Array (Nat × Nat)) (hpl : ∀ w : World, (fields.mapM fun f => do pure (f.offset, ← sizeOf f.type) : Sem (Array (Nat × Nat))).run P w = .ok places w) (hp : PartsRel w OK g (places[·]?) parts.toList as) (he : fillA zs as = some r) :
    Yields' P w OK g (Instr.build t parts) (.agg r) := by
  obtain ⟨out, h1, h2⟩ := fillA_sound _ _ _ _ _ hp hzs he
  refine ⟨.agg out, ?_, h2.agg⟩
  simp only [Instr.build, Sem.run_bind, run_zeroValue' hi hz, Result.andThen_ok, run_underlying' ht, hpl, h1, Sem.run_pure]

theorem evBuildArr_sound {t elem : TypeId} {n : Nat} {i ie : TypeInfo} {z : Value} {zs : List AV} {parts : Array (Nat × Value)} {as : List (Nat × Nat × AV)} {r : List AV} (ht : P.underlying t = some (.array n elem)) (hi : P.info? t = some i) (hz : i.zero = some z) (hie : P.info? elem = some ie)
    (hzs : CellsRel w OK g z.cells zs) (hp : PartsRel w OK g (fun i => some (i * ie.size, ie.size)) parts.toList as) (he : fillA zs as = some r) :
    Yields' P w OK g (Instr.build t parts) (.agg r) := by
  obtain ⟨out, h1, h2⟩ := fillA_sound _ _ _ _ _ hp hzs he
  refine ⟨.agg out, ?_, h2.agg⟩
  simp only [Instr.build, Sem.run_bind, run_zeroValue' hi hz, Result.andThen_ok, run_underlying' ht, run_sizeOf' hie, h1, Sem.run_pure]

/-- a slice literal whose elements are all given -/
theorem fill_seq {size : Nat} : ∀ (vs : List Value) (k : Nat) (cells : Array Value), (∀ v ∈ vs, v.cells.size = size) → (k + vs.length) * size ≤ cells.size →
    ∃ out, Instr.fill (fun i => some (i * size, size)) cells ((vs.zipIdx k).map fun x => (x.2, x.1)) = some out ∧ out.size = cells.size ∧
      (∀ p, p < k * size → out[p]? = cells[p]?) ∧ ∀ i (h : i < vs.length) j, j < size → out[(k + i) * size + j]? = (vs[i]).cells[j]?
  | [], k, cells, _, _ => ⟨cells, rfl, rfl, fun _ _ => rfl, fun i h => by simp at h⟩
  | v :: vs, k, cells, hsz, hl => by
    have h0 : v.cells.size = size := hsz v (by simp)
    have hk : (k + (vs.length + 1)) * size = k * size + size + vs.length * size := by rw [Nat.add_mul, Nat.add_mul, Nat.one_mul]; omega
    have hle : k * size + v.cells.size ≤ cells.size := by
      simp only [List.length_cons] at hl; rw [hk] at hl; omega
    obtain ⟨out, h1, h2, h3, h4⟩ := fill_seq vs (k + 1) (splice cells (k * size) v.cells.toList) (fun x hx => hsz x (by simp [hx])) (by
      rw [splice_size _ _ _ (by simpa using hle)]
      simp only [List.length_cons] at hl
      rw [show k + 1 + vs.length = k + (vs.length + 1) by omega]; exact hl)
    refine ⟨out, ?_, by rw [h2, splice_size _ _ _ (by simpa using hle)], fun p hp => ?_, fun i hi j hj => ?_⟩
    · have c1 : (decide (v.cells.size ≠ size) || decide (k * size + v.cells.size > cells.size)) = false := by simp; omega
      rw [List.zipIdx_cons, List.map_cons]
      unfold Instr.fill
      simp only [c1, Bool.false_eq_true, if_false]
      rw [fold_splice v (k * size) cells hle]
      exact h1
    · rw [h3 p (by rw [Nat.add_mul]; omega), splice_out _ _ _ (by simpa using hle) p (.inl hp)]
    · cases i with
      | zero =>
        rw [Nat.add_zero, h3 _ (by rw [Nat.add_mul]; omega), splice_in _ _ _ (by simpa using hle) j (by simp; omega)]
        simp
      | succ i =>
        have := h4 i (by simpa using hi) j hj
        rw [show k + 1 + i = k + (i + 1) by omega] at this
        simpa using this

def ListRel (w : World) (OK : Nat → Prop) (g : Ghost) : List Value → List AV → Prop
  | [], [] => True
  | v :: vs, a :: as => VRel w OK g v a ∧ ListRel w OK g vs as
  | _, _ => False
theorem ListRel.length {vs : List Value} {as : List AV} (h : ListRel w OK g vs as) : vs.length = as.length := by
  induction vs generalizing as with
  | nil => cases as with
    | nil => rfl
    | cons => exact h.elim
  | cons v vs ih => cases as with
    | nil => exact h.elim
    | cons a as => simp [ih h.2]
theorem ListRel.get {vs : List Value} {as : List AV} (h : ListRel w OK g vs as) : ∀ i (h1 : i < vs.length) (h2 : i < as.length), VRel w OK g vs[i] as[i] := by
  induction vs generalizing as with
  | nil => intro i h1; simp at h1
  | cons v vs ih => cases as with
    | nil => exact h.elim
    | cons a as =>
      intro i h1 h2
      cases i with
      | zero => exact h.1
      | succ i => exact ih h.2 i (by simpa using h1) (by simpa using h2)
theorem ListRel.of_get {vs : List Value} {as : List AV} (hl : vs.length = as.length) (h : ∀ i (h1 : i < vs.length) (h2 : i < as.length), VRel w OK g vs[i] as[i]) : ListRel w OK g vs as := by
  induction vs generalizing as with
  | nil => cases as with
    | nil => trivial
    | cons => simp at hl
  | cons v vs ih => cases as with
    | nil => simp at hl
    | cons a as => exact ⟨h 0 (by simp) (by simp), ih (by simpa using hl) (fun i h1 h2 => h (i + 1) (by simp; omega) (by simp; omega))⟩
theorem ListRel.mono {w' : World} {OK' : Nat → Prop} {g' : Ghost} {vs : List Value} {as : List AV} (h : ListRel w OK g vs as) (hm : ∀ v a, VRel w OK g v a → VRel w' OK' g' v a) : ListRel w' OK' g' vs as := by
  induction vs generalizing as with
  | nil => cases as with
    | nil => trivial
    | cons => exact h.elim
  | cons v vs ih => cases as with
    | nil => exact h.elim
    | cons a as => exact ⟨hm _ _ h.1, ih h.2⟩

def evBuildSlice (esz : Nat) (as : List AV) (A : Arena) : Option (AV × Arena) :=
  if 0 < esz ∧ as.length * esz ≤ 16777216 ∧ as.all (fun a => a.solid && (cellsOf a).length == esz) = true then some (.sl A.length 0 as.length, A ++ [.row esz false as]) else none

theorem evBuildSlice_sound {t e : TypeId} {i : TypeInfo} {z : Value} {vs : List Value} {as : List AV} {r : AV} {A' : Arena} (ht : P.underlying t = some (.slice e)) (hi : P.info? e = some i) (hz : i.zero = some z) (hA : ARel w OK g A) (h : ListRel w OK g vs as)
    (he : evBuildSlice i.size as A = some (r, A')) : Does P w OK g (Instr.buildSlice t vs.length ((vs.zipIdx.map fun x => (x.2, x.1)).toArray)) r A' := by
  unfold evBuildSlice at he
  simp only [Option.ite_none_right_eq_some, Option.some.injEq, Prod.mk.injEq] at he
  obtain ⟨⟨hpos, hbig, hall⟩, rfl, rfl⟩ := he
  have hlen := h.length
  have hsol : ∀ k (hk : k < as.length), as[k].solid = true ∧ (cellsOf as[k]).length = i.size := fun k hk => by
    have := List.all_eq_true.1 hall _ (List.getElem_mem hk)
    simpa using this
  have hvs : ∀ v ∈ vs, v.cells.size = i.size := fun v hv => by
    obtain ⟨k, hk, rfl⟩ := List.getElem_of_mem hv
    have hr := h.get k hk (by omega)
    rw [(hr.cells (hsol k (by omega)).1).1, (hsol k (by omega)).2]
  let zs : Array Value := if vs.length * i.size = 0 then #[] else z.cells
  let C0 : Array Value := (Array.range (vs.length * i.size)).map (zs[· % zs.size]!)
  obtain ⟨out, h1, h2, _, h4⟩ := fill_seq (size := i.size) vs 0 C0 hvs (by simp [C0])
  obtain ⟨q1, q2⟩ := hA.pushRow (w' := { w with heap := w.heap.push (.cells out e (0, 0)) }) out e (0, 0) rfl rfl rfl rfl (unfrozen_zero _) i.size as.length false as (Nat.le_refl _) (by rw [h2]; simp [C0, hlen])
    (fun k hk => by
      have hr := h.get k (by omega) hk
      have hc := hr.cells (hsol k hk).1
      exact ⟨vs[k]'(by omega), hr, hvs _ (List.getElem_mem _), hc.2.1, fun j hj => by have := h4 k (by omega) j hj; simpa using this⟩)
  refine ⟨.slice (some ⟨w.heap.size, 0, none⟩) vs.length vs.length, _, _, ?_, ?_, q1, q2⟩
  · have c1 : ¬ (16777216 < vs.length * i.size) := by rw [hlen]; omega
    have c2 : (vs.zipIdx.map fun x => (x.2, x.1)) = (vs.zipIdx 0).map fun x => (x.2, x.1) := rfl
    rw [← c2] at h1
    unfold Instr.buildSlice
    simp only [Sem.run_bind, run_underlying' ht, Result.andThen_ok, run_sizeOf' hi, gt_iff_lt, show ((2 : Nat) ^ 24) = 16777216 from rfl, c1, if_false]
    by_cases h0 : vs.length * i.size = 0
    · have hz0 : zs = #[] := by simp [zs, h0]
      simp only [h0, if_true, Sem.run_pure, Sem.run_bind, Result.andThen_ok]
      simp only [C0, hz0, h0] at h1
      rw [h1]
      simp [newRow]
    · have hz0 : zs = z.cells := by simp only [zs, if_neg h0]
      simp only [h0, if_false, Sem.run_bind, run_zeroValue' hi hz, Result.andThen_ok, Sem.run_pure]
      simp only [C0, hz0] at h1
      rw [h1]
      simp [newRow]
  · rw [hlen]
    exact .sl _ _ 0 _ _ _ _ (Ghost.push_self _ _ _) (Nat.le_refl _) (by simp) (by simp) (fun _ => by simp)
end
end Go.Proofs.YtnpmfpcppkdniaaDoor
