/-
  append, copy, strings and bytes. Program-independent.
-/
import Derived.Test.YtnpmfpcppkdniaaDoorEv7
import Derived.Laws.Append
import Derived.Laws.AppendOwn
namespace Go.Proofs.YtnpmfpcppkdniaaDoor
open Go
section
variable {P : Program} {w : World} {OK : Nat → Prop} {g : Ghost} {A : Arena}

/-- n elements of 'size' cells each, as cells and as trees -/
def ElemsRel (w : World) (OK : Nat → Prop) (g : Ghost) (size : Nat) (cells : Array Value) (xs : List AV) : Prop :=
  cells.size = xs.length * size ∧ ∀ i (h : i < xs.length), ElemAt w OK g cells (i * size) size xs[i]

theorem ElemsRel.one {size : Nat} {cells : Array Value} {xs : List AV} (h : ElemsRel w OK g size cells xs) (hs : 0 < size) : ∀ u ∈ cells.toList, u.oneCell' = true := by
  intro u hu
  obtain ⟨k, hk, rfl⟩ := List.getElem_of_mem hu
  simp only [Array.length_toList] at hk
  have hk' : k < xs.length * size := by rw [← h.1]; exact hk
  have h1 : k / size < xs.length := (Nat.div_lt_iff_lt_mul hs).2 hk'
  obtain ⟨v, _, hv, hok, hc⟩ := h.2 (k / size) h1
  have h2 := hc (k % size) (Nat.mod_lt _ hs)
  rw [Nat.mul_comm, Nat.div_add_mod, Array.getElem?_eq_getElem hk] at h2
  simp only [Array.getElem_toList]
  exact hok _ (by rw [Array.mem_toList_iff]; exact Array.mem_of_getElem? h2.symm)

/-- what a slice or a string holds, as elements -/
def srcElems (esz : Nat) (A : Arena) : AV → Option (List AV)
  | .fs s es => if s = esz then some es else none
  | .sl id off len => match A[id]? with
    | some (.row s _ es) => if s = esz then some ((es.drop off).take len) else none
    | _ => none
  | .nilS => some []
  | .str l => if esz = 1 then some (l.map fun b => .int .u8 b.toNat) else none
  | _ => none

theorem lenOf_sound {esz : Nat} {v : Value} {a : AV} {xs : List AV} (hA : ARel w OK g A) (h : VRel w OK g v a) (he : srcElems esz A a = some xs) (d : Nat) :
    (Builtin.lenOf v).run P { w with drawn := d } = .ok xs.length { w with drawn := d } := by
  unfold srcElems at he
  split at he
  · simp only [Option.ite_none_right_eq_some, Option.some.injEq] at he
    obtain ⟨rfl, rfl⟩ := he
    obtain ⟨b, o, cap, T, c, fz, vals, rfl, _⟩ := h.inv_fs
    rfl
  · rename_i id off len
    split at he
    · rename_i s gr es hid
      simp only [Option.ite_none_right_eq_some, Option.some.injEq] at he
      obtain ⟨rfl, rfl⟩ := he
      obtain ⟨inc, cap, ao, hinc, rfl, hl, hn, hcap, ha⟩ := h.inv_sl
      obtain ⟨hlt', hrow⟩ := List.getElem?_eq_some_iff.1 hid
      have hent := hA.ent id hlt'
      rw [hrow] at hent
      obtain ⟨_, hne, _⟩ := hent.2 inc hinc
      have : ((es.drop off).take len).length = len := by simp; omega
      rw [this]; rfl
    · cases he
  · injection he with he; subst he
    obtain ⟨p0, rfl⟩ := h.inv_nilS
    rfl
  · simp only [Option.ite_none_right_eq_some, Option.some.injEq] at he
    obtain ⟨rfl, rfl⟩ := he
    obtain ⟨s, rfl, hs⟩ := h.inv_str
    have : (s.size : Nat) = s.data.toList.length := by rw [Array.length_toList]; rfl
    simp [Builtin.lenOf, this, hs]
  · cases he

theorem ElemsRel.drawn {size : Nat} {cells : Array Value} {xs : List AV} {d : Nat} (h : ElemsRel { w with drawn := d } OK g size cells xs) : ElemsRel w OK g size cells xs :=
  ⟨h.1, fun i hi => ElemAt.mono (w' := w) (h.2 i hi) (fun _ h => h) (fun _ _ => rfl) g.le_refl⟩

theorem srcElems_sound {esz : Nat} {v : Value} {a : AV} {xs : List AV} (hA : ARel w OK g A) (h : VRel w OK g v a) (he : srcElems esz A a = some xs) (n : Nat) (hnl : n ≤ xs.length) :
    ∃ cells, (∀ d, (Builtin.firstCells esz n v).run P { w with drawn := d } = .ok cells { w with drawn := d }) ∧ ElemsRel w OK g esz cells (xs.take n) := by
  have hloads : ∀ (b ao len cap T : Nat) (c : Array Value) (fz : Nat × Nat), w.heap[b]? = some (.cells c T fz) → ao + n * esz ≤ c.size →
      ∀ d, (Builtin.firstCells esz n (.slice (some ⟨b, ao, none⟩) len cap)).run P { w with drawn := d } = .ok (c.extract ao (ao + n * esz)) { w with drawn := d } := by
    intro b ao len cap T c fz hh hle d
    have := run_loadCells (P := P) { w with drawn := d } ⟨b, ao, none⟩ (n * esz) (fun j => c.getD (ao + j) undef) (fun j hj => by
      rw [addr_add, cell_at (w := { w with drawn := d }) hh, Array.getElem?_eq_getElem (by omega)]
      simp [Array.getD, show ao + j < c.size by omega])
    simp only [Builtin.firstCells, this]
    congr 1
    apply Array.ext
    · simp; omega
    · intro j h1 h2
      simp at h1
      simp [Array.getD, show ao + j < c.size by omega]
  have hex : ∀ (c : Array Value) (p k j : Nat), p + n * esz ≤ c.size → k < n → j < esz → (c.extract p (p + n * esz))[k * esz + j]? = c[p + k * esz + j]? := by
    intro c p k j hle hk hj
    have hlt : k * esz + j < n * esz := by
      have : (k + 1) * esz ≤ n * esz := Nat.mul_le_mul_right _ hk
      rw [Nat.add_mul] at this; omega
    rw [Array.getElem?_extract, if_pos (by omega), Nat.add_assoc]
  unfold srcElems at he
  split at he
  · rename_i s es
    simp only [Option.ite_none_right_eq_some, Option.some.injEq] at he
    obtain ⟨rfl, rfl⟩ := he
    obtain ⟨b, o, cap, T, c, fz, vals, rfl, hb, hh, hcap, hv, hs, hc⟩ := h.inv_fs
    by_cases h0 : n = 0 ∨ s = 0
    · refine ⟨#[], fun d => ?_, ?_⟩
      · have : n * s = 0 := by rcases h0 with h0 | h0 <;> simp [h0]
        simp [Builtin.firstCells, this, loadCells, loadCellsFrom]
      · rcases h0 with h0 | h0
        · subst h0; exact ⟨by simp, fun i hi => by simp at hi⟩
        · subst h0
          refine ⟨by simp, fun i hi => ?_⟩
          simp at hi
          exact ⟨vals i, by simpa using (hv i (by omega)).none_to, by simpa using (hs i (by omega)).1, (hs i (by omega)).2, fun j hj => by omega⟩
    · have hle : o + n * s ≤ c.size := by
        have h1 : n - 1 < es.length := by omega
        have h2 := hc (n - 1) h1 (s - 1) (by omega)
        have h3 : (vals (n - 1)).cells[s - 1]? = some ((vals (n - 1)).cells[s - 1]'(by rw [(hs _ h1).1]; omega)) := by simp
        rw [h3] at h2
        have h4 := (Array.getElem?_eq_some_iff.1 h2).1
        have : (n - 1) * s + s = n * s := by rw [Nat.sub_mul, Nat.one_mul]; have := Nat.le_mul_of_pos_left s (show 0 < n by omega); omega
        omega
      refine ⟨_, hloads b o _ cap T c fz hh hle, by rw [Array.size_extract, List.length_take, Nat.min_eq_left hnl, Nat.min_eq_left hle]; omega, fun i hi => ?_⟩
      simp at hi
      refine ⟨vals i, by simpa using (hv i (by omega)).none_to, (hs i (by omega)).1, (hs i (by omega)).2, fun j hj => ?_⟩
      rw [hex c o i j hle (by omega) hj]; exact hc i (by omega) j hj
  · rename_i id off len
    split at he
    · rename_i s gr es hid
      simp only [Option.ite_none_right_eq_some, Option.some.injEq] at he
      obtain ⟨rfl, rfl⟩ := he
      obtain ⟨inc, cap, ao, hinc, rfl, hl, hn, hcap, ha⟩ := h.inv_sl
      obtain ⟨hlt', hrow⟩ := List.getElem?_eq_some_iff.1 hid
      have hent := hA.ent id hlt'
      rw [hrow] at hent
      obtain ⟨hesz, hne, hnc, c, T, fz, hh, hu, hcs, hel⟩ := hent.2 inc hinc
      have hlen : ((es.drop off).take len).length = len := by simp; omega
      rw [hlen] at hnl
      by_cases h0 : n = 0
      · subst h0
        exact ⟨#[], fun d => by simp [Builtin.firstCells, loadCells, loadCellsFrom], by simp, fun i hi => by simp at hi⟩
      · have hao := ha (by omega)
        have hle : ao + n * s ≤ c.size := by
          have : (off + n) * s ≤ inc.cap * s := Nat.mul_le_mul_right _ (by omega)
          rw [Nat.add_mul] at this
          rw [hao, hesz]; omega
        refine ⟨_, hloads _ ao _ cap T c fz hh hle, by rw [Array.size_extract, List.length_take, hlen, Nat.min_eq_left hnl, Nat.min_eq_left hle]; omega, fun i hi => ?_⟩
        simp at hi
        obtain ⟨u, u1, u2, u3, u4⟩ := hel (off + i) (by omega) (by omega)
        refine ⟨u, by simpa using u1, u2, u3, fun j hj => ?_⟩
        rw [hex c ao i j hle (by omega) hj, ← u4 j hj, hao, hesz]
        congr 1; rw [Nat.add_mul]; omega
    · cases he
  · injection he with he; subst he
    obtain ⟨p0, rfl⟩ := h.inv_nilS
    obtain rfl : n = 0 := by simpa using hnl
    exact ⟨#[], fun d => by cases p0 <;> simp [Builtin.firstCells, loadCells, loadCellsFrom], by simp, fun i hi => by simp at hi⟩
  · rename_i l
    simp only [Option.ite_none_right_eq_some, Option.some.injEq] at he
    obtain ⟨rfl, rfl⟩ := he
    obtain ⟨s, rfl, hs⟩ := h.inv_str
    refine ⟨(s.extract 0 n).data.map fun b => .int .u8 b.toNat, fun d => by simp [Builtin.firstCells], ?_, fun i hi => ?_⟩
    · have := congrArg List.length (Lib.extract_data s 0 n)
      simp only [hs, Array.length_toList] at this
      simp only [Array.size_map, this]; simp
    · simp at hi
      have hle : n ≤ l.length := by simpa using hnl
      have e := Lib.extract_data s 0 n
      rw [hs] at e
      have e2 : (s.extract 0 n).data[i]? = some (l[i]'(by omega)) := by
        rw [← Array.getElem?_toList, e]; simp [List.getElem?_take, show i < n by omega, show i < l.length by omega]
      refine ⟨.int .u8 ((l[i]'(by omega)).toNat), by simpa using VRel.int _ _ _, rfl, by simp [okCells, Value.cells, Value.oneCell'], fun j hj => ?_⟩
      obtain rfl : j = 0 := by omega
      simp only [Nat.mul_one, Nat.add_zero, Array.getElem?_map, e2]
      rfl
  · cases he
end
end Go.Proofs.YtnpmfpcppkdniaaDoor
