/-
  Arguments ls trees of memory that nobody writes; the contract of a law that returns true. Program-independent.
-/
import Derived.Test.YtnpmfpcppkdniaaDoorEv22
import Derived.WideKeyArgs
import Derived.OpenShut
import Derived.ChangeOld
namespace Go.Proofs.YtnpmfpcppkdniaaDoor
open Go
open Go.ChangeShapes Go.WideShapes

def aggT (P : Program) (t : TypeId) : Bool := match P.underlying t with
  | some (.struct _) | some (.array _ _) => true
  | _ => false
/-- a value of a type, of its cells -/
def wholeA (P : Program) (t : TypeId) (xs : List AV) : AV := if aggT P t then .agg xs else xs.headD .undef

/-- fields that lie one behind the other -/
def contigB (P : Program) : Nat → List Field → Nat → Bool
  | k, [], n => k == n
  | k, f :: r, n => f.offset == k && contigB P (k + P.cellsOf f.type) r n

/-- types from which nothing but integers, strings, booleans and slices is met -/
def plainT (P : Program) : Nat → TypeId → Bool
  | 0, _ => false
  | n + 1, t => match P.underlying t with
    | some .bool | some (.int _) | some .string => P.cellsOf t == 1
    | some (.slice e) => P.cellsOf t == 1 && Nat.blt 0 (P.cellsOf e) && plainT P n e
    | some (.struct fs) => fs.toList.all (fun f => plainT P n f.type) && contigB P 0 fs.toList (P.cellsOf t)
    | some (.array m e) => P.cellsOf t == m * P.cellsOf e && Nat.blt 0 (P.cellsOf e) && plainT P n e
    | _ => false

def TCs (P : Program) (T : TypeId → List AV → Prop) : List Field → List AV → Prop
  | [], ls => ls = []
  | f :: r, ls => ∃ a b, ls = a ++ b ∧ T f.type a ∧ a.length = P.cellsOf f.type ∧ TCs P T r b
def TCa (T : List AV → Prop) (size : Nat) : Nat → List AV → Prop
  | 0, ls => ls = []
  | m + 1, ls => ∃ a b, ls = a ++ b ∧ T a ∧ a.length = size ∧ TCa T size m b
/-- the cells of a value of a type -/
def TC (P : Program) : Nat → TypeId → List AV → Prop
  | 0, _, _ => False
  | n + 1, t, ls => match P.underlying t with
    | some .bool => ∃ b, ls = [.bool b]
    | some (.int k) => ∃ z, ls = [.int k z] ∧ (k.min ≤ z ∧ z ≤ k.max)
    | some .string => ∃ s, ls = [.str s] ∧ s.length ≤ 9223372036854775807
    | some (.slice e) => ls = [.nilS] ∨ ∃ es : List AV, ls = [.fs (P.cellsOf e) es] ∧ es.length ≤ 9223372036854775807 ∧ ∀ x ∈ es, ∃ xs, TC P n e xs ∧ xs.length = P.cellsOf e ∧ x = wholeA P e xs
    | some (.struct fs) => TCs P (TC P n) fs.toList ls
    | some (.array m e) => TCa (TC P n e) (P.cellsOf e) m ls
    | _ => False
/-- a value of a type -/
def TA (P : Program) (n : Nat) (t : TypeId) (a : AV) : Prop := ∃ xs, TC P n t xs ∧ xs.length = P.cellsOf t ∧ a = wholeA P t xs

section
variable {H : Type} {enc : TypeId × Value → H} {P : Program} {w : World} {held : Bool}

theorem cellQ {a : Addr} {n : Nat} {cs : List Value} (h : w.cells? 0 a n = some cs) : cs.length = n ∧ ∀ j, j < n → ∃ v, cs[j]? = some v ∧ w.cell? (a.add j) = some v := by
  unfold World.cells? at h
  rw [if_pos (Nat.zero_le _)] at h
  have hl : cs.length = n := by simpa using mapM_some_length h
  refine ⟨hl, fun j hj => ?_⟩
  have := mapM_some_get h j j (by simp [hj])
  rw [this]
  exact ⟨cs[j], by simp [hl, hj], by simp [hl, hj]⟩

theorem addr_add_add (a : Addr) (i j : Nat) (h : a.spot = none) : (a.add i).add j = ⟨a.block, a.off + i + j, none⟩ := by
  obtain ⟨b, o, s⟩ := a
  simp only at h
  subst h
  rw [addr_add, addr_add]

theorem headD_get {α : Type} (l : List α) (d : α) (h : 0 < l.length) : l.headD d = l[0] := by
  cases l with
  | nil => simp at h
  | cons y r => rfl
theorem scalar_cells {n : Nat} {t : TypeId} (hp : plainT P n t = true) (ha : aggT P t = false) : P.cellsOf t = 1 := by
  cases n with
  | zero => cases hp
  | succ n =>
    unfold plainT at hp
    unfold aggT at ha
    split at hp
    · exact beq_iff_eq.1 hp
    · exact beq_iff_eq.1 hp
    · exact beq_iff_eq.1 hp
    · simp only [Bool.and_eq_true, beq_iff_eq] at hp; exact hp.1.1
    · rename_i hu; rw [hu] at ha; cases ha
    · rename_i hu; rw [hu] at ha; cases ha
    · cases hp

/-- what is read ls data is a tree -/
theorem trod_tree : ∀ (n fuel : Nat) (t : TypeId) (cs : List Value) (x : DataW H × List MemPlace), plainT P n t = true → DataW.trod enc P w 0 (fun _ => true) held fuel t cs = some x →
    ∃ ls : List AV, ls.length = cs.length ∧ cs.length = P.cellsOf t ∧ TC P n t ls ∧ ∀ i (h : i < ls.length), ∃ v, cs[i]? = some v ∧ v.oneCell' = true ∧ VRel w (fun b => b < w.heap.size) Ghost.none v ls[i] := by
  intro n
  induction n with
  | zero => intro fuel t cs x h; cases h
  | succ n ih =>
    intro fuel t cs x hp h
    unfold plainT at hp
    split at hp
    · -- bool
      rename_i hu
      obtain ⟨b, rfl, _⟩ := DataW.trod_bool hu h
      refine ⟨[.bool b], rfl, by simpa using (beq_iff_eq.1 hp).symm, by simp only [TC, hu]; exact ⟨b, rfl⟩, fun i hi => ?_⟩
      obtain rfl : i = 0 := by simpa using hi
      exact ⟨_, rfl, rfl, .bool _ _⟩
    · rename_i k hu
      obtain ⟨z, rfl, _, hw⟩ := DataW.trod_int hu h
      refine ⟨[.int k z], rfl, by simpa using (beq_iff_eq.1 hp).symm, ?_, fun i hi => ?_⟩
      · simp only [TC, hu]
        simp only [Lit.wf, Bool.and_eq_true, decide_eq_true_eq] at hw
        exact ⟨z, rfl, hw⟩
      · obtain rfl : i = 0 := by simpa using hi
        exact ⟨_, rfl, rfl, .int _ _ _⟩
    · rename_i hu
      obtain ⟨s, rfl, _, hw⟩ := DataW.trod_string hu h
      refine ⟨[.str s.data.toList], rfl, by simpa using (beq_iff_eq.1 hp).symm, ?_, fun i hi => ?_⟩
      · simp only [TC, hu]
        refine ⟨_, rfl, ?_⟩
        have h1 : s.data.toList.length = s.size := Array.length_toList
        have h2 : maxLen = 9223372036854775807 := by decide
        omega
      · obtain rfl : i = 0 := by simpa using hi
        exact ⟨_, rfl, rfl, .str _ _ _ rfl⟩
    · -- slice
      rename_i e hu
      simp only [Bool.and_eq_true, beq_iff_eq] at hp
      obtain ⟨⟨hc1, hpos⟩, hpe⟩ := hp
      have hpos : 0 < P.cellsOf e := by simpa [Nat.blt_eq] using hpos
      have fin : ∀ (v : Value) (a : AV), v.oneCell' = true → VRel w (fun b => b < w.heap.size) Ghost.none v a → TC P (n + 1) t [a] →
          ∃ ls : List AV, ls.length = [v].length ∧ [v].length = P.cellsOf t ∧ TC P (n + 1) t ls ∧ ∀ i (h : i < ls.length), ∃ v', [v][i]? = some v' ∧ v'.oneCell' = true ∧ VRel w (fun b => b < w.heap.size) Ghost.none v' ls[i] := by
        intro v a h1 h2 h3
        refine ⟨[a], rfl, by simp [hc1], h3, fun i hi => ?_⟩
        obtain rfl : i = 0 := by simpa using hi
        exact ⟨_, rfl, h1, h2⟩
      rcases DataW.trod_slice hu h with ⟨rfl, _⟩ | ⟨a, len, cap, elems, rest, m, rfl, rfl, _, _, hl, hcm, hel, hget, hrest, _⟩
      · exact fin _ _ rfl (.nilS _ _) (by simp only [TC, hu]; exact .inl trivial)
      · by_cases hcap : cap = 0
        · subst hcap
          obtain rfl : len = 0 := by omega
          exact fin _ _ rfl (.nilS _ _) (by simp only [TC, hu]; exact .inl trivial)
        · -- the block
          obtain ⟨hr1, hr2⟩ := hrest rfl
          have hblk : a.spot = none ∧ ∃ c T fz, w.heap[a.block]? = some (.cells c T fz) := by
            have h0 : ∃ z cs0, w.cells? 0 (a.add 0) (P.cellsOf e) = some cs0 ∧ DataW.trod enc P w 0 (fun _ => true) held m e cs0 = some z := by
              by_cases hl0 : len = 0
              · subst hl0
                have := hr2 0 (by omega)
                rw [List.getElem?_eq_getElem (show 0 < rest.length by omega)] at this
                simp only [Option.bind_eq_some_iff, Nat.add_zero, Nat.zero_mul] at this
                obtain ⟨cs0, k1, k2⟩ := this
                exact ⟨_, cs0, k1, k2⟩
              · have := hget 0 (by omega)
                rw [List.getElem?_eq_getElem (show 0 < elems.length by omega)] at this
                simp only [Option.bind_eq_some_iff, Nat.zero_mul] at this
                obtain ⟨cs0, k1, k2⟩ := this
                exact ⟨_, cs0, k1, k2⟩
            obtain ⟨_, cs0, k1, _⟩ := h0
            obtain ⟨_, k2⟩ := cellQ k1
            obtain ⟨v, _, k3⟩ := k2 0 hpos
            have hadd : (a.add 0).add 0 = a := by simp [Addr.add]
            rw [hadd] at k3
            unfold World.cell? at k3
            split at k3
            · rename_i c T fz hh
              split at k3
              · cases k3
              · rename_i hsp
                exact ⟨by simpa using hsp, c, T, fz, hh⟩
            · cases k3
          obtain ⟨hsp, c, T, fz, hh⟩ := hblk
          -- the elements
          have H1 : ∀ i, ∃ p : List Value × List AV, i < len → (w.cells? 0 (a.add (i * P.cellsOf e)) (P.cellsOf e) = some p.1 ∧ p.2.length = p.1.length ∧ p.1.length = P.cellsOf e ∧ TC P n e p.2 ∧
              ∀ j (h : j < p.2.length), ∃ v, p.1[j]? = some v ∧ v.oneCell' = true ∧ VRel w (fun b => b < w.heap.size) Ghost.none v p.2[j]) := by
            intro i
            by_cases hi : i < len
            · have := hget i hi
              rw [List.getElem?_eq_getElem (show i < elems.length by omega)] at this
              simp only [Option.bind_eq_some_iff] at this
              obtain ⟨cs0, k1, k2⟩ := this
              obtain ⟨ls, q1, q2, q3, q4⟩ := ih m e cs0 _ hpe k2
              exact ⟨(cs0, ls), fun _ => ⟨k1, q1, q2, q3, q4⟩⟩
            · exact ⟨([], []), fun h => absurd h hi⟩
          obtain ⟨F, hF⟩ := Classical.axiomOfChoice H1
          obtain ⟨b0, o0, s0⟩ := a
          simp only at hsp hh
          subst hsp
          have hlen : ((List.range len).map fun i => wholeA P e (F i).2).length = len := by simp
          refine fin (.slice (some ⟨b0, o0, none⟩) len cap) (.fs (P.cellsOf e) ((List.range len).map fun i => wholeA P e (F i).2)) rfl ?_ ?_
          · have hV := VRel.fs (w := w) (OK := fun b => b < w.heap.size) Ghost.none b0 o0 cap (P.cellsOf e) T c fz ((List.range len).map fun i => wholeA P e (F i).2)
              (fun i => if aggT P e then .agg (F i).1.toArray else (F i).1.headD undef) (Array.getElem?_eq_some_iff.1 hh).1 hh (by rw [hlen]; exact hl) (fun i hi => ?_) (fun i hi => ?_) (fun i hi j hj => ?_)
            · rw [hlen] at hV; exact hV
            · obtain ⟨_, k2, k3, _, k5⟩ := hF i (by rwa [hlen] at hi)
              simp only [List.getElem_map, List.getElem_range, wholeA]
              split
              · refine .agg _ _ _ (by simp [k2]) (fun j => (F i).1.getD j undef) (fun j hj => ?_) (fun j hj => ?_)
                · obtain ⟨v, e1, e2, _⟩ := k5 j hj
                  simp [List.getD_eq_getElem?_getD, e1, e2]
                · obtain ⟨v, e1, _, e3⟩ := k5 j hj
                  simpa [List.getD_eq_getElem?_getD, e1] using e3
              · have h0 : 0 < (F i).2.length := by omega
                obtain ⟨v, e1, e2, e3⟩ := k5 0 h0
                have e4 : (F i).1.headD undef = v := by
                  cases hF1 : (F i).1 with
                  | nil => rw [hF1] at e1; simp at e1
                  | cons y r => rw [hF1] at e1; simpa using e1
                rw [e4, headD_get _ _ h0]; exact e3
            · obtain ⟨_, k2, k3, _, k5⟩ := hF i (by rwa [hlen] at hi)
              split
              · refine ⟨by simp [Value.cells, k3], fun y hy => ?_⟩
                simp only [Value.cells] at hy
                obtain ⟨j, hj, rfl⟩ := List.mem_iff_getElem.1 hy
                obtain ⟨v, e1, e2, _⟩ := k5 j (by rw [k2]; simpa using hj)
                have : (F i).1[j]'(by simpa using hj) = v := by rw [List.getElem?_eq_getElem (by simpa using hj)] at e1; simpa using e1
                simpa [this] using e2
              · rename_i hagg
                have h0 : 0 < (F i).2.length := by omega
                obtain ⟨v, e1, e2, e3⟩ := k5 0 h0
                have e4 : (F i).1.headD undef = v := by
                  cases hF1 : (F i).1 with
                  | nil => rw [hF1] at e1; simp at e1
                  | cons y r => rw [hF1] at e1; simpa using e1
                have hc1' : P.cellsOf e = 1 := scalar_cells hpe (by simpa using hagg)
                rw [e4]
                cases v <;> simp [Value.oneCell'] at e2 <;> simp [Value.cells, okCells, hc1', Value.oneCell']
            · obtain ⟨k1, k2, k3, _, k5⟩ := hF i (by rwa [hlen] at hi)
              obtain ⟨_, q⟩ := cellQ k1
              obtain ⟨v, q1, q2⟩ := q j hj
              rw [addr_add_add _ _ _ rfl] at q2
              simp only [World.cell?, hh, Option.isSome_none, Bool.false_eq_true, if_false] at q2
              rw [q2]
              split
              · simp [Value.cells, q1]
              · rename_i hagg
                have hc1' : P.cellsOf e = 1 := scalar_cells hpe (by simpa using hagg)
                obtain rfl : j = 0 := by omega
                obtain ⟨v', e1, e2, _⟩ := k5 0 (by omega)
                have e4 : (F i).1.headD undef = v := by
                  cases hF1 : (F i).1 with
                  | nil => rw [hF1] at q1; simp at q1
                  | cons y r => rw [hF1] at q1; simpa using q1
                obtain rfl : v = v' := Option.some.inj (q1.symm.trans e1)
                rw [e4]
                cases v <;> simp [Value.oneCell'] at e2 <;> rfl
          · simp only [TC, hu]
            refine .inr ⟨_, rfl, ?_, fun y hy => ?_⟩
            · have h2 : maxLen = 9223372036854775807 := by decide
              rw [hlen]; omega
            · simp only [List.mem_map, List.mem_range] at hy
              obtain ⟨i, hi, rfl⟩ := hy
              obtain ⟨_, k2, k3, k4, _⟩ := hF i hi
              exact ⟨_, k4, by omega, rfl⟩
    · -- struct
      rename_i fs hu
      simp only [Bool.and_eq_true, List.all_eq_true] at hp
      obtain ⟨hp1, hp2⟩ := hp
      obtain ⟨xs, m, rfl, _, hcl, hxl, hall⟩ := DataW.trod_struct hu h
      have key : ∀ (r : List Field) (k : Nat), contigB P k r (P.cellsOf t) = true → (∀ f ∈ r, plainT P n f.type = true ∧ ∃ y, DataW.trod enc P w 0 (fun _ => true) held m f.type ((cs.drop f.offset).take (P.cellsOf f.type)) = some y) →
          k ≤ P.cellsOf t ∧ ∃ ls : List AV, k + ls.length = P.cellsOf t ∧ TCs P (TC P n) r ls ∧ ∀ i (h : i < ls.length), ∃ v, cs[k + i]? = some v ∧ v.oneCell' = true ∧ VRel w (fun b => b < w.heap.size) Ghost.none v ls[i] := by
        intro r
        induction r with
        | nil =>
          intro k hk _
          simp only [contigB, beq_iff_eq] at hk
          exact ⟨by omega, [], by simpa using hk, rfl, fun i hi => by simp at hi⟩
        | cons f r ihr =>
          intro k hk hf
          simp only [contigB, Bool.and_eq_true, beq_iff_eq] at hk
          obtain ⟨hko, hk⟩ := hk
          obtain ⟨hle, ls2, l1, l2, l3⟩ := ihr _ hk (fun g hg => hf g (by simp [hg]))
          obtain ⟨hpf, y, hy⟩ := hf f (by simp)
          obtain ⟨ls1, q1, q2, q3, q4⟩ := ih m _ _ _ hpf hy
          refine ⟨by omega, ls1 ++ ls2, by simp; omega, ⟨ls1, ls2, rfl, q3, by omega, l2⟩, fun i hi => ?_⟩
          by_cases h1 : i < ls1.length
          · obtain ⟨v, e1, e2, e3⟩ := q4 i h1
            refine ⟨v, ?_, e2, by rw [List.getElem_append_left h1]; exact e3⟩
            rw [List.getElem?_take_of_lt (by omega), List.getElem?_drop] at e1
            rw [← hko]; exact e1
          · have hi2 : i - ls1.length < ls2.length := by simp at hi; omega
            obtain ⟨v, e1, e2, e3⟩ := l3 (i - ls1.length) hi2
            refine ⟨v, ?_, e2, by rw [List.getElem_append_right (by omega)]; exact e3⟩
            rw [← e1]; congr 1; omega
      obtain ⟨_, ls, l1, l2, l3⟩ := key fs.toList 0 hp2 (fun f hf => ⟨hp1 f hf, by
        obtain ⟨i, hi, rfl⟩ := List.mem_iff_getElem.1 hf
        have hi' : i < fs.size := by simpa using hi
        have := hall i fs[i] (by simp [hi'])
        rw [List.getElem?_eq_getElem (show i < xs.length by omega)] at this
        exact ⟨_, by simpa using this⟩⟩)
      refine ⟨ls, by omega, hcl, by simp only [TC, hu]; exact l2, fun i hi => ?_⟩
      obtain ⟨v, e1, e2, e3⟩ := l3 i hi
      exact ⟨v, by simpa using e1, e2, e3⟩
    · -- array
      rename_i m' e hu
      simp only [Bool.and_eq_true, beq_iff_eq] at hp
      obtain ⟨⟨hsz, hpos⟩, hpe⟩ := hp
      obtain ⟨xs, m, rfl, _, hcl, hxl, hall⟩ := DataW.trod_array hu h
      have key : ∀ (r k : Nat), k + r = m' → ∃ ls : List AV, ls.length = r * P.cellsOf e ∧ TCa (TC P n e) (P.cellsOf e) r ls ∧ ∀ i (h : i < ls.length), ∃ v, cs[k * P.cellsOf e + i]? = some v ∧ v.oneCell' = true ∧ VRel w (fun b => b < w.heap.size) Ghost.none v ls[i] := by
        intro r
        induction r with
        | zero => intro k _; exact ⟨[], by simp, rfl, fun i hi => by simp at hi⟩
        | succ r ihr =>
          intro k hk
          obtain ⟨ls2, l1, l2, l3⟩ := ihr (k + 1) (by omega)
          have hy := hall k (by omega)
          rw [List.getElem?_eq_getElem (show k < xs.length by omega)] at hy
          obtain ⟨ls1, q1, q2, q3, q4⟩ := ih m _ _ _ hpe hy
          refine ⟨ls1 ++ ls2, by simp [l1, q1, q2, Nat.add_mul]; omega, ⟨ls1, ls2, rfl, q3, by omega, l2⟩, fun i hi => ?_⟩
          by_cases h1 : i < ls1.length
          · obtain ⟨v, e1, e2, e3⟩ := q4 i h1
            refine ⟨v, ?_, e2, by rw [List.getElem_append_left h1]; exact e3⟩
            rw [List.getElem?_take_of_lt (by omega), List.getElem?_drop] at e1
            exact e1
          · have hi2 : i - ls1.length < ls2.length := by simp at hi; omega
            obtain ⟨v, e1, e2, e3⟩ := l3 (i - ls1.length) hi2
            refine ⟨v, ?_, e2, by rw [List.getElem_append_right (by omega)]; exact e3⟩
            rw [← e1]; congr 1; rw [Nat.add_mul]; omega
      obtain ⟨ls, l1, l2, l3⟩ := key m' 0 (by omega)
      refine ⟨ls, by omega, hcl, by simp only [TC, hu]; exact l2, fun i hi => ?_⟩
      obtain ⟨v, e1, e2, e3⟩ := l3 i hi
      exact ⟨v, by simpa using e1, e2, e3⟩
    · cases hp

theorem trod_TA {n : Nat} {t : TypeId} {v : Value} {d : DataW H} {ps : List MemPlace} (hp : plainT P n t = true) (hv : aggT P t = true → ∃ cs, v = .agg cs) (hv' : aggT P t = false → v.oneCell' = true) (h : DataW.Trod enc P w 0 (fun _ => true) held t v d ps) :
    ∃ a, TA P n t a ∧ VRel w (fun b => b < w.heap.size) Ghost.none v a := by
  obtain ⟨fuel, h⟩ := h
  obtain ⟨ls, h1, h2, h3, h4⟩ := trod_tree n fuel t _ _ hp h
  refine ⟨_, ⟨ls, h3, by omega, rfl⟩, ?_⟩
  unfold wholeA
  cases ha : aggT P t with
  | true =>
    obtain ⟨cs, rfl⟩ := hv ha
    rw [if_pos rfl]
    simp only [Value.cells] at h1 h4
    refine .agg _ _ _ (by simpa using h1.symm) (fun i => cs.getD i undef) (fun i hi => ?_) (fun i hi => ?_)
    · obtain ⟨v, e1, e2, _⟩ := h4 i hi
      have e1' : cs[i]? = some v := by simpa using e1
      simp [Array.getD_eq_getD_getElem?, e1', e2]
    · obtain ⟨v, e1, _, e3⟩ := h4 i hi
      have e1' : cs[i]? = some v := by simpa using e1
      simpa [Array.getD_eq_getD_getElem?, e1'] using e3
  | false =>
    have hone := hv' ha
    have hc : v.cells.toList = [v] := by cases v <;> simp [Value.oneCell'] at hone <;> rfl
    rw [hc] at h1 h4
    simp only [Bool.false_eq_true, if_false]
    match ls, h1, h4 with
    | [a], _, h4 =>
      obtain ⟨v', e1, _, e3⟩ := h4 0 (by simp)
      simp only [List.getElem?_cons_zero, Option.some.injEq] at e1
      subst e1
      exact e3
end
end Go.Proofs.YtnpmfpcppkdniaaDoor
