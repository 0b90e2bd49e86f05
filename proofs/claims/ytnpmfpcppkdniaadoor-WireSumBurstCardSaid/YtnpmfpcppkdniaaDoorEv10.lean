/-
  append: the evaluator's step is sound. Program-independent.
-/
import Derived.Test.YtnpmfpcppkdniaaDoorEv9
namespace Go.Proofs.YtnpmfpcppkdniaaDoor
open Go
section
variable {P : Program} {w : World} {OK : Nat → Prop} {g : Ghost} {A : Arena}

def Ghost.grow (g : Ghost) (id : Nat) (inc : Inc) (n' : Nat) : Ghost := fun k => if k = id then (g id).map (fun i => if i.b = inc.b then { i with n := n' } else i) else g k
def Ghost.more (g : Ghost) (id : Nat) (inc : Inc) : Ghost := fun k => if k = id then inc :: g id else g k

theorem Ghost.more_le (g : Ghost) (id : Nat) (inc : Inc) : g.le (g.more id inc) := fun k i hi => ⟨i.n, Nat.le_refl _, by
  unfold Ghost.more
  split
  · rename_i h; subst h; exact List.mem_cons_of_mem _ hi
  · exact hi⟩

/-- A row gets one block more. -/
theorem ARel.addInc {w' : World} (h : ARel w OK g A) (o : Obj) (hh : w'.heap = w.heap.push o) (ho : w'.os = w.os) (ht : w'.tape = w.tape) (hp : w'.output = w.output)
    (id : Nat) (hid : id < A.length) (hlive : A[id]? ≠ some .dead) (e : Ent) (inc : Inc) (hb : inc.b = w.heap.size)
    (he : ∀ g' : Ghost, g.le g' → (∀ b, b < w.heap.size → w'.heap[b]? = w.heap[b]?) → w'.heap[w.heap.size]? = some o → EntAt w' OK g' (inc :: g id) e) (hfx : ∀ i, i ∈ g id → i.esz ≠ 0) :
    ARel w' OK (g.more id inc) (A.set id e) ∧ Ext w OK g w' OK (g.more id inc) := by
  have hle := g.more_le id inc
  have hblk : ∀ b, b < w.heap.size → w'.heap[b]? = w.heap[b]? := fun b hb => by rw [hh, Array.getElem?_push, if_neg (by omega)]
  have hnew : w'.heap[w.heap.size]? = some o := by rw [hh]; simp
  have hsz : w'.heap.size = w.heap.size + 1 := by rw [hh]; simp
  have hcases : ∀ k i, i ∈ g.more id inc k → i ∈ g k ∨ (k = id ∧ i = inc) := fun k i hi => by
    unfold Ghost.more at hi
    split at hi
    · rename_i h1
      rcases List.mem_cons.1 hi with h2 | h2
      · exact .inr ⟨h1, h2⟩
      · exact .inl (h1 ▸ h2)
    · exact .inl hi
  have hl : ∀ k : Nat, (A.set id e)[k]? ≠ some Ent.dead → A[k]? ≠ some Ent.dead := fun k hd => by
    by_cases e2 : k = id
    · rw [e2]; exact hlive
    · rwa [List.getElem?_set_ne (Ne.symm e2)] at hd
  refine ⟨⟨fun k hk => ?_, fun k hk => ?_, fun k k' i i' hd hd' hi hi' eb => ?_, fun k i hi ho => ?_, fun k i hi => ?_, fun b hb => ?_⟩, ⟨ho, ht, hp, by omega, fun b hb _ => hblk b hb, hle, fun _ h => h, fun k i hi => ?_, fun _ h => .inl h, fun b r hb _ => (hblk b (Array.getElem?_eq_some_iff.1 hb).1).trans hb, fun k i hi h0 => by
    by_cases e1 : k = id
    · subst e1; exact absurd h0 (hfx i hi)
    · simp [Ghost.more, e1]⟩⟩
  · by_cases e1 : k = id
    · subst e1
      simp only [Ghost.more, if_pos, List.getElem_set_self]
      exact he _ hle hblk hnew
    · have hlt : k < A.length := by simpa using hk
      simp only [Ghost.more, if_neg e1]
      rw [List.getElem_set_ne (Ne.symm e1)]
      exact (h.ent k hlt).mono (fun _ h => h) (fun b hb => hblk b (h.ok b hb)) hle (fun i hi => hblk _ (h.low k i hi))
  · simp at hk
    simp only [Ghost.more]
    rw [if_neg (by omega)]
    exact h.out k hk
  · rcases hcases k i hi with h1 | ⟨h1, h2⟩ <;> rcases hcases k' i' hi' with h1' | ⟨h1', h2'⟩
    · exact h.one _ _ _ _ (hl k hd) (hl k' hd') h1 h1' eb
    · subst h2'; have := h.low _ _ h1; omega
    · subst h2; have := h.low _ _ h1'; omega
    · subst h1; subst h1'; subst h2; subst h2'; exact ⟨rfl, rfl⟩
  · rcases hcases k i hi with h1 | ⟨h1, h2⟩
    · exact h.apart _ _ h1 ho
    · subst h2; have := h.ok _ ho; omega
  · rcases hcases k i hi with h1 | ⟨h1, h2⟩
    · have := h.low _ _ h1; omega
    · subst h2; omega
  · have := h.ok b hb; omega
  · rcases hcases k i hi with h1 | ⟨h1, h2⟩
    · exact .inl ⟨k, i, h1, rfl⟩
    · subst h2; exact .inr (by omega)

/-- A block that only let-go entries name is written. -/
theorem ARel.scribble {w' : World} (h : ARel w OK g A) (b0 : Nat) (hs : w'.heap.size = w.heap.size) (hblk : ∀ b, b ≠ b0 → w'.heap[b]? = w.heap[b]?) (hok : ¬ OK b0)
    (hex : ∀ k i, A[k]? ≠ some .dead → i ∈ g k → i.b ≠ b0) : ARel w' OK g A where
  ent k hk := by
    by_cases hd : A[k]? = some .dead
    · rw [List.getElem?_eq_getElem hk] at hd
      injection hd with hd
      rw [hd]; trivial
    · exact (h.ent k hk).mono (fun _ h => h) (fun b hb => hblk b (fun e => hok (e ▸ hb))) g.le_refl (fun i hi => hblk _ (hex k i hd hi))
  out := h.out
  one := h.one
  apart := h.apart
  low k i hi := by rw [hs]; exact h.low k i hi
  ok b hb := by rw [hs]; exact h.ok b hb

theorem size_zeroCells' (z : Array Value) (n : Nat) : (Builtin.zeroCells z n).size = n * z.size := by simp [Builtin.zeroCells]

set_option maxHeartbeats 1000000 in
theorem evAppend_sound {t xt ty e : TypeId} {i : TypeInfo} {z : Value} {v1 v2 : Value} {a1 a2 r : AV} {A' : Arena} (ht : P.underlying t = some (.slice e)) (hx : (∃ e', P.underlying xt = some (.slice e')) ∨ P.underlying xt = some .string) (hi : P.info? e = some i) (hz : i.zero = some z) (hzs : z.cells.size = i.size)
    (hA : ARel w OK g A) (h1 : VRel w OK g v1 a1) (h2 : VRel w OK g v2 a2) (he : evAppend i.size i.bytes A a1 a2 = some (r, A')) : Does P w OK g (Builtin.append_ #[t, xt] ty #[v1, v2]) r A' := by
  unfold evAppend at he
  split at he
  · cases he
  · rename_i xs hsrc
    have hlen : (Builtin.lenOf v2).run P w = .ok xs.length w := lenOf_sound hA h2 hsrc w.drawn
    obtain ⟨news, hnews, hrel⟩ := srcElems_sound (P := P) hA h2 hsrc xs.length (Nat.le_refl _)
    rw [List.take_length] at hrel
    split at he
    · obtain ⟨p0, rfl⟩ := h1.inv_nilS
      split at he
      · rename_i h0
        simp only [Option.some.injEq, Prod.mk.injEq] at he
        obtain ⟨rfl, rfl⟩ := he
        refine ⟨.slice p0 0 0, w, g, ?_, .nilS _ _, hA, Ext.refl _ _ _⟩
        have hn0 := hnews w.drawn
        rw [h0] at hlen hn0
        have hnn : news = #[] := by
          have := hrel.1
          rw [h0] at this
          exact Array.eq_empty_of_size_eq_zero (by simpa using this)
        subst hnn
        rcases hx with ⟨e', hx⟩ | hx <;> cases p0 <;> simp [Builtin.append_, run_underlying' ht, run_underlying' hx, run_sizeOf' hi, hlen, show (Builtin.firstCells i.size 0 v2).run P w = .ok #[] w from hn0, storeCells]
      · rename_i h0
        simp only [Option.ite_none_right_eq_some, Option.some.injEq, Prod.mk.injEq] at he
        obtain ⟨⟨hpos, hb0, hb⟩, rfl, rfl⟩ := he
        obtain ⟨k, hk, hrun⟩ := run_append_new (ty := ty) (base := p0) (sLen := 0) (sCap := 0) (olds := #[]) ht hx hi hz hlen hnews (fun d => by cases p0 <;> simp [Builtin.firstCells, loadCells, loadCellsFrom]) (by omega) hb0 (by simpa using hb)
        rw [Nat.zero_add] at hk hrun
        have hel := ElemsRel.append (w := w) (OK := OK) (g := g) (c1 := #[]) (xs := []) (size := i.size) ⟨by simp, fun i hi => by simp at hi⟩ hrel (Builtin.zeroCells z.cells (k - xs.length))
        have hcs : (#[] ++ news ++ Builtin.zeroCells z.cells (k - xs.length)).size = k * i.size := by
          simp only [Array.size_append, Array.size_empty, size_zeroCells', hrel.1, hzs]
          rw [Nat.zero_add, ← Nat.add_mul]; congr 1; omega
        obtain ⟨q1, q2⟩ := hA.pushRow (w' := { { w with drawn := w.drawn + 1 } with heap := w.heap.push (.cells (#[] ++ news ++ Builtin.zeroCells z.cells (k - xs.length)) e) }) _ e (0, 0) rfl rfl rfl rfl (unfrozen_zero _) i.size k false xs hk (by rw [hcs]; exact Nat.le_refl _)
          (fun j hj => by simpa using hel j (by simpa using hj))
        exact ⟨_, _, _, hrun, .sl _ _ 0 _ _ _ _ (Ghost.push_self _ _ _) hk (by simp) (by simp) (fun _ => by simp), q1, q2⟩
    · rename_i id off len
      split at he
      · rename_i s' gr es hid
        simp only [Option.ite_none_right_eq_some] at he
        obtain ⟨⟨rfl, hpos, hb0, hb⟩, he⟩ := he
        obtain ⟨inc, cap, ao, hinc, rfl, hl, hn, hcap, ha⟩ := h1.inv_sl
        obtain ⟨hlt', hrow⟩ := List.getElem?_eq_some_iff.1 hid
        have hdead : A[id]? ≠ some Ent.dead := by rw [hid]; simp
        have hent := hA.ent id hlt'
        rw [hrow] at hent
        obtain ⟨hesz, hne, hnc, c, T, fz, hh, hu, hcs, hel⟩ := hent.2 inc hinc
        obtain ⟨olds, holds, hrelo⟩ := srcElems_sound (P := P) hA h1 (show srcElems i.size A (.sl id off len) = some ((es.drop off).take len) by simp [srcElems, hid]) len (by simp; omega)
        have hlsub : ((es.drop off).take len).length = len := by simp; omega
        rw [List.take_of_length_le (by omega)] at hrelo
        have hone := hrel.one hpos
        have hkl := hA.kill id
        have hdk : (A.set id Ent.dead)[id]? = some .dead := by rw [List.getElem?_set_self hlt']
        have hexk : ∀ k i, (A.set id Ent.dead)[k]? ≠ some .dead → i ∈ g k → i.b ≠ inc.b := fun k i hd hi hb => by
          have hki : k ≠ id := fun e => hd (e ▸ hdk)
          rw [List.getElem?_set_ne (Ne.symm hki)] at hd
          exact hki (hA.one k id i inc hd hdead hi hinc hb).1
        by_cases hroom : len + xs.length ≤ cap
        · -- within the capacity
          by_cases hcap0 : cap = 0
          · -- nothing is appended to nothing
            have hx0 : xs.length = 0 := by omega
            have hl0 : len = 0 := by omega
            have hxs : xs = [] := List.length_eq_zero_iff.1 hx0
            have hnews0 : news.toList = [] := by
              have := hrel.1; rw [hx0, Nat.zero_mul] at this
              exact List.length_eq_zero_iff.1 (by simpa using this)
            have hrun := run_append_in (ty := ty) (b := inc.b) (ao := ao) (sLen := len) (sCap := cap) (w' := w) ht hx hi hlen (hnews w.drawn) hroom (by rw [hnews0]; rfl)
            subst hl0; subst hxs; subst hcap0
            split at he
            · rename_i hc
              simp only [Option.some.injEq, Prod.mk.injEq] at he
              obtain ⟨rfl, rfl⟩ := he
              have hes : es = [] := List.length_eq_zero_iff.1 hc.2.symm
              subst hes
              refine ⟨_, w, g, hrun, .sl _ id 0 _ _ _ inc hinc (by simp) (by simp) (by omega) (fun h => absurd rfl h), ?_, Ext.refl _ _ _⟩
              have := hA.turn (w' := w) (g' := g) id hlt' hdead inc hinc rfl rfl rfl rfl (fun _ _ => rfl) (fun r hr _ => by obtain ⟨_, _, _, c0, T0, fz0, hh0, _⟩ := hent.2 inc hinc; rw [hh0] at hr; cases hr) g.le_refl (fun _ _ => rfl) (fun i hi => ⟨i, hi, rfl⟩)
                (fun i i' hi hi' e => (hA.one id id i i' hdead hdead hi hi' e).2) (.row i.size true []) (fun _ => ⟨fun h => (by cases h), hent.2⟩) (fun _ => rfl)
              exact this.1
            · simp only [Option.some.injEq, Prod.mk.injEq] at he
              obtain ⟨rfl, rfl⟩ := he
              obtain ⟨p1, p2⟩ := hkl.pushOld id (by simpa using hlt') hdk inc ⟨inc.b, inc.o, 0, 0, i.size⟩ hinc rfl (.row i.size false []) hexk (fun g' _ => ⟨fun _ => ⟨by simp, by simp⟩, fun x hx => by
                simp at hx; subst hx
                exact ⟨rfl, Nat.zero_le _, Nat.zero_le _, c, T, fz, hh, hu, by simp; omega, fun j hj => by simp at hj⟩⟩)
              rw [List.length_set] at p1 p2
              refine ⟨_, w, _, hrun, .sl _ A.length 0 _ _ _ ⟨inc.b, inc.o, 0, 0, i.size⟩ (Ghost.push_self g A.length _) (by simp) (by simp) (by simp) (fun h => absurd rfl h), by simpa using p1, ?_⟩
              have hfx : ∀ (k : Nat) (j : Inc), j ∈ g k → j.esz = 0 → g.push A.length ⟨inc.b, inc.o, 0, 0, i.size⟩ k = g k := fun k j hj _ => by
                by_cases e1 : k = A.length
                · subst e1; rw [hA.out _ (Nat.le_refl _)] at hj; cases hj
                · simp [Ghost.push, e1]
              refine { Ext.refl w OK g with gle := p2, fix := hfx, fresh := fun k j hj => ?_ }
              unfold Ghost.push at hj
              split at hj
              · simp at hj; subst hj; exact .inl ⟨id, inc, hinc, rfl⟩
              · exact .inl ⟨k, j, hj, rfl⟩
          · have hao := ha hcap0
            have hp0 : ao + len * i.size = inc.o + (off + len) * i.size := by rw [hao, hesz, Nat.add_mul]; omega
            have hfit : inc.o + (off + len) * i.size + news.toList.length ≤ c.size := by
              have : (off + len + xs.length) * i.size ≤ inc.cap * i.size := Nat.mul_le_mul_right _ (by omega)
              rw [Nat.add_mul] at this
              rw [Array.length_toList, hrel.1]; omega
            have hst := run_storeCells_u P inc.b (ao + len * i.size) T fz news.toList 0 c w hh hu (by rw [hp0, Nat.add_zero]; exact hfit) hone
            rw [Nat.add_zero, hp0] at hst
            have hst' : (storeCells ⟨inc.b, ao + len * i.size, none⟩ news.toList).run P w = .ok () (w.setRow inc.b (splice c (inc.o + (off + len) * i.size) news.toList)) := by rw [hp0]; exact hst
            have hrun := run_append_in (ty := ty) (b := inc.b) (ao := ao) (sLen := len) (sCap := cap) ht hx hi hlen (hnews w.drawn) hroom hst'
            have hnl : news.toList.length = xs.length * i.size := by rw [Array.length_toList, hrel.1]
            have hnewel : ∀ {w' : World} {g' : Ghost}, (∀ b, OK b → w'.heap[b]? = w.heap[b]?) → g.le g' → ∀ j (hj : j < xs.length), ElemAt w' OK g' (splice c (inc.o + (off + len) * i.size) news.toList) (inc.o + (off + len + j) * i.size) i.size xs[j] := by
              intro w' g' hokb hg j hj
              obtain ⟨u, u1, u2, u3, u4⟩ := hrel.2 j hj
              refine ⟨u, u1.mono (fun _ h => h) hokb g' hg, u2, u3, fun q hq => ?_⟩
              have hjq : j * i.size + q < news.toList.length := by
                rw [hnl]
                have : (j + 1) * i.size ≤ xs.length * i.size := Nat.mul_le_mul_right _ hj
                rw [Nat.add_mul] at this; omega
              have e1 := splice_in c (inc.o + (off + len) * i.size) news.toList hfit (j * i.size + q) hjq
              rw [show inc.o + (off + len + j) * i.size + q = inc.o + (off + len) * i.size + (j * i.size + q) by rw [Nat.add_mul (off + len)]; omega, e1]
              simpa using u4 q hq
            have holdel : ∀ {w' : World} {g' : Ghost}, (∀ b, OK b → w'.heap[b]? = w.heap[b]?) → g.le g' → ∀ j (hj : j < es.length), j < off + len → ElemAt w' OK g' (splice c (inc.o + (off + len) * i.size) news.toList) (inc.o + j * i.size) i.size es[j] := by
              intro w' g' hokb hg j hj hjl
              refine ElemAt.mono (ElemAt.splice_out (hel j hj (by omega)) hfit (.inl ?_)) (fun _ h => h) hokb hg
              have : (j + 1) * i.size ≤ (off + len) * i.size := Nat.mul_le_mul_right _ hjl
              rw [Nat.add_mul] at this; omega
            have hblk : ∀ b, b ≠ inc.b → (w.setRow inc.b (splice c (inc.o + (off + len) * i.size) news.toList)).heap[b]? = w.heap[b]? := fun b hb => setRow_other w inc.b b _ hb
            split at he
            · rename_i hc
              obtain ⟨rfl, hcl⟩ := hc
              simp only [Option.some.injEq, Prod.mk.injEq] at he
              obtain ⟨rfl, rfl⟩ := he
              have hgid : g.grow id inc (len + xs.length) id = (g id).map (fun i => if i.b = inc.b then { i with n := len + xs.length } else i) := by simp [Ghost.grow]
              have hgle : g.le (g.grow id inc (len + xs.length)) := fun k j hj => by
                unfold Ghost.grow
                split
                · rename_i hk; subst hk
                  by_cases hb : j.b = inc.b
                  · refine ⟨len + xs.length, ?_, List.mem_map.2 ⟨j, hj, by rw [if_pos hb]⟩⟩
                    have := (hent.2 j hj).2.1; omega
                  · exact ⟨j.n, Nat.le_refl _, List.mem_map.2 ⟨j, hj, by rw [if_neg hb]⟩⟩
                · exact ⟨j.n, Nat.le_refl _, hj⟩
              obtain ⟨t1, t2⟩ := hA.turn (w' := w.setRow inc.b (splice c (inc.o + (0 + len) * i.size) news.toList)) (g' := g.grow id inc (len + xs.length)) id hlt' hdead inc hinc (by simp) rfl rfl rfl hblk (fun r hr _ => by obtain ⟨_, _, _, c0, T0, fz0, hh0, _⟩ := hent.2 inc hinc; rw [hh0] at hr; cases hr) hgle
                (fun k hk => by simp [Ghost.grow, hk])
                (fun j hj => by
                  rw [hgid] at hj
                  obtain ⟨j0, h0, rfl⟩ := List.mem_map.1 hj
                  refine ⟨j0, h0, ?_⟩
                  split <;> rfl)
                (fun j j' hj hj' eb => by
                  rw [hgid] at hj hj'
                  obtain ⟨j0, h0, rfl⟩ := List.mem_map.1 hj
                  obtain ⟨j0', h0', rfl⟩ := List.mem_map.1 hj'
                  have e1 : ∀ y : Inc, (if y.b = inc.b then { y with n := len + xs.length } else y).b = y.b := fun y => by split <;> rfl
                  rw [e1, e1] at eb
                  rw [(hA.one id id j0 j0' hdead hdead h0 h0' eb).2])
                (.row i.size true (es ++ xs)) (fun hokb => ⟨fun h => (by cases h), fun x hx => by
                  rw [hgid] at hx
                  obtain ⟨j0, h0, rfl⟩ := List.mem_map.1 hx
                  by_cases hb : j0.b = inc.b
                  · obtain rfl := (hA.one id id j0 inc hdead hdead h0 hinc hb).2
                    rw [if_pos rfl]
                    refine ⟨hesz, by simp; omega, by simp; omega, _, T, fz, setRow_heap w j0.b c _ T fz hh, unfrozen_splice hu _ _ hfit, by rw [splice_size _ _ _ hfit]; exact hcs, fun q hq _ => ?_⟩
                    by_cases hqe : q < es.length
                    · rw [List.getElem_append_left hqe]
                      exact holdel hokb hgle q hqe (by omega)
                    · rw [List.getElem_append_right (by omega)]
                      simp at hq
                      have := hnewel hokb hgle (q - es.length) (by omega)
                      rwa [show 0 + len + (q - es.length) = q by omega] at this
                  · rw [if_neg hb]
                    obtain ⟨y1, y2, y3, c', T', fz', y4, y5, y6, y7⟩ := hent.2 j0 h0
                    refine ⟨y1, by simp; omega, y3, c', T', fz', (hblk _ hb).trans y4, y5, y6, fun q hq hqn => ?_⟩
                    rw [List.getElem_append_left (show q < es.length by omega)]
                    exact (y7 q (by omega) hqn).mono (fun _ h => h) hokb hgle⟩) (fun ⟨j, hj, hj0⟩ => by have := (hent.2 j hj).1; omega)
              refine ⟨_, _, _, hrun, ?_, t1, t2⟩
              refine .sl _ id 0 _ _ _ { inc with n := len + xs.length } ?_ hroom (by simp) (by simpa using hcap) (fun _ => by simpa using hao)
              rw [hgid]
              exact List.mem_map.2 ⟨inc, hinc, by rw [if_pos rfl]⟩
            · simp only [Option.some.injEq, Prod.mk.injEq] at he
              obtain ⟨rfl, rfl⟩ := he
              have hokb : ∀ b, OK b → (w.setRow inc.b (splice c (inc.o + (off + len) * i.size) news.toList)).heap[b]? = w.heap[b]? := fun b hb => hblk b (fun e => hA.apart id inc hinc (e ▸ hb))
              have hsc := hkl.scribble (w' := w.setRow inc.b (splice c (inc.o + (off + len) * i.size) news.toList)) inc.b (by simp) hblk (hA.apart id inc hinc) hexk
              obtain ⟨p1, p2⟩ := hsc.pushOld id (by simpa using hlt') hdk inc ⟨inc.b, ao, len + xs.length, cap, i.size⟩ hinc rfl (.row i.size false ((es.drop off).take len ++ xs)) hexk (fun g' hg => ⟨fun _ => ⟨by simp, fun x hx => by
                  simp at hx; subst hx; rw [List.length_append, hlsub]⟩, fun x hx => by
                simp at hx; subst hx
                refine ⟨rfl, by rw [List.length_append, hlsub]; exact Nat.le_refl _, hroom, _, T, fz, setRow_heap w inc.b c _ T fz hh, unfrozen_splice hu _ _ hfit, ?_, fun q hq _ => ?_⟩
                · rw [splice_size _ _ _ hfit]
                  have : (off + cap) * i.size ≤ inc.cap * i.size := Nat.mul_le_mul_right _ hcap
                  rw [Nat.add_mul] at this
                  show ao + cap * i.size ≤ c.size
                  rw [hao, hesz]; omega
                · show ElemAt _ OK g' _ (ao + q * i.size) i.size _
                  by_cases hqe : q < len
                  · rw [List.getElem_append_left (by rw [hlsub]; exact hqe)]
                    simp only [List.getElem_take, List.getElem_drop]
                    have := holdel hokb hg (off + q) (by omega) (by omega)
                    rwa [show inc.o + (off + q) * i.size = ao + q * i.size by rw [hao, hesz, Nat.add_mul]; omega] at this
                  · rw [List.getElem_append_right (by rw [hlsub]; omega)]
                    rw [List.length_append, hlsub] at hq
                    have := hnewel hokb hg (q - len) (by omega)
                    simp only [hlsub]
                    rwa [show inc.o + (off + len + (q - len)) * i.size = ao + q * i.size by rw [show off + len + (q - len) = off + q by omega, hao, hesz, Nat.add_mul]; omega] at this⟩)
              rw [List.length_set] at p1 p2
              refine ⟨_, _, _, hrun, .sl _ A.length 0 _ _ _ ⟨inc.b, ao, len + xs.length, cap, i.size⟩ (Ghost.push_self g A.length _) hroom (by simp) (by simp) (fun _ => by simp), by simpa using p1, ?_⟩
              refine ⟨rfl, rfl, rfl, by simp, fun b _ hu => hblk b (fun e => hu id inc hinc e.symm), p2, fun _ h => h, fun k j hj => ?_, fun _ h => .inl h, fun b r hb _ => (hblk b (fun e => by rw [e, hh] at hb; cases hb)).trans hb, fun k i hi _ => by
                by_cases e1 : k = A.length
                · subst e1; rw [hA.out _ (Nat.le_refl _)] at hi; cases hi
                · simp [Ghost.push, e1]⟩
              unfold Ghost.push at hj
              split at hj
              · simp at hj; subst hj; exact .inl ⟨id, inc, hinc, rfl⟩
              · exact .inl ⟨k, j, hj, rfl⟩
        · -- a new array
          obtain ⟨k, hk, hrun⟩ := run_append_new (ty := ty) (base := some ⟨inc.b, ao, none⟩) (sLen := len) (sCap := cap) (olds := olds) ht hx hi hz hlen hnews holds (by omega) hb0 hb
          have hel2 := ElemsRel.append hrelo hrel (Builtin.zeroCells z.cells (k - (len + xs.length)))
          have hcs2 : (olds ++ news ++ Builtin.zeroCells z.cells (k - (len + xs.length))).size = k * i.size := by
            simp only [Array.size_append, size_zeroCells', hrel.1, hrelo.1, hzs, hlsub]
            rw [← Nat.add_mul, ← Nat.add_mul]; congr 1; omega
          split at he
          · rename_i hc
            obtain ⟨rfl, hcl⟩ := hc
            simp only [Option.some.injEq, Prod.mk.injEq] at he
            obtain ⟨rfl, rfl⟩ := he
            have hsub : (es.drop 0).take len = es := by rw [List.drop_zero, List.take_of_length_le (by omega)]
            simp only [hsub] at hel2
            obtain ⟨t1, t2⟩ := hA.addInc (w' := { { w with drawn := w.drawn + 1 } with heap := w.heap.push (.cells (olds ++ news ++ Builtin.zeroCells z.cells (k - (len + xs.length))) e) }) _ rfl rfl rfl rfl id hlt' hdead (.row i.size true (es ++ xs)) ⟨w.heap.size, 0, len + xs.length, k, i.size⟩ rfl
              (fun g' hg hb hn => ⟨fun h => (by cases h), fun x hx => by
                rcases List.mem_cons.1 hx with rfl | hx
                · refine ⟨rfl, by simp; omega, hk, _, e, (0, 0), hn, unfrozen_zero _, by rw [hcs2]; simp, fun q hq _ => ?_⟩
                  have := (hel2 q hq).mono (OK' := OK) (fun _ h => h) (fun b hb' => hb b (hA.ok b hb')) hg
                  simpa using this
                · obtain ⟨y1, y2, y3, c', T', fz', y4, y5, y6, y7⟩ := hent.2 x hx
                  refine ⟨y1, by simp; omega, y3, c', T', fz', (hb _ (hA.low id x hx)).trans y4, y5, y6, fun q hq hqn => ?_⟩
                  rw [List.getElem_append_left (show q < es.length by omega)]
                  exact (y7 q (by omega) hqn).mono (fun _ h => h) (fun b hb' => hb b (hA.ok b hb')) hg⟩) (fun j hj hj0 => by have := (hent.2 j hj).1; omega)
            exact ⟨_, _, _, hrun, .sl _ id 0 _ _ _ ⟨w.heap.size, 0, len + xs.length, k, i.size⟩ (by simp [Ghost.more]) hk (by simp) (by simp) (fun _ => by simp), t1, t2⟩
          · simp only [Option.some.injEq, Prod.mk.injEq] at he
            obtain ⟨rfl, rfl⟩ := he
            obtain ⟨q1, q2⟩ := hkl.pushRow (w' := { { w with drawn := w.drawn + 1 } with heap := w.heap.push (.cells (olds ++ news ++ Builtin.zeroCells z.cells (k - (len + xs.length))) e) }) _ e (0, 0) rfl rfl rfl rfl (unfrozen_zero _) i.size k false ((es.drop off).take len ++ xs) (by rw [List.length_append, hlsub]; exact hk) (by rw [hcs2]; exact Nat.le_refl _) hel2
            rw [List.length_set] at q1 q2
            have hlen2 : ((es.drop off).take len ++ xs).length = len + xs.length := by rw [List.length_append, hlsub]
            rw [hlen2] at q1 q2
            exact ⟨_, _, _, hrun, .sl _ A.length 0 _ _ _ _ (Ghost.push_self g A.length _) hk (by simp) (by simp) (fun _ => by simp), by simpa using q1, q2⟩
      · cases he
    · cases he
end
end Go.Proofs.YtnpmfpcppkdniaaDoor
