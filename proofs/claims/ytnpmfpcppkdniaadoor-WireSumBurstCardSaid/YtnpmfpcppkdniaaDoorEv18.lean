/-
  Functions: evaluation, frozen results, contracts of pure functions. Program-independent.
-/
import Derived.Test.YtnpmfpcppkdniaaDoorEv17c
import Derived.Shelf.Abstract
namespace Go.Proofs.YtnpmfpcppkdniaaDoor
open Go

/-! ### what nobody writes any more -/

/-- a tree without references into the arena -/
def frz (A : Arena) : Nat → AV → AV
  | 0, .agg _ => .undef
  | 0, .tup _ => .undef
  | 0, .sl .. => .undef
  | 0, .ptr .. => .undef
  | 0, .func .. => .undef
  | 0, .iface .. => .undef
  | n + 1, .agg cs => .agg (cs.map (frz A n))
  | n + 1, .tup cs => .tup (cs.map (frz A n))
  | n + 1, .sl id off len => match A[id]? with
    | some (.row s _ es) => .fs s (((es.drop off).take len).map (frz A n))
    | _ => .undef
  | n + 1, .ptr id i o => match A[id]? with
    | some (.row _ _ es) => match es[i]? with
      | some e => if e.solid = true ∧ o < (cellsOf e).length then .fp (((cellsOf e).drop o).map (frz A n)) else .undef
      | none => .undef
    | _ => .undef
  | n + 1, .func fn c1 c2 => .func fn (c1.map (frz A n)) (c2.map (frz A n))
  | n + 1, .iface t v => .iface t (frz A n v)
  | _, .map _ => .undef
  | _, a => a

section
variable {P : Program} {w : World} {OK OK2 : Nat → Prop} {g : Ghost} {A : Arena}

theorem frz_sound (hA : ARel w OK g A) (h1 : ∀ b, OK b → OK2 b) (h2 : ∀ id inc, inc ∈ g id → OK2 inc.b) : ∀ (n : Nat) (a : AV) (v : Value), VRel w OK g v a → VRel w OK2 Ghost.none v (frz A n a) := by
  have up : ∀ {v : Value} {a : AV}, VRel w OK Ghost.none v a → VRel w OK2 Ghost.none v a := fun h => h.mono h1 (fun _ _ => rfl) _ (Ghost.le_refl _)
  intro n
  induction n with
  | zero =>
    intro a v h
    cases a <;> simp only [frz] <;> first
      | exact .undef _ _
      | (have e := h.inv_bool; rw [e]; exact .bool _ _)
      | (have e := h.inv_int; rw [e]; exact .int _ _ _)
      | (obtain ⟨s, e, hs⟩ := h.inv_str; rw [e]; exact .str _ _ _ hs)
      | (obtain ⟨p, e⟩ := h.inv_nilS; rw [e]; exact .nilS _ _)
      | (have e := h.inv_nilP; rw [e]; exact .nilP _)
      | (have e := h.inv_nilM; rw [e]; exact .nilM _)
      | (cases h; exact .nilF _)
      | (cases h; exact .nilI _)
      | (obtain ⟨b, o, cap, T, c, fz, vals, e, hb, hh, hcap, hv, hs, hc⟩ := h.inv_fs; rw [e]; exact .fs _ b o cap _ T c fz _ vals (h1 _ hb) hh hcap (fun i hi => up (hv i hi)) hs hc)
      | (obtain ⟨b, o, T, c, fz, vals, e, hb, hh, hne, hv, hc⟩ := h.inv_fp; rw [e]; exact .fp _ b o T c fz _ vals (h1 _ hb) hh hne (fun i hi => up (hv i hi)) hc)
  | succ n ih =>
    intro a v h
    cases a <;> simp only [frz] <;> try first
      | exact .undef _ _
      | (have e := h.inv_bool; rw [e]; exact .bool _ _)
      | (have e := h.inv_int; rw [e]; exact .int _ _ _)
      | (obtain ⟨s, e, hs⟩ := h.inv_str; rw [e]; exact .str _ _ _ hs)
      | (obtain ⟨p, e⟩ := h.inv_nilS; rw [e]; exact .nilS _ _)
      | (have e := h.inv_nilP; rw [e]; exact .nilP _)
      | (have e := h.inv_nilM; rw [e]; exact .nilM _)
      | (cases h; exact .nilF _)
      | (cases h; exact .nilI _)
      | (obtain ⟨b, o, cap, T, c, fz, vals, e, hb, hh, hcap, hv, hs, hc⟩ := h.inv_fs; rw [e]; exact .fs _ b o cap _ T c fz _ vals (h1 _ hb) hh hcap (fun i hi => up (hv i hi)) hs hc)
      | (obtain ⟨b, o, T, c, fz, vals, e, hb, hh, hne, hv, hc⟩ := h.inv_fp; rw [e]; exact .fp _ b o T c fz _ vals (h1 _ hb) hh hne (fun i hi => up (hv i hi)) hc)
    case sl id off len =>
      split
      · rename_i s gr es hid
        obtain ⟨inc, cap, ao, hinc, rfl, hl, hn, hcap, ha⟩ := h.inv_sl
        obtain ⟨hlt', hrow⟩ := List.getElem?_eq_some_iff.1 hid
        have hent := hA.ent id hlt'
        rw [hrow] at hent
        obtain ⟨hesz, hne, hnc, c, T, fz, hh, hu, hcs, hel⟩ := hent.2 inc hinc
        have hlen : (((es.drop off).take len).map (frz A n)).length = len := by simp; omega
        obtain ⟨vals, hvals⟩ : ∃ vals : Nat → Value, ∀ i (hi : i < len), VRel w OK g (vals i) (es[off + i]'(by omega)) ∧ (vals i).cells.size = s ∧ okCells (vals i) ∧ ∀ j, j < s → c[inc.o + (off + i) * s + j]? = (vals i).cells[j]? :=
          ⟨fun i => if hi : i < len then (hel (off + i) (by omega) (by omega)).choose else undef, fun i hi => by simp only [hi, dif_pos]; exact (hel (off + i) (by omega) (by omega)).choose_spec⟩
        have := VRel.fs (w := w) (OK := OK2) Ghost.none inc.b ao cap s T c fz (((es.drop off).take len).map (frz A n)) vals (h2 id inc hinc) hh (by omega)
          (fun i hi => by simp only [List.getElem_map, List.getElem_take, List.getElem_drop]; exact ih _ _ (hvals i (by omega)).1)
          (fun i hi => ⟨(hvals i (by omega)).2.1, (hvals i (by omega)).2.2.1⟩)
          (fun i hi j hj => by
            rw [← (hvals i (by omega)).2.2.2 j hj, ha (by omega), hesz]
            congr 1; rw [Nat.add_mul]; omega)
        rwa [hlen] at this
      · exact .undef _ _
    case ptr id i o =>
      split
      · rename_i s gr es hid
        split
        · rename_i e he
          split
          · rename_i hc
            obtain ⟨hsol, ho⟩ := hc
            obtain ⟨inc, hinc, rfl, hn, ho'⟩ := h.inv_ptr
            obtain ⟨hlt', hrow⟩ := List.getElem?_eq_some_iff.1 hid
            obtain ⟨hi', rfl⟩ := List.getElem?_eq_some_iff.1 he
            have hent := hA.ent id hlt'
            rw [hrow] at hent
            obtain ⟨hesz, hne, hnc, c, T, fz, hh, hu, hcs, hel⟩ := hent.2 inc hinc
            obtain ⟨v, hv, hvs, hok, hc⟩ := hel i hi' hn
            obtain ⟨k1, k2, k3⟩ := hv.cells hsol
            obtain ⟨f, hf⟩ : ∃ f : Nat → Value, ∀ j (hj : j < (cellsOf es[i]).length), v.cells[j]? = some (f j) ∧ (f j).oneCell' = true ∧ VRel w OK g (f j) (cellsOf es[i])[j] :=
              ⟨fun j => (v.cells[j]?).getD undef, fun j hj => by
                obtain ⟨x, a1, a2, a3⟩ := k3 j hj
                simp only [a1, Option.getD_some]
                exact ⟨trivial, a2, a3⟩⟩
            refine .fp _ inc.b _ T c fz _ (fun j => f (o + j)) (h2 id inc hinc) hh (by simp; omega) (fun j hj => ?_) (fun j hj => ?_)
            · simp only [List.getElem_map, List.getElem_drop]
              exact ih _ _ (hf (o + j) (by simp at hj; omega)).2.2
            · have hj' : o + j < (cellsOf es[i]).length := by simp at hj; omega
              refine ⟨?_, (hf (o + j) hj').2.1⟩
              rw [hesz, Nat.add_assoc, hc (o + j) (by omega)]
              exact (hf (o + j) hj').1
          · exact .undef _ _
        · exact .undef _ _
      · exact .undef _ _
    case agg cs =>
      obtain ⟨vs, vals, rfl, hl, hg, hv⟩ := h.inv_agg
      exact .agg _ vs _ (by simpa using hl) vals (fun i hi => hg i (by simpa using hi)) (fun i hi => by simp only [List.getElem_map]; exact ih _ _ (hv i (by simpa using hi)))
    case tup cs =>
      obtain ⟨vs, vals, rfl, hl, hg, hv⟩ := h.inv_tup
      exact .tup _ vs _ (by simpa using hl) vals (fun i hi => hg i (by simpa using hi)) (fun i hi => by simp only [List.getElem_map]; exact ih _ _ (hv i (by simpa using hi)))
    case func fn c1 c2 =>
      obtain ⟨vs1, vs2, vals1, vals2, rfl, hl1, hl2, hg1, hg2, hv1, hv2⟩ := h.inv_func
      exact .func _ fn vs1 vs2 _ _ (by simpa using hl1) (by simpa using hl2) vals1 vals2 (fun i hi => hg1 i (by simpa using hi)) (fun i hi => hg2 i (by simpa using hi))
        (fun i hi => by simp only [List.getElem_map]; exact ih _ _ (hv1 i (by simpa using hi))) (fun i hi => by simp only [List.getElem_map]; exact ih _ _ (hv2 i (by simpa using hi)))
    case iface t x =>
      cases h with
      | iface _ t v a hv => exact .iface _ t v _ (ih _ _ hv)
end
end Go.Proofs.YtnpmfpcppkdniaaDoor
