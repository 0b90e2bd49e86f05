/-
  Cycle: the law CycleDual, run.
-/
import Derived.Test.YtfmlfekcdbfioaaM06
namespace Go.Proofs.Ytfmlfekcdbfioaa
open Go

/-- Levels, where it has starts -/
theorem lv_starts {n : Int} {l : List CArc} {p : Int} (hr : Ready n l p) (h : (lvM n l p).2.2 = true) : (lvM n l p).2.1 = [] ∧ VerOk n l p (lvM n l p).1 ∧ (∀ x ∈ (lvM n l p).1, x ≤ 100000000) ∧ ∀ x, VerOk n l p x → ∀ v : Nat, (v : Int) < n → (lvM n l p).1.getD v 0 ≤ x.getD v 0 := by
  obtain ⟨m, rfl⟩ : ∃ m : Nat, n = (m : Int) := ⟨n.toNat, by have := hr.1.1; omega⟩
  have hv := hr.1.2.2
  have hn := hr.1.1
  have e : lvM m l p = ((levels (lar p l) m).1, [], true) := by
    unfold lvM at h ⊢
    rw [if_pos hr, Int.toNat_natCast] at h ⊢
    split
    · rfl
    · rename_i h'
      rw [if_neg h'] at h; cases h
  have hlv : (levels (lar p l) m).2 = true := by
    have := (lv_ok hr).1 h
    exact (lev_iff hr).2 this
  obtain ⟨h1, h2, h3, h4, h5⟩ := levels_least (lar_ends (p := p) hv)
  rw [e]
  have key : ∀ x ∈ (levels (lar p l) m).1, 0 ≤ x ∧ x ≤ 100000000 := ?_
  · refine ⟨rfl, ⟨hr, by rw [h1], fun x hx => by have := key x hx; omega, h4 hlv⟩, fun x hx => (key x hx).2, fun x hx v hvm => ?_⟩
    refine h5 x hx.2.2.2 (fun w hw => ?_) v (by omega)
    have hwl : w < x.length := by have := hx.2.1; omega
    have hg : x.getD w 0 = x[w] := by rw [List.getD_eq_getElem?_getD, List.getElem?_eq_getElem hwl]; rfl
    rw [hg]
    exact (hx.2.2.1 _ (List.getElem_mem hwl)).1
  intro x hx'
  obtain ⟨v, hv', rfl⟩ := List.mem_iff_getElem.1 hx'
  have hvn : v < m := by rw [← h1]; exact hv'
  have hg : (levels (lar p l) m).1.getD v 0 = (levels (lar p l) m).1[v] := by rw [List.getD_eq_getElem?_getD, List.getElem?_eq_getElem hv']; rfl
  have h0 := h2 v
  rw [hg] at h0
  refine ⟨h0, ?_⟩
  obtain ⟨u, r, k1, k2, k3⟩ := h3 v hvn
  have hN := (levels_ok (lar_ends (p := p) hv)).1 hlv
  obtain ⟨r', j1, j2, j3⟩ := short (lar_ends (p := p) hv) hN _ r u v rfl k1 k2
  rw [hg] at k3
  have hbd : ∀ {r : List LArc} {u v : Nat}, isW (lar p l) u r v → lenW r ≤ 3000000 * r.length := by
    intro r
    induction r with
    | nil => intro _ _ _; simp [lenW]
    | cons a r ih =>
      rintro u v ⟨q1, _, q3⟩
      have := ih q3
      have := (lar_ok (show m ≤ 32 by omega) hr.2 hv a q1).2.2.2
      simp only [lenW, List.length_cons]
      omega
  have := hbd j1
  omega
/-- Levels, where it has a cycle -/
theorem lv_cycle {n : Int} {l : List CArc} {p : Int} (hr : Ready n l p) (h : (lvM n l p).2.2 = false) : (lvM n l p).1 = [] ∧ RefOk n l p (lvM n l p).2.1 ∧ (lvM n l p).2.1.length ≤ 32 ∧ ∀ z ∈ (lvM n l p).2.1, inI z := by
  obtain ⟨m, rfl⟩ : ∃ m : Nat, n = (m : Int) := ⟨n.toNat, by have := hr.1.1; omega⟩
  have hlv : ¬ (levels (lar p l) m).2 = true := fun h' => by
    have := (lv_ok hr).2 ((lev_iff hr).1 h')
    rw [h] at this; cases this
  obtain ⟨res, u, xs, k1, k2, k3, k4, k5, k6, k7⟩ := cyc_of hr hlv
  have e : lvM m l p = ([], res, false) := by
    unfold lvM
    rw [if_pos hr, Int.toNat_natCast, if_neg hlv, k1]; rfl
  rw [e]
  refine ⟨rfl, ⟨hr, _, _, k7, k6⟩, by rw [k2]; simpa using k5, fun z hz => ?_⟩
  unfold exM at k7
  simp only [Option.ite_none_right_eq_some] at k7
  have := k7.1.2 z hz
  have := hr.1.2.1
  unfold inI; omega
theorem intsOf_sl {xs : List Int} (hl : xs.length ≤ 1000) (h : ∀ z ∈ xs, inI z) : intsOf (slA 1 (intsA xs)) = some xs := intsOf_slA (by omega) h
theorem ver_in {n : Int} {l : List CArc} {p : Int} {s : List Int} (h : VerOk n l p s) : s.length ≤ 32 ∧ ∀ z ∈ s, inI z := by
  obtain ⟨h1, h2, h3, _⟩ := h
  have := h1.1.1
  refine ⟨by omega, fun z hz => ?_⟩
  have := h3 z hz
  unfold inI; omega
/-- what is refuted has no starts -/
theorem ver_pos {n : Int} {l : List CArc} {p : Int} {s : List Int} (h : VerOk n l p s) : ¬ Pos l p := keeps_noP h.1.1.2.2 h.2.2.2
theorem ref_pos {n : Int} {l : List CArc} {p : Int} {c : List Int} (h : RefOk n l p c) : Pos l p := by
  obtain ⟨_, s, t, h1, h2⟩ := h
  obtain ⟨u, xs, k1, k2, k3, k4, k5, k6⟩ := exM_some h1
  exact ⟨u, xs, k2, by omega⟩
open Classical in
theorem m19 {n : Int} {a b : AV} {l : List CArc} {p : Int} {s : List Int} (ha : arcsOf a = some l) (hb : intsOf b = some s) : M19 [.int .i64 n, a, .int .i64 p, b] = some (.bool (decide (VerOk n l p s))) := by simp only [M19, ha, hb]
open Classical in
theorem m21 {n : Int} {a b : AV} {l : List CArc} {p : Int} {s : List Int} (ha : arcsOf a = some l) (hb : intsOf b = some s) : M21 [.int .i64 n, a, .int .i64 p, b] = some (.bool (decide (RefOk n l p s))) := by simp only [M21, ha, hb]

/-! ### starts that integers determine -/
def drawS (l : List Int) (i : Nat) : List Int := (List.range i).map fun j => if j < l.length then pick (l.getD j 0) 200 else 0
theorem drawS_succ (l : List Int) (i : Nat) : drawS l (i + 1) = drawS l i ++ [if i < l.length then pick (l.getD i 0) 200 else 0] := by
  unfold drawS; rw [List.range_succ, List.map_append]; rfl
set_option maxRecDepth 100000 in
theorem round5 (fuel : Nat) {A : Arena} {y : AV} {l : List Int} (hy : SlA 1 (intsA l) y) (hr : ∀ z ∈ l, inI z) (_hm : l.length ≤ 9223372036854775807) {n i : Nat} (hn : n ≤ 7) (hi : i < n) {v11 : AV} (hI : SlotG 1 A v11 (intsA (drawS l i))) (v5 v6 v7 v10 : AV) :
    ∃ A' v11', run (envOf GC fsN) fuel [.code lp5x0] (st5x0 (.int .i64 (n : Int)) y v5 v6 v7 v10 v11 (.int .i64 (i : Int))) A = some (.normal (st5x0 (.int .i64 (n : Int)) y v5 v6 v7 v10 v11' (.int .i64 ((i + 1 : Nat) : Int))) A') ∧ SlotG 1 A' v11' (intsA (drawS l (i + 1))) := by
  have hlen := hy.len
  rw [intsA_len] at hlen
  have b1 := lt_nat i n .i64
  rw [decide_eq_true hi] at b1
  have b2 := lt_nat i l.length .i64
  have b3 := add1_nat i (by omega)
  have hfy : ∀ A n, frz A n y = y := fun A n => hy.frz n
  obtain ⟨z, hz⟩ : ∃ z, z = if i < l.length then pick (l.getD i 0) 200 else 0 := ⟨_, rfl⟩
  obtain ⟨s', k, C, ap, c1, c2, c3, c4⟩ := hI.append (bytes := 8) (.int .i64 z) (by omega) (by omega) (by simp [intsA, drawS]; omega)
  obtain ⟨i1, hi1⟩ : ∃ i1 : Nat, i1 = i + 1 := ⟨_, rfl⟩
  rw [← hi1] at b3 ⊢
  refine ⟨C, .sl s' 0 k, ?_, ?_⟩
  · by_cases hil : i < l.length
    · rw [decide_eq_true hil] at b2
      rw [if_pos hil] at hz
      have x1 := hy.int (A := A) _ _ (List.getElem?_eq_getElem hil) .i64
      have m := M12_eq (hr _ (List.getElem_mem hil)) (show (0 : Int) < 200 by omega)
      have e : l.getD i 0 = l[i] := by rw [List.getD_eq_getElem?_getD, List.getElem?_eq_getElem hil]; rfl
      rw [e] at hz
      rw [← hz] at m
      simp [lp5x0, hlen, b1, b2, b3, x1, m, ap, -evBin, -evIndexSl, -evLenSl]
    · rw [decide_eq_false hil] at b2
      rw [if_neg hil] at hz
      rw [hz] at ap
      simp [lp5x0, hlen, b1, b2, b3, ap, -evBin, -evIndexSl, -evLenSl]
  · rw [hi1, drawS_succ, ← hz]
    have : intsA (drawS l i ++ [z]) = intsA (drawS l i) ++ [.int .i64 z] := by simp [intsA]
    rw [this]; exact c1
theorem loop5 (fuel : Nat) (hf : 10 < fuel) {A : Arena} {y : AV} {l : List Int} (hy : SlA 1 (intsA l) y) (hr : ∀ z ∈ l, inI z) (hm : l.length ≤ 9223372036854775807) {n : Nat} (hn : n ≤ 7) (v5 v6 v7 v10 : AV) :
    ∃ A' v11, SlotG 1 A' v11 (intsA (drawS l n)) ∧ iter (evC (envOf GC fsN) fuel lp5x0) mask5x0 fuel (st5x0 (.int .i64 (n : Int)) y v5 v6 v7 v10 .nilS (.int .i64 0)) A = some (.exit 0 ((st5x0 (.int .i64 (n : Int)) y v5 v6 v7 v10 v11 (.int .i64 (n : Int))).set 15 (.bool false)) A') := by
  obtain ⟨o, h1, A', v11, h2, h3⟩ := iter_inv (E := envOf GC fsN) (fuel := fuel) (a := lp5x0) (mask := mask5x0)
    (fun κ σ A => ∃ i v11, i + κ = n ∧ σ = st5x0 (.int .i64 (n : Int)) y v5 v6 v7 v10 v11 (.int .i64 (i : Int)) ∧ SlotG 1 A v11 (intsA (drawS l i)))
    (fun o => ∃ A' v11, SlotG 1 A' v11 (intsA (drawS l n)) ∧ o = .exit 0 ((st5x0 (.int .i64 (n : Int)) y v5 v6 v7 v10 v11 (.int .i64 (n : Int))).set 15 (.bool false)) A')
    (by
      rintro κ σ A ⟨i, v11, hik, rfl, hI⟩
      rw [cl5x0]
      by_cases hi : i < n
      · obtain ⟨A', v11', c1, c2⟩ := round5 fuel hy hr hm hn hi hI v5 v6 v7 v10
        exact .inl ⟨_, _, c1, κ - 1, by omega, i + 1, v11', by omega, rfl, c2⟩
      · obtain rfl : i = n := by omega
        refine .inr ⟨_, ?_, ?_, A, v11, hI, rfl⟩
        · simp [lp5x0]
        · intro _ _ h; cases h)
    fuel n (st5x0 (.int .i64 (n : Int)) y v5 v6 v7 v10 .nilS (.int .i64 0)) A (by omega) ⟨0, .nilS, by omega, rfl, .inl ⟨rfl, by simp [drawS, intsA]⟩⟩
  exact ⟨A', v11, h2, by rw [← h3]; exact h1⟩
theorem drawS_in (l : List Int) (n : Nat) : ∀ z ∈ drawS l n, inI z := fun z hz => by
  obtain ⟨j, _, rfl⟩ := List.mem_map.1 hz
  have := pick_range (l.getD j 0) 200 (by omega)
  split
  · unfold inI; omega
  · unfold inI; omega

open Classical in
set_option maxRecDepth 100000 in
set_option maxHeartbeats 4000000 in
theorem ev5 {x y : AV} {r : List R4} {ls : List Int} (hx : r4sOf x = some r) {n q : Int} (hn : inI n) (hq : inI q) (hy : SlA 1 (intsA ls) y) (hyr : ∀ z ∈ ls, inI z) (hym : ls.length ≤ 9223372036854775807) : evP (envOf GC fsN) 50 mf5 1 [.int .i64 n, x, .int .i64 q, y] = some (.bool true) := by
  have p7 := pick_range n 7 (by omega)
  have p80 := pick_range q 80 (by omega)
  have m1 := M12_eq hn (show (0 : Int) < 7 by omega)
  have m2 := M12_eq hq (show (0 : Int) < 80 by omega)
  have m3 := M12_eq hq (show (0 : Int) < 3 by omega)
  obtain ⟨n0, hn0⟩ : ∃ z, z = pick n 7 := ⟨_, rfl⟩
  obtain ⟨q0, hq0⟩ : ∃ z, z = pick q 80 := ⟨_, rfl⟩
  obtain ⟨c0, hc0⟩ : ∃ z, z = pick q 3 := ⟨_, rfl⟩
  rw [← hn0] at p7 m1
  rw [← hq0] at p80 m2
  rw [← hc0] at m3
  have b1 := add1_pick p7
  have b2 := evSub (a := q0) (b := 10) (by omega)
  have b3 := evGtr c0 0
  obtain ⟨n1, hn1⟩ : ∃ z : Nat, (z : Int) = 1 + n0 := ⟨(1 + n0).toNat, by omega⟩
  obtain ⟨p, hp⟩ : ∃ z, z = q0 - 10 := ⟨_, rfl⟩
  obtain ⟨d, hd⟩ : ∃ z, z = decide (c0 > 0) := ⟨_, rfl⟩
  rw [← hn1] at b1
  rw [← hp] at b2
  rw [← hd] at b3
  have hn32 : 1 ≤ (n1 : Int) ∧ (n1 : Int) ≤ 32 := by omega
  have m5 : M13 [x, .int .i64 (n1 : Int), .bool d] = some (slA 4 ((arcsD r n1 d).map arcA)) := by
    simp only [M13, hx, Option.map_some]; exact if_pos hn32.1
  have harg := arcsD_arg hn32 r d
  have hval := arcsD_valid hn32 r d
  obtain ⟨l, hl⟩ : ∃ l, l = arcsD r n1 d := ⟨_, rfl⟩
  rw [← hl] at m5 harg hval
  have hR : Ready n1 l p := ⟨hval, by unfold isPer; omega⟩
  have v1 := fun h A => H14_eq h (A := A) (frz_slA A 4 4 (l.map arcA)) harg n1 p
  simp only [lvT_form] at v1
  have hfx : ∀ A, frz A 4 x = x := fun A => (r4sOf_some hx).1.frz 4
  have hnT : ∀ k, noRefB k (slA 4 (l.map arcA)) = true := fun k => noRef_slA k 4 _
  have hfT : ∀ A k, frz A k (slA 4 (l.map arcA)) = slA 4 (l.map arcA) := fun A k => frz_slA A k 4 _
  have hfS : ∀ (xs : List Int) A k, frz A k (slA 1 (intsA xs)) = slA 1 (intsA xs) := fun xs A k => frz_slA A k 1 _
  obtain ⟨T, hT⟩ : ∃ T, T = slA 4 (l.map arcA) := ⟨_, rfl⟩
  rw [← hT] at m5 v1 harg hnT hfT
  obtain ⟨A', v11, hS, lp⟩ := loop5 50 (by omega) (A := []) hy hyr hym (show n1 ≤ 7 by omega) (.bool true) (.int .i64 p) T (.bool (lvM n1 l p).2.2)
  have hSf := hS.frz 3 (fun z hz => by obtain ⟨w, _, rfl⟩ := List.mem_map.1 hz; rfl)
  have mS := m19 (n := n1) (p := p) harg (intsOf_sl (xs := drawS ls n1) (by simp [drawS]; omega) (drawS_in ls n1))
  rw [evP_run _ _ rfl]
  cases hok : (lvM n1 l p).2.2 with
  | true =>
    obtain ⟨e1, e2, _, _⟩ := lv_starts hR hok
    have hin := ver_in e2
    have k1 := m19 (n := n1) (p := p) harg (intsOf_sl (xs := (lvM n1 l p).1) (by omega) hin.2)
    have k2 := m21 (n := n1) (p := p) harg (intsOf_sl (xs := (lvM n1 l p).2.1) (by rw [e1]; simp) (by rw [e1]; simp))
    rw [decide_eq_true e2] at k1
    rw [decide_eq_false (show ¬ RefOk n1 l p (lvM n1 l p).2.1 from fun h => ver_pos e2 (ref_pos h))] at k2
    rw [hok] at v1 lp
    have f1 := hfS (lvM n1 l p).1
    have f2 := hfS (lvM n1 l p).2.1
    obtain ⟨S, hS1⟩ : ∃ S, S = slA 1 (intsA (lvM n1 l p).1) := ⟨_, rfl⟩
    obtain ⟨C, hC1⟩ : ∃ S, S = slA 1 (intsA (lvM n1 l p).2.1) := ⟨_, rfl⟩
    rw [← hS1, ← hC1] at v1
    rw [← hS1] at k1 f1
    rw [← hC1] at k2 f2
    simp [mf5, m1, m2, m3, m5, b1, b2, b3, v1, k1, k2, hfx, hfT, f1, f2, frz_i, frz_b, scalarB, go5x0 lp, -frz, -evBin]
  | false =>
    obtain ⟨e1, e2, e3, e4⟩ := lv_cycle hR hok
    have k1 := m19 (n := n1) (p := p) harg (intsOf_sl (xs := (lvM n1 l p).1) (by rw [e1]; simp) (by rw [e1]; simp))
    have k2 := m21 (n := n1) (p := p) harg (intsOf_sl (xs := (lvM n1 l p).2.1) (by omega) e4)
    have hnv : ∀ s, ¬ VerOk n1 l p s := fun s h => ver_pos h (ref_pos e2)
    rw [decide_eq_false (hnv _)] at k1 mS
    rw [decide_eq_true e2] at k2
    rw [hok] at v1 lp
    have f1 := hfS (lvM n1 l p).1
    have f2 := hfS (lvM n1 l p).2.1
    have f3 := hfS (drawS ls n1)
    obtain ⟨S, hS1⟩ : ∃ S, S = slA 1 (intsA (lvM n1 l p).1) := ⟨_, rfl⟩
    obtain ⟨C, hC1⟩ : ∃ S, S = slA 1 (intsA (lvM n1 l p).2.1) := ⟨_, rfl⟩
    obtain ⟨D, hD1⟩ : ∃ S, S = slA 1 (intsA (drawS ls n1)) := ⟨_, rfl⟩
    rw [← hS1, ← hC1] at v1
    rw [← hS1] at k1 f1
    rw [← hC1] at k2 f2
    rw [← hD1] at mS hSf f3
    simp [mf5, m1, m2, m3, m5, b1, b2, b3, v1, k1, k2, mS, hSf, hfx, hfT, f1, f2, frz_i, frz_b, scalarB, go5x0 lp, -frz, -evBin]
theorem ev5L (args : List AV) (h : LawArgs Try.prog 8 Try.f5.params.toList args) : ∃ fuel, evP (envOf GC fsN) fuel mf5 1 args = some (.bool true) := by
  rw [Try.params5] at h
  obtain ⟨a, r, rfl, h0, h⟩ := h.cons
  obtain ⟨b, r, rfl, h1, h⟩ := h.cons
  obtain ⟨c, r, rfl, h2, h⟩ := h.cons
  obtain ⟨d, r, rfl, h3, h⟩ := h.cons
  obtain rfl := h.nil
  obtain ⟨n, rfl, hn⟩ := TA.i64 Try.underlying3 h0
  obtain ⟨r, hr⟩ := r4s_arg (n := 5) h1
  obtain ⟨q, rfl, hq⟩ := TA.i64 Try.underlying3 h2
  obtain ⟨ls, hy, hym, hyr⟩ := TA.ints Try.underlying24 Try.underlying3 (by kernel_rfl) h3
  exact ⟨50, ev5 hr hn hq hy hyr hym⟩
end Go.Proofs.Ytfmlfekcdbfioaa
