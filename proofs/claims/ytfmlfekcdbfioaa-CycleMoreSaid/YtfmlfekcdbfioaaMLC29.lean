/-
  Cycle: the law CycleMore, run.
-/
import Derived.Test.YtfmlfekcdbfioaaMLC25
namespace Go.Proofs.Ytfmlfekcdbfioaa
open Go

/-- fewer arcs: the same starts keep them -/
theorem ver_sub {n : Int} {l l' : List CArc} {p : Int} {s : List Int} (hR : Ready n l p) (hsub : ∀ a ∈ l, a ∈ l') (h : VerOk n l' p s) : VerOk n l p s := by
  obtain ⟨h1, h2, h3, h4⟩ := h
  refine ⟨hR, h2, h3, fun a ha => ?_⟩
  obtain ⟨c, hc, rfl⟩ := List.mem_map.1 ha
  exact h4 _ (List.mem_map.2 ⟨c, hsub c hc, rfl⟩)
theorem lv_sub {n : Int} {l l' : List CArc} {p : Int} (hR : Ready n l p) (hR' : Ready n l' p) (hsub : ∀ a ∈ l, a ∈ l') (h : (lvM n l' p).2.2 = true) : (lvM n l p).2.2 = true ∧ ∀ v : Nat, (v : Int) < n → (lvM n l p).1.getD v 0 ≤ (lvM n l' p).1.getD v 0 := by
  have h1 := (lv_starts hR' h).2.1
  have h2 := ver_sub hR hsub h1
  have h3 := (lv_ok hR).2 (ver_pos h2)
  exact ⟨h3, fun v hv => (lv_starts hR h3).2.2.2 _ h2 v hv⟩
theorem lv_same {n : Int} {l l' : List CArc} {p : Int} (hR : Ready n l p) (hR' : Ready n l' p) (h1 : ∀ a ∈ l, a ∈ l') (h2 : ∀ a ∈ l', a ∈ l) : (lvM n l p).2.2 = (lvM n l' p).2.2 ∧ (lvM n l p).1 = (lvM n l' p).1 := by
  cases h : (lvM n l p).2.2 with
  | true =>
    obtain ⟨k1, k2⟩ := lv_sub hR' hR h2 h
    obtain ⟨k3, k4⟩ := lv_sub hR hR' h1 k1
    refine ⟨k1.symm, ?_⟩
    have g1 := (lv_starts hR h).2.1.2.1
    have g2 := (lv_starts hR' k1).2.1.2.1
    refine List.ext_getElem (by omega) fun i i1 i2 => ?_
    have a1 := k2 i (by omega)
    have a2 := k4 i (by omega)
    have e1 : (lvM n l p).1.getD i 0 = (lvM n l p).1[i] := by rw [List.getD_eq_getElem?_getD, List.getElem?_eq_getElem i1]; rfl
    have e2 : (lvM n l' p).1.getD i 0 = (lvM n l' p).1[i] := by rw [List.getD_eq_getElem?_getD, List.getElem?_eq_getElem i2]; rfl
    omega
  | false =>
    have h' : (lvM n l' p).2.2 = false := by
      cases h3 : (lvM n l' p).2.2 with
      | false => rfl
      | true =>
        have := (lv_sub hR hR' h1 h3).1
        rw [h] at this; cases this
    exact ⟨h'.symm, by rw [(lv_cycle hR h).1, (lv_cycle hR' h').1]⟩
set_option maxRecDepth 100000 in
theorem round7 (fuel : Nat) {A : Arena} {l : List CArc} {T : AV} (hT : arcsOf T = some l) (hl : l.length ≤ 20) {i : Nat} (hi : i < l.length) {v9 : AV} (hI : SlotG 4 A v9 ((l.reverse.take (l.length - 1 - i)).map arcA)) (v0 v5 v6 v8 : AV) :
    ∃ A' v9', run (envOf GC fsN) fuel [.code lp7x0] (st7x0 v0 v5 v6 T v8 v9 (.int .i64 (i : Int))) A = some (.normal (st7x0 v0 v5 v6 T v8 v9' (.int .i64 ((i : Int) - 1))) A') ∧ SlotG 4 A' v9' ((l.reverse.take (l.length - i)).map arcA) ∧ A.length ≤ A'.length ∧ (∀ j, j < A.length → j ∉ idsOf v9 → A'[j]? = A[j]?) ∧ ∀ j, j ∈ idsOf v9' → j ∈ idsOf v9 ∨ j = A.length := by
  have x1 := arcsOf_at hT hi A .i64
  have b1 := geq0 (i : Int)
  rw [decide_eq_true (by omega)] at b1
  have b2 := evSub (a := (i : Int)) (b := 1) (by omega)
  obtain ⟨s', k, C, ap, c1, c2, c3, c4⟩ := hI.append (bytes := 32) (arcA l[i]) (by omega) (by omega) (by simp; omega)
  refine ⟨C, .sl s' 0 k, ?_, ?_, c2, c3, fun j hj => by
    simp only [idsOf, List.mem_singleton] at hj
    rw [hj]; exact c4⟩
  · obtain ⟨i1, hi1⟩ : ∃ i1, i1 = (i : Int) - 1 := ⟨_, rfl⟩
    rw [← hi1] at b2 ⊢
    unfold arcA at ap
    simp [lp7x0, b1, b2, x1, ap, -evBin, -evIndexSl]
  · have hlt : l.length - 1 - i < l.reverse.length := by simp; omega
    have e : l.reverse.take (l.length - i) = l.reverse.take (l.length - 1 - i) ++ [l[i]] := by
      rw [show l.length - i = (l.length - 1 - i) + 1 by omega, List.take_succ_eq_append_getElem hlt]
      congr 2
      rw [List.getElem_reverse]
      congr 1; omega
    rw [e, List.map_append]; exact c1
theorem loop7 (fuel : Nat) (hf : 30 < fuel) {A0 : Arena} {l : List CArc} {T : AV} (hT : arcsOf T = some l) (hl : l.length ≤ 20) (v0 v5 v6 v8 : AV) :
    ∃ A' v9, SlotG 4 A' v9 (l.reverse.map arcA) ∧ (∀ j, j < A0.length → A'[j]? = A0[j]?) ∧ iter (evC (envOf GC fsN) fuel lp7x0) mask7x0 fuel (st7x0 v0 v5 v6 T v8 .nilS (.int .i64 ((l.length : Int) - 1))) A0 = some (.exit 0 ((st7x0 v0 v5 v6 T v8 v9 (.int .i64 (-1))).set 18 (.bool false)) A') := by
  obtain ⟨o, h1, A', v9, h2, h3, h4⟩ := iter_inv (E := envOf GC fsN) (fuel := fuel) (a := lp7x0) (mask := mask7x0)
    (fun κ σ A => ∃ v9, κ ≤ l.length ∧ σ = st7x0 v0 v5 v6 T v8 v9 (.int .i64 ((κ : Int) - 1)) ∧ SlotG 4 A v9 ((l.reverse.take (l.length - κ)).map arcA) ∧ (∀ j, j < A0.length → A[j]? = A0[j]?) ∧ A0.length ≤ A.length ∧ ∀ j, j ∈ idsOf v9 → A0.length ≤ j)
    (fun o => ∃ A' v9, SlotG 4 A' v9 (l.reverse.map arcA) ∧ (∀ j, j < A0.length → A'[j]? = A0[j]?) ∧ o = .exit 0 ((st7x0 v0 v5 v6 T v8 v9 (.int .i64 (-1))).set 18 (.bool false)) A')
    (by
      rintro κ σ A ⟨v9, hk, rfl, hI, hA, hA2, hids⟩
      rw [cl7x0]
      cases κ with
      | succ κ =>
        have e : ((κ + 1 : Nat) : Int) - 1 = (κ : Int) := by omega
        rw [e]
        obtain ⟨A', v9', c1, c2, c3, c4, c5⟩ := round7 fuel hT hl (show κ < l.length by omega) (by rw [show l.length - 1 - κ = l.length - (κ + 1) by omega]; exact hI) v0 v5 v6 v8
        refine .inl ⟨_, _, c1, κ, by omega, v9', by omega, rfl, c2, fun j hj => ?_, by omega, fun j hj => ?_⟩
        · rw [c4 j (by omega) (fun h => by have := hids j h; omega), hA j hj]
        · rcases c5 j hj with h | h
          · exact hids j h
          · omega
      | zero =>
        have b1 := geq0 (-1)
        rw [decide_eq_false (by omega)] at b1
        rw [Nat.sub_zero, List.take_of_length_le (by simp)] at hI
        refine .inr ⟨_, ?_, ?_, A, v9, hI, hA, rfl⟩
        · simp [lp7x0, b1, -evBin]
        · intro _ _ h; cases h)
    fuel l.length (st7x0 v0 v5 v6 T v8 .nilS (.int .i64 ((l.length : Int) - 1))) A0 (by omega) ⟨.nilS, by omega, rfl, .inl ⟨rfl, by simp⟩, fun _ _ => rfl, Nat.le_refl _, fun j hj => by simp [idsOf] at hj⟩
  exact ⟨A', v9, h2, h3, by rw [← h4]; exact h1⟩
set_option maxRecDepth 100000 in
theorem round7b (fuel : Nat) (A : Arena) {s t : List Int} {n : Nat} {S T : AV} (hS : SlA 1 (intsA s) S) (hT : SlA 1 (intsA t) T) (hsl : s.length = n) (htl : t.length = n) (hn : n ≤ 7) {i : Nat} (hi : i < n) (hle : s.getD i 0 ≤ t.getD i 0) (v5 : AV) :
    run (envOf GC fsN) fuel [.code lp7x1] (st7x1 (.int .i64 (n : Int)) v5 S T (.int .i64 (i : Int))) A = some (.normal (st7x1 (.int .i64 (n : Int)) v5 S T (.int .i64 ((i + 1 : Nat) : Int))) A) := by
  have b1 := lt_nat i n .i64
  rw [decide_eq_true hi] at b1
  have b3 := add1_nat i (by omega)
  have x1 := hS.int (A := A) _ _ (List.getElem?_eq_getElem (show i < s.length by omega)) .i64
  have x2 := hT.int (A := A) _ _ (List.getElem?_eq_getElem (show i < t.length by omega)) .i64
  have hg1 : s.getD i 0 = s[i] := by rw [List.getD_eq_getElem?_getD, List.getElem?_eq_getElem (by omega)]; rfl
  have hg2 : t.getD i 0 = t[i] := by rw [List.getD_eq_getElem?_getD, List.getElem?_eq_getElem (by omega)]; rfl
  rw [← hg1] at x1
  rw [← hg2] at x2
  have b2 := evLss (t.getD i 0) (s.getD i 0)
  rw [decide_eq_false (by omega)] at b2
  obtain ⟨z, hz⟩ : ∃ z, z = s.getD i 0 := ⟨_, rfl⟩
  obtain ⟨y, hy⟩ : ∃ z, z = t.getD i 0 := ⟨_, rfl⟩
  rw [← hz] at x1 b2
  rw [← hy] at x2 b2
  obtain ⟨i1, hi1⟩ : ∃ i1 : Nat, i1 = i + 1 := ⟨_, rfl⟩
  rw [← hi1] at b3 ⊢
  simp [lp7x1, b1, b2, b3, x1, x2, -evBin, -evIndexSl]
/-- two lists of arcs, one behind the other -/
theorem app2 {Y X : AV} {ys xs : List AV} (hY : SlA 4 ys Y) (hX : SlA 4 xs X) (hy : ys.length ≤ 20) (hx : xs.length ≤ 20) :
    ∃ i k A1 A2, evAppend 4 32 [.row 4 false []] (.sl 0 0 0) Y = some (.sl 1 0 ys.length, A1) ∧ evAppend 4 32 A1 (.sl 1 0 ys.length) X = some (.sl i 0 k, A2) ∧ k = (ys ++ xs).length ∧ ∃ gr, A2[i]? = some (.row 4 gr (ys ++ xs)) := by
  have s1 : ∀ A, srcElems 4 A Y = some ys := fun A => hY.src
  have s2 : ∀ A, srcElems 4 A X = some xs := fun A => hX.src
  have e1 : evAppend 4 32 [.row 4 false []] (.sl 0 0 0) Y = some (.sl 1 0 ys.length, [.dead, .row 4 false ys]) := by
    simp [evAppend, s1]; omega
  by_cases h : ys.length = 0
  · refine ⟨2, xs.length, _, [.dead, .dead, .row 4 false xs], e1, ?_, by simp [h], false, ?_⟩
    · have : ys = [] := List.length_eq_zero_iff.1 h
      subst this
      simp [evAppend, s2]; omega
    · have : ys = [] := List.length_eq_zero_iff.1 h
      subst this; rfl
  · refine ⟨1, ys.length + xs.length, _, [.dead, .row 4 true (ys ++ xs)], e1, ?_, by simp, true, rfl⟩
    have : ys ≠ [] := fun e => h (by rw [e]; rfl)
    simp [evAppend, s2, this]; omega
set_option maxRecDepth 100000 in
set_option maxHeartbeats 4000000 in
theorem ev7 {x y : AV} {r r' : List R4} (hx : r4sOf x = some r) (hy : r4sOf y = some r') {n q : Int} (hn : inI n) (hq : inI q) : evP (envOf GC fsN) 50 mf7 1 [.int .i64 n, x, y, .int .i64 q] = some (.bool true) := by
  have p7 := pick_range n 7 (by omega)
  have p80 := pick_range q 80 (by omega)
  have m1 := M12_eq hn (show (0 : Int) < 7 by omega)
  have m2 := M12_eq hq (show (0 : Int) < 80 by omega)
  have m3 := M12_eq hq (show (0 : Int) < 3 by omega)
  obtain ⟨n0, hn0⟩ : ∃ z, z = pick n 7 := ⟨_, rfl⟩
  obtain ⟨q0, hq0⟩ : ∃ z, z = pick q 80 := ⟨_, rfl⟩
  obtain ⟨c0, hc0⟩ : ∃ z, z = pick q 3 := ⟨_, rfl⟩
  rw [← hn0] at p7 m1
  rw [← hq0] at p80 m2
  rw [← hc0] at m3
  have b1 := add1_pick p7
  have b2 := evSub (a := q0) (b := 10) (by omega)
  have b3 := evGtr c0 0
  obtain ⟨n1, hn1⟩ : ∃ z : Nat, (z : Int) = 1 + n0 := ⟨(1 + n0).toNat, by omega⟩
  obtain ⟨p, hp⟩ : ∃ z, z = q0 - 10 := ⟨_, rfl⟩
  obtain ⟨d, hd⟩ : ∃ z, z = decide (c0 > 0) := ⟨_, rfl⟩
  rw [← hn1] at b1
  rw [← hp] at b2
  rw [← hd] at b3
  have hn32 : 1 ≤ (n1 : Int) ∧ (n1 : Int) ≤ 32 := by omega
  have m5 : M13 [x, .int .i64 (n1 : Int), .bool d] = some (slA 4 ((arcsD r n1 d).map arcA)) := by
    simp only [M13, hx, Option.map_some]; exact if_pos hn32.1
  have m6 : M13 [y, .int .i64 (n1 : Int), .bool d] = some (slA 4 ((arcsD r' n1 d).map arcA)) := by
    simp only [M13, hy, Option.map_some]; exact if_pos hn32.1
  have harg := arcsD_arg hn32 r d
  have hval := arcsD_valid hn32 r d
  have hval' := arcsD_valid hn32 r' d
  have hl20 : (arcsD r n1 d).length ≤ 20 := by simp [arcsD]; omega
  have hl20' : (arcsD r' n1 d).length ≤ 20 := by simp [arcsD]; omega
  obtain ⟨l, hl⟩ : ∃ l, l = arcsD r n1 d := ⟨_, rfl⟩
  obtain ⟨l', hl'⟩ : ∃ l, l = arcsD r' n1 d := ⟨_, rfl⟩
  rw [← hl] at m5 harg hval hl20
  rw [← hl'] at m6 hval' hl20'
  have hper : isPer p := by unfold isPer; omega
  have hR : Ready n1 l p := ⟨hval, hper⟩
  have hRb : Ready n1 (l' ++ l) p := ⟨⟨hn32, by simp; omega, fun a ha => by
    rcases List.mem_append.1 ha with h | h
    · exact hval'.2.2 a h
    · exact hval.2.2 a h⟩, hper⟩
  have hRr : Ready n1 l.reverse p := ⟨⟨hn32, by simp; omega, fun a ha => hval.2.2 a (List.mem_reverse.1 ha)⟩, hper⟩
  have hTl := slA_holds 4 (l.map arcA)
  have hYl := slA_holds 4 (l'.map arcA)
  obtain ⟨i, k, A1, A2, ap1, ap2, hk, gr, hrow⟩ := app2 hYl hTl (by simpa using hl20') (by simpa using hl20)
  have hlen := hTl.len
  simp only [List.length_map] at hlen ap1 ap2
  have b4 := evSub (a := (l.length : Int)) (b := 1) (by omega)
  obtain ⟨A3, v9, h9, hA3, lp⟩ := loop7 50 (by omega) (A0 := A2) harg hl20 (.int .i64 (n1 : Int)) (.bool true) (.int .i64 p) (.sl i 0 k)
  have hil := (List.getElem?_eq_some_iff.1 hrow).1
  have hrow3 := (hA3 i hil).trans hrow
  have fzA : ∀ (B : Arena) (cs : List CArc), (cs.map arcA).map (frz B 3) = cs.map arcA := fun B cs => by
    rw [List.map_map]; apply List.map_congr_left; intro a _; rfl
  have f1 : frz A3 4 (slA 4 (l.map arcA)) = slA 4 (l.map arcA) := frz_slA A3 4 4 _
  have f2 : frz A3 4 (.sl i 0 k) = .fs 4 ((l' ++ l).map arcA) := by
    show frz A3 (3 + 1) _ = _
    simp only [frz, hrow3, List.drop_zero]
    rw [List.take_of_length_le (by omega), ← List.map_append, fzA]
  have f3 : frz A3 4 v9 = slA 4 (l.reverse.map arcA) := h9.frz 3 (fun a ha => by obtain ⟨c, _, rfl⟩ := List.mem_map.1 ha; rfl)
  have hargb : arcsOf (.fs 4 ((l' ++ l).map arcA)) = some (l' ++ l) := arcsOf_of (.inr rfl) (by simp; omega) fun a ha => okA_in hn32.2 (hRb.1.2.2 a ha)
  have hargr : arcsOf (slA 4 (l.reverse.map arcA)) = some l.reverse := arcsOf_slA (by simp; omega) fun a ha => okA_in hn32.2 (hRr.1.2.2 a ha)
  have v1 := fun h => H14_eq h (A := A3) f1 harg n1 p
  have v2 := fun h => H14_eq h (A := A3) f2 hargb n1 p
  have v3 := fun h => H14_eq h (A := A3) f3 hargr n1 p
  obtain ⟨w1, w2⟩ := lv_same hR hRr (fun a ha => List.mem_reverse.2 ha) (fun a ha => List.mem_reverse.1 ha)
  simp only [lvT_form] at v1 v2 v3
  rw [← w1, ← w2] at v3
  have hfx : ∀ A, frz A 4 x = x := fun A => (r4sOf_some hx).1.frz 4
  have hfy : ∀ A, frz A 4 y = y := fun A => (r4sOf_some hy).1.frz 4
  have hfS : ∀ (xs : List Int) A k, frz A k (slA 1 (intsA xs)) = slA 1 (intsA xs) := fun xs A k => frz_slA A k 1 _
  -- what is compared
  have hins : (lvM n1 l p).1.length ≤ 32 ∧ ∀ z ∈ (lvM n1 l p).1, inI z := by
    cases h : (lvM n1 l p).2.2 with
    | true => exact ver_in (lv_starts hR h).2.1
    | false => rw [(lv_cycle hR h).1]; simp
  have k1 : M18 [slA 1 (intsA (lvM n1 l p).1), slA 1 (intsA (lvM n1 l p).1)] = some (.bool true) := by
    simp only [M18, intsOf_sl (xs := (lvM n1 l p).1) (by omega) hins.2]; simp
  have g1 := hfS (lvM n1 l p).1
  obtain ⟨C1, hC1⟩ : ∃ S, S = slA 1 (intsA (lvM n1 l p).2.1) := ⟨_, rfl⟩
  obtain ⟨C2, hC2⟩ : ∃ S, S = slA 1 (intsA (lvM n1 (l' ++ l) p).2.1) := ⟨_, rfl⟩
  obtain ⟨C3, hC3⟩ : ∃ S, S = slA 1 (intsA (lvM n1 l.reverse p).2.1) := ⟨_, rfl⟩
  rw [← hC1] at v1
  rw [← hC2] at v2
  rw [← hC3] at v3
  have b5 : ∀ b : Bool, evBin .neq (.int .i64 (n1 : Int)) (.int .i64 (n1 : Int)) = some (.bool false) := fun _ => by
    rw [evNeq, decide_eq_false (by simp)]
  have hl1 := (slA_holds 1 (intsA (lvM n1 l p).1))
  have hl2 := (slA_holds 1 (intsA (lvM n1 (l' ++ l) p).1))
  have len1 := hl1.len
  have len2 := hl2.len
  rw [intsA_len] at len1 len2
  obtain ⟨kk, hkk⟩ : ∃ kk, kk = (l.length : Int) - 1 := ⟨_, rfl⟩
  rw [← hkk] at b4 lp
  rw [evP_run _ _ rfl]
  cases h2 : (lvM n1 (l' ++ l) p).2.2 with
  | false =>
    rw [h2] at v2
    obtain ⟨S1, hS1⟩ : ∃ S, S = slA 1 (intsA (lvM n1 l p).1) := ⟨_, rfl⟩
    obtain ⟨S2, hS2⟩ : ∃ S, S = slA 1 (intsA (lvM n1 (l' ++ l) p).1) := ⟨_, rfl⟩
    rw [← hS1] at v1 v3 k1 g1
    rw [← hS2] at v2
    obtain ⟨T, hT⟩ : ∃ T, T = slA 4 (l.map arcA) := ⟨_, rfl⟩
    obtain ⟨Y, hY⟩ : ∃ T, T = slA 4 (l'.map arcA) := ⟨_, rfl⟩
    rw [← hT] at m5 v1 lp ap2 hlen
    rw [← hY] at m6 ap1
    cases h1 : (lvM n1 l p).2.2 with
    | false =>
      rw [h1] at v1 v3
      simp [mf7, m1, m2, m3, m5, m6, b1, b2, b3, b4, ap1, ap2, hlen, go7x0 lp, v1, v2, v3, k1, g1, hfx, hfy, frz_i, frz_b, scalarB, -frz, -evBin, -evLenSl]
    | true =>
      rw [h1] at v1 v3
      simp [mf7, m1, m2, m3, m5, m6, b1, b2, b3, b4, ap1, ap2, hlen, go7x0 lp, v1, v2, v3, k1, g1, hfx, hfy, frz_i, frz_b, scalarB, -frz, -evBin, -evLenSl]
  | true =>
    obtain ⟨h1, hle⟩ := lv_sub hR hRb (fun a ha => List.mem_append.2 (.inr ha)) h2
    rw [h1] at v1 v3
    rw [h2] at v2
    have n1e := (lv_starts hR h1).2.1.2.1
    have n2e := (lv_starts hRb h2).2.1.2.1
    rw [n1e] at len1
    rw [n2e] at len2
    have lp2 := iter_up (E := envOf GC fsN) (fuel := 50) (a := lp7x1) (mask := mask7x1) (fun i => st7x1 (.int .i64 (n1 : Int)) (.bool true) (slA 1 (intsA (lvM n1 l p).1)) (slA 1 (intsA (lvM n1 (l' ++ l) p).1)) (.int .i64 (i : Int))) (fun _ => A3) n1
      (o := .exit 2 ((st7x1 (.int .i64 (n1 : Int)) (.bool true) (slA 1 (intsA (lvM n1 l p).1)) (slA 1 (intsA (lvM n1 (l' ++ l) p).1)) (.int .i64 (n1 : Int))).set 22 (.bool false)) A3)
      (fun _ => cl7x1) (fun _ _ h => by cases h) (fun i hi => round7b 50 A3 hl1 hl2 (by omega) (by omega) (by omega) hi (hle i (by omega)) _) (by simp [lp7x1]) (show n1 < 50 by omega)
    have lp2 : iter (evC (envOf GC fsN) 50 lp7x1) mask7x1 50 (st7x1 (.int .i64 (n1 : Int)) (.bool true) (slA 1 (intsA (lvM n1 l p).1)) (slA 1 (intsA (lvM n1 (l' ++ l) p).1)) (.int .i64 0)) A3 = _ := lp2
    have b6 := b5 true
    obtain ⟨S1, hS1⟩ : ∃ S, S = slA 1 (intsA (lvM n1 l p).1) := ⟨_, rfl⟩
    obtain ⟨S2, hS2⟩ : ∃ S, S = slA 1 (intsA (lvM n1 (l' ++ l) p).1) := ⟨_, rfl⟩
    rw [← hS1] at v1 v3 k1 g1 len1 lp2
    rw [← hS2] at v2 len2 lp2
    obtain ⟨T, hT⟩ : ∃ T, T = slA 4 (l.map arcA) := ⟨_, rfl⟩
    obtain ⟨Y, hY⟩ : ∃ T, T = slA 4 (l'.map arcA) := ⟨_, rfl⟩
    rw [← hT] at m5 v1 lp ap2 hlen
    rw [← hY] at m6 ap1
    simp [mf7, m1, m2, m3, m5, m6, b1, b2, b3, b4, b6, ap1, ap2, hlen, go7x0 lp, v1, v2, v3, k1, g1, len1, len2, go7x1 lp2, hfx, hfy, frz_i, frz_b, scalarB, -frz, -evBin, -evLenSl]
theorem ev7L (args : List AV) (h : LawArgs Try.prog 8 Try.f7.params.toList args) : ∃ fuel, evP (envOf GC fsN) fuel mf7 1 args = some (.bool true) := by
  rw [Try.params7] at h
  obtain ⟨a, r, rfl, h0, h⟩ := h.cons
  obtain ⟨b, r, rfl, h1, h⟩ := h.cons
  obtain ⟨c, r, rfl, h2, h⟩ := h.cons
  obtain ⟨d, r, rfl, h3, h⟩ := h.cons
  obtain rfl := h.nil
  obtain ⟨n, rfl, hn⟩ := TA.i64 Try.underlying3 h0
  obtain ⟨r, hr⟩ := r4s_arg (n := 5) h1
  obtain ⟨r', hr'⟩ := r4s_arg (n := 5) h2
  obtain ⟨q, rfl, hq⟩ := TA.i64 Try.underlying3 h3
  exact ⟨50, ev7 hr hr' hn hq⟩
end Go.Proofs.Ytfmlfekcdbfioaa
