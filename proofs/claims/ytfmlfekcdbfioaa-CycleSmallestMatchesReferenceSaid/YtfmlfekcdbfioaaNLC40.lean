/-
  Cycle: the law CycleMatchesReference, run.
-/
import Derived.Test.YtfmlfekcdbfioaaN06
namespace Go.Proofs.Ytfmlfekcdbfioaa
open Go

noncomputable def fsR : List (FuncId × HModel) := [(11, pureH 4 M11), (12, pureH 4 M12), (13, pureFH 4 M13), (14, H14), (15, pureH 4 M15), (16, pureH 4 M16), (17, pureH 4 M16), (18, pureH 4 M18), (19, pureH 4 M19), (20, pureH 4 M19), (21, pureH 4 M21), (22, pureH 4 M21), (23, pureH 4 M23), (24, pureH 4 M23)]
@[simp] theorem fsR_11 : lookM fsR 11 = some (pureH 4 M11) := rfl
@[simp] theorem fsR_12 : lookM fsR 12 = some (pureH 4 M12) := rfl
@[simp] theorem fsR_13 : lookM fsR 13 = some (pureFH 4 M13) := rfl
@[simp] theorem fsR_14 : lookM fsR 14 = some H14 := rfl
@[simp] theorem fsR_15 : lookM fsR 15 = some (pureH 4 M15) := rfl
@[simp] theorem fsR_16 : lookM fsR 16 = some (pureH 4 M16) := rfl
@[simp] theorem fsR_17 : lookM fsR 17 = some (pureH 4 M16) := rfl
@[simp] theorem fsR_18 : lookM fsR 18 = some (pureH 4 M18) := rfl
@[simp] theorem fsR_19 : lookM fsR 19 = some (pureH 4 M19) := rfl
@[simp] theorem fsR_20 : lookM fsR 20 = some (pureH 4 M19) := rfl
@[simp] theorem fsR_21 : lookM fsR 21 = some (pureH 4 M21) := rfl
@[simp] theorem fsR_22 : lookM fsR 22 = some (pureH 4 M21) := rfl
@[simp] theorem fsR_23 : lookM fsR 23 = some (pureH 4 M23) := rfl
@[simp] theorem fsR_24 : lookM fsR 24 = some (pureH 4 M23) := rfl
theorem soundR : ∀ f M, lookM fsR f = some M → FnSpecY Try.prog GC f M := lookM_cons (FnSpecY.of_pure spec11 4) (lookM_cons (FnSpecY.of_pure spec12 4) (lookM_cons (FnSpecY.of_pureF spec13F 4) (lookM_cons spec14 (lookM_cons (FnSpecY.of_pure spec15 4) (lookM_cons (FnSpecY.of_pure spec16 4) (lookM_cons (FnSpecY.of_pure spec17 4) (lookM_cons (FnSpecY.of_pure spec18 4) (lookM_cons (FnSpecY.of_pure spec19 4) (lookM_cons (FnSpecY.of_pure spec20 4) (lookM_cons (FnSpecY.of_pure spec21 4) (lookM_cons (FnSpecY.of_pure spec22 4) (lookM_cons (FnSpecY.of_pure spec23 4) (lookM_cons (FnSpecY.of_pure spec24 4) lookM_nil)))))))))))))
theorem lv_in (n : Int) (l : List CArc) (p : Int) : intsOf (slA 1 (intsA (lvM n l p).1)) = some (lvM n l p).1 ∧ intsOf (slA 1 (intsA (lvM n l p).2.1)) = some (lvM n l p).2.1 := by
  by_cases hr : Ready n l p
  rotate_left
  · have e : lvM n l p = ([], [], false) := if_neg hr
    rw [e]
    exact ⟨intsOf_sl (by simp) (by simp), intsOf_sl (by simp) (by simp)⟩
  cases h : (lvM n l p).2.2 with
  | true =>
    obtain ⟨e1, e2, _, _⟩ := lv_starts hr h
    have hin := ver_in e2
    exact ⟨intsOf_sl (by omega) hin.2, intsOf_sl (by rw [e1]; simp) (by rw [e1]; simp)⟩
  | false =>
    obtain ⟨e1, e2, e3, e4⟩ := lv_cycle hr h
    exact ⟨intsOf_sl (by rw [e1]; simp) (by rw [e1]; simp), intsOf_sl (by omega) e4⟩
theorem M18_same {a : AV} {xs : List Int} (h : intsOf a = some xs) : M18 [a, a] = some (.bool true) := by simp only [M18, h, decide_true]
open Classical in
set_option maxRecDepth 100000 in
set_option maxHeartbeats 4000000 in
theorem round3n (fuel : Nat) {A : Arena} {a b : AV} {l : List CArc} {t : List Int} (ha : arcsOf a = some l) (hb : intsOf b = some t) {r i : Nat} {es : List AV} (hrow : A[r]? = some (.row 1 false es)) (hi : i < 2) {n : Int} (he : es[i]? = some (.int .i64 n)) (p : Int) (v0 v3 v6 v7 v17 v18 v19 v21 v22 v23 : AV) :
    run (envOf GC fsR) fuel [.code lp3x0] (st3x0 v0 v3 b v6 v7 a (.int .i64 p) v17 v18 v19 v21 v22 v23 (.sl r 0 2) (.int .i64 2) (.int .i64 (i : Int))) A =
      some (.normal (st3x0 v0 v3 b v6 v7 a (.int .i64 p) v17 v18 v19 v21 v22 v23 (.sl r 0 2) (.int .i64 2) (.int .i64 ((i + 1 : Nat) : Int))) A) := by
  have b1 : evBin .lss (.int .i64 (i : Int)) (.int .i64 2) = some (.bool true) := by rw [evLss, decide_eq_true (by omega)]
  have b3 := add1_nat i (by omega)
  obtain ⟨p1, b2⟩ : ∃ p1, evBin .add (.int .i64 p) (.int .i64 1) = some (.int .i64 p1) := ⟨_, rfl⟩
  have k1 : evIndexSl 1 A (.sl r 0 2) (.int .i64 (i : Int)) = some (.ptr r i 0) := by simp [evIndexSl, hrow]; omega
  have v1 := fun h A => H14_eq h (A := A) (arcsOf_frz ha A 4) ha n p
  have m15 : M15 [.int .i64 n, a, .int .i64 p] = some (lvT (lvM n l p)) := by simp only [M15, ha, Option.map_some]
  simp only [lvT_form] at v1 m15
  have m16 : M16 [.int .i64 n, a] = some (.bool (decide (ValidA n l))) := by simp only [M16, ha, Option.map_some]
  obtain ⟨i1, i2⟩ := lv_in n l p
  have s1 := M18_same i1
  have s2 := M18_same i2
  have mb := m19 (n := n) (p := p) ha hb
  have mr := m21 (n := n) (p := p) ha hb
  have mv := m19 (n := n) (p := p1) ha i1
  have hfa : ∀ A n, frz A n a = a := fun A n => arcsOf_frz ha A n
  have hra : ∀ k, noRefB k a = true := fun k => arcsOf_noRef ha k
  have hfb : ∀ A n, frz A n b = b := fun A n => intsOf_frz hb A n
  have hf1 : ∀ A k, frz A k (slA 1 (intsA (lvM n l p).1)) = slA 1 (intsA (lvM n l p).1) := fun A k => frz_slA A k 1 _
  have hf2 : ∀ A k, frz A k (slA 1 (intsA (lvM n l p).2.1)) = slA 1 (intsA (lvM n l p).2.1) := fun A k => frz_slA A k 1 _
  obtain ⟨S, hS⟩ : ∃ S, S = slA 1 (intsA (lvM n l p).1) := ⟨_, rfl⟩
  obtain ⟨C, hC⟩ : ∃ C, C = slA 1 (intsA (lvM n l p).2.1) := ⟨_, rfl⟩
  rw [← hS] at s1 mv hf1
  rw [← hC] at s2 hf2
  rw [← hS, ← hC] at m15
  simp only [← hS, ← hC] at v1
  obtain ⟨d0, hd0⟩ : ∃ d, d = (lvM n l p).2.2 := ⟨_, rfl⟩
  rw [← hd0] at m15
  simp only [← hd0] at v1
  obtain ⟨d1, hd1⟩ : ∃ d, d = decide (ValidA n l) := ⟨_, rfl⟩
  obtain ⟨d2, hd2⟩ : ∃ d, d = decide (VerOk n l p t) := ⟨_, rfl⟩
  obtain ⟨d3, hd3⟩ : ∃ d, d = decide (RefOk n l p t) := ⟨_, rfl⟩
  obtain ⟨d4, hd4⟩ : ∃ d, d = decide (VerOk n l p1 (lvM n l p).1) := ⟨_, rfl⟩
  rw [← hd1] at m16
  rw [← hd2] at mb
  rw [← hd3] at mr
  rw [← hd4] at mv
  obtain ⟨j1, hj1⟩ : ∃ j1 : Nat, j1 = i + 1 := ⟨_, rfl⟩
  rw [← hj1] at b3 ⊢
  have eb : ∀ d, evEqBool true (.bool d) (.bool d) = some (.bool false) := fun d => by cases d <;> rfl
  simp [lp3x0, b1, b2, b3, k1, hrow, he, v1, m15, m16, s1, s2, mb, mr, mv, hfa, hra, hfb, hf1, hf2, eb, frz_i, scalarB, -frz, -evBin, -evIndexSl, -evEqBool]
theorem buildS1 {A : Arena} {es : List AV} (h1 : es.length ≤ 1000) (h2 : ∀ x ∈ es, x.solid = true ∧ (cellsOf x).length = 1) : evBuildSlice 1 es A = some (.sl A.length 0 es.length, A ++ [.row 1 false es]) := by
  unfold evBuildSlice
  rw [if_pos ⟨by omega, by omega, by rw [List.all_eq_true]; intro x hx; obtain ⟨e1, e2⟩ := h2 x hx; rw [e1, e2]; rfl⟩]
theorem old_at {A X : Arena} {r : Nat} {e : Ent} (h : A[r]? = some e) : (A ++ X)[r]? = some e := by
  have := (List.getElem?_eq_some_iff.1 h).1
  rw [List.getElem?_append_left this]; exact h
section
variable {a b : AV} {l : List CArc} {t : List Int} (ha : arcsOf a = some l) (hb : intsOf b = some t)
include ha hb
set_option maxRecDepth 100000 in
theorem loop3n (fuel : Nat) (hf : 3 < fuel) {A : Arena} {r : Nat} {n0 n1 : Int} (hrow : A[r]? = some (.row 1 false [.int .i64 n0, .int .i64 n1])) (p : Int) (v0 v3 v6 v7 v17 v18 v19 v21 v22 v23 : AV) :
    iter (evC (envOf GC fsR) fuel lp3x0) mask3x0 fuel (st3x0 v0 v3 b v6 v7 a (.int .i64 p) v17 v18 v19 v21 v22 v23 (.sl r 0 2) (.int .i64 2) (.int .i64 0)) A =
      some (.exit 4 ((st3x0 v0 v3 b v6 v7 a (.int .i64 p) v17 v18 v19 v21 v22 v23 (.sl r 0 2) (.int .i64 2) (.int .i64 2)).set 28 (.bool false)) A) := by
  obtain ⟨f, rfl⟩ : ∃ f, fuel = f + 3 := ⟨fuel - 3, by omega⟩
  have r0 := round3n (f + 3) ha hb hrow (i := 0) (by omega) rfl p v0 v3 v6 v7 v17 v18 v19 v21 v22 v23
  have r1 := round3n (f + 3) ha hb hrow (i := 1) (by omega) rfl p v0 v3 v6 v7 v17 v18 v19 v21 v22 v23
  rw [show ((0 : Nat) : Int) = 0 from rfl, show ((0 + 1 : Nat) : Int) = 1 from rfl] at r0
  rw [show ((1 : Nat) : Int) = 1 from rfl, show ((1 + 1 : Nat) : Int) = 2 from rfl] at r1
  rw [iter_succ, cl3x0, r0]
  simp only
  rw [iter_succ, cl3x0, r1]
  simp only
  rw [iter_succ, cl3x0]
  have b1 : evBin .lss (.int .i64 2) (.int .i64 2) = some (.bool false) := by rw [evLss, decide_eq_false (by omega)]
  simp [lp3x0, b1, -evBin]
set_option maxRecDepth 100000 in
theorem round3p (fuel : Nat) (hf : 3 < fuel) {A : Arena} {r j : Nat} {es : List AV} (hrow : A[r]? = some (.row 1 false es)) (hj : j < 2) {p : Int} (he : es[j]? = some (.int .i64 p)) (n n1 : Int) (v3 v6 v17 v18 v19 : AV) :
    ∃ X, run (envOf GC fsR) fuel [.code lp3x1] (st3x1 (.int .i64 n) v3 b v6 (.int .i64 n1) a v17 v18 v19 (.sl r 0 2) (.int .i64 2) (.int .i64 (j : Int))) A =
      some (.normal (st3x1 (.int .i64 n) v3 b v6 (.int .i64 n1) a v17 v18 v19 (.sl r 0 2) (.int .i64 2) (.int .i64 ((j + 1 : Nat) : Int))) (A ++ X)) := by
  have b1 : evBin .lss (.int .i64 (j : Int)) (.int .i64 2) = some (.bool true) := by rw [evLss, decide_eq_true (by omega)]
  have b3 := add1_nat j (by omega)
  have k1 : evIndexSl 1 A (.sl r 0 2) (.int .i64 (j : Int)) = some (.ptr r j 0) := by simp [evIndexSl, hrow]; omega
  obtain ⟨n2, mn⟩ : ∃ n2, evMinL false (.int .i64 n) [.int .i64 8] = some (.int .i64 n2) := by
    simp only [evMinL, evMin2]
    by_cases h : (8 : Int) < n
    · exact ⟨8, by simp [h]⟩
    · exact ⟨n, by simp [h]⟩
  have bs := buildS1 (A := A) (es := [.int .i64 n1, .int .i64 n2]) (by simp) (by simp [AV.solid, cellsOf])
  rw [show [AV.int .i64 n1, AV.int .i64 n2].length = 2 from rfl] at bs
  have lp := loop3n ha hb fuel hf (n0 := n1) (n1 := n2) (A := A ++ [.row 1 false [.int .i64 n1, .int .i64 n2]]) (r := A.length) (by simp) p (.int .i64 n) v3 v6 (.int .i64 n1) v17 v18 v19 (.sl r 0 2) (.int .i64 2) (.int .i64 (j : Int))
  obtain ⟨j1, hj1⟩ : ∃ j1 : Nat, j1 = j + 1 := ⟨_, rfl⟩
  rw [← hj1] at b3 ⊢
  refine ⟨[.row 1 false [.int .i64 n1, .int .i64 n2]], ?_⟩
  obtain ⟨R, hR⟩ : ∃ R, R = A ++ [Ent.row 1 false [.int .i64 n1, .int .i64 n2]] := ⟨_, rfl⟩
  rw [← hR] at bs lp ⊢
  simp [lp3x1, b1, b3, k1, hrow, he, mn, bs, go3x0 lp, -evBin, -evIndexSl, -evMinL, -evBuildSlice]
set_option maxRecDepth 100000 in
theorem loop3p (fuel : Nat) (hf : 3 < fuel) {A : Arena} {r : Nat} {p0 p1 : Int} (hrow : A[r]? = some (.row 1 false [.int .i64 p0, .int .i64 p1])) (n n1 : Int) (v3 v6 v17 v18 v19 : AV) :
    ∃ X, iter (evC (envOf GC fsR) fuel lp3x1) mask3x1 fuel (st3x1 (.int .i64 n) v3 b v6 (.int .i64 n1) a v17 v18 v19 (.sl r 0 2) (.int .i64 2) (.int .i64 0)) A =
      some (.exit 2 ((st3x1 (.int .i64 n) v3 b v6 (.int .i64 n1) a v17 v18 v19 (.sl r 0 2) (.int .i64 2) (.int .i64 2)).set 24 (.bool false)) (A ++ X)) := by
  obtain ⟨X, r0⟩ := round3p ha hb fuel hf hrow (j := 0) (by omega) rfl n n1 v3 v6 v17 v18 v19
  obtain ⟨Y, r1⟩ := round3p ha hb fuel hf (old_at (X := X) hrow) (j := 1) (by omega) rfl n n1 v3 v6 v17 v18 v19
  refine ⟨X ++ Y, ?_⟩
  rw [show ((0 : Nat) : Int) = 0 from rfl, show ((0 + 1 : Nat) : Int) = 1 from rfl] at r0
  rw [show ((1 : Nat) : Int) = 1 from rfl, show ((1 + 1 : Nat) : Int) = 2 from rfl] at r1
  obtain ⟨f, hf3⟩ : ∃ f, fuel = f + 3 := ⟨fuel - 3, by omega⟩
  have e : iter (evC (envOf GC fsR) fuel lp3x1) mask3x1 (f + 3) (st3x1 (.int .i64 n) v3 b v6 (.int .i64 n1) a v17 v18 v19 (.sl r 0 2) (.int .i64 2) (.int .i64 0)) A = some (.exit 2 ((st3x1 (.int .i64 n) v3 b v6 (.int .i64 n1) a v17 v18 v19 (.sl r 0 2) (.int .i64 2) (.int .i64 2)).set 24 (.bool false)) (A ++ (X ++ Y))) := by
    rw [iter_succ, cl3x1, r0]
    simp only
    rw [iter_succ, cl3x1, r1]
    simp only
    rw [iter_succ, cl3x1]
    have b1 : evBin .lss (.int .i64 2) (.int .i64 2) = some (.bool false) := by rw [evLss, decide_eq_false (by omega)]
    simp [lp3x1, b1, -evBin]
  rw [← hf3] at e
  exact e
end
section
variable {b : AV} {t : List Int} (hb : intsOf b = some t)
include hb
set_option maxRecDepth 100000 in
theorem round3l (fuel : Nat) (hf : 3 < fuel) {A : Arena} {r i : Nat} {es : List AV} (hrow : A[r]? = some (.row 1 false es)) (hi : i < 3) {a : AV} {l : List CArc} (ha : arcsOf a = some l) (he : es[i]? = some a) {q : Int} (hq : inI q) (n n1 : Int) (v6 : AV) :
    ∃ X, run (envOf GC fsR) fuel [.code lp3x2] (st3x2 (.int .i64 n) (.int .i64 q) b v6 (.int .i64 n1) (.sl r 0 3) (.int .i64 3) (.int .i64 (i : Int))) A =
      some (.normal (st3x2 (.int .i64 n) (.int .i64 q) b v6 (.int .i64 n1) (.sl r 0 3) (.int .i64 3) (.int .i64 ((i + 1 : Nat) : Int))) (A ++ X)) := by
  have b1 : evBin .lss (.int .i64 (i : Int)) (.int .i64 3) = some (.bool true) := by rw [evLss, decide_eq_true (by omega)]
  have b3 := add1_nat i (by omega)
  have k1 : evIndexSl 1 A (.sl r 0 3) (.int .i64 (i : Int)) = some (.ptr r i 0) := by simp [evIndexSl, hrow]; omega
  have le : loadElem a 1 0 false 1 = some a := by rcases (arcsOf_some ha).1 with ⟨rfl, _⟩ | rfl <;> rfl
  have p80 := pick_range q 80 (by omega)
  have m2 := M12_eq hq (show (0 : Int) < 80 by omega)
  have b2 := evSub (a := pick q 80) (b := 10) (by omega)
  obtain ⟨q0, hq0⟩ : ∃ z, z = pick q 80 := ⟨_, rfl⟩
  rw [← hq0] at m2 b2
  obtain ⟨p, hp⟩ : ∃ z, z = q0 - 10 := ⟨_, rfl⟩
  rw [← hp] at b2
  have bs := buildS1 (A := A) (es := [.int .i64 q, .int .i64 p]) (by simp) (by simp [AV.solid, cellsOf])
  rw [show [AV.int .i64 q, AV.int .i64 p].length = 2 from rfl] at bs
  obtain ⟨X, lp⟩ := loop3p ha hb fuel hf (p0 := q) (p1 := p) (A := A ++ [.row 1 false [.int .i64 q, .int .i64 p]]) (r := A.length) (by simp) n n1 (.int .i64 q) v6 (.sl r 0 3) (.int .i64 3) (.int .i64 (i : Int))
  obtain ⟨j1, hj1⟩ : ∃ j1 : Nat, j1 = i + 1 := ⟨_, rfl⟩
  rw [← hj1] at b3 ⊢
  refine ⟨[.row 1 false [.int .i64 q, .int .i64 p]] ++ X, ?_⟩
  rw [← List.append_assoc]
  obtain ⟨R, hR⟩ : ∃ R, R = A ++ [Ent.row 1 false [.int .i64 q, .int .i64 p]] := ⟨_, rfl⟩
  rw [← hR] at bs lp ⊢
  simp [lp3x2, b1, b2, b3, k1, hrow, he, le, m2, bs, go3x1 lp, -evBin, -evIndexSl, -evMinL, -evBuildSlice]
set_option maxRecDepth 100000 in
theorem loop3l (fuel : Nat) (hf : 3 < fuel) {A : Arena} {r : Nat} {a0 a1 a2 : AV} (hrow : A[r]? = some (.row 1 false [a0, a1, a2])) {l0 l1 l2 : List CArc} (h0 : arcsOf a0 = some l0) (h1 : arcsOf a1 = some l1) (h2 : arcsOf a2 = some l2) {q : Int} (hq : inI q) (n n1 : Int) (v6 : AV) :
    ∃ X, iter (evC (envOf GC fsR) fuel lp3x2) mask3x2 fuel (st3x2 (.int .i64 n) (.int .i64 q) b v6 (.int .i64 n1) (.sl r 0 3) (.int .i64 3) (.int .i64 0)) A =
      some (.exit 0 ((st3x2 (.int .i64 n) (.int .i64 q) b v6 (.int .i64 n1) (.sl r 0 3) (.int .i64 3) (.int .i64 3)).set 20 (.bool false)) (A ++ X)) := by
  obtain ⟨X, r0⟩ := round3l hb fuel hf hrow (i := 0) (by omega) h0 rfl hq n n1 v6
  obtain ⟨Y, r1⟩ := round3l hb fuel hf (old_at (X := X) hrow) (i := 1) (by omega) h1 rfl hq n n1 v6
  obtain ⟨Z, r2⟩ := round3l hb fuel hf (old_at (X := Y) (old_at (X := X) hrow)) (i := 2) (by omega) h2 rfl hq n n1 v6
  refine ⟨X ++ Y ++ Z, ?_⟩
  rw [show ((0 : Nat) : Int) = 0 from rfl, show ((0 + 1 : Nat) : Int) = 1 from rfl] at r0
  rw [show ((1 : Nat) : Int) = 1 from rfl, show ((1 + 1 : Nat) : Int) = 2 from rfl] at r1
  rw [show ((2 : Nat) : Int) = 2 from rfl, show ((2 + 1 : Nat) : Int) = 3 from rfl] at r2
  obtain ⟨f, hf4⟩ : ∃ f, fuel = f + 4 := ⟨fuel - 4, by omega⟩
  have e : iter (evC (envOf GC fsR) fuel lp3x2) mask3x2 (f + 4) (st3x2 (.int .i64 n) (.int .i64 q) b v6 (.int .i64 n1) (.sl r 0 3) (.int .i64 3) (.int .i64 0)) A = some (.exit 0 ((st3x2 (.int .i64 n) (.int .i64 q) b v6 (.int .i64 n1) (.sl r 0 3) (.int .i64 3) (.int .i64 3)).set 20 (.bool false)) (A ++ (X ++ Y ++ Z))) := by
    rw [iter_succ, cl3x2, r0]
    simp only
    rw [iter_succ, cl3x2, r1]
    simp only
    rw [iter_succ, cl3x2, r2]
    simp only
    rw [iter_succ, cl3x2]
    have b1 : evBin .lss (.int .i64 3) (.int .i64 3) = some (.bool false) := by rw [evLss, decide_eq_false (by omega)]
    simp [lp3x2, b1, -evBin]
  rw [← hf4] at e
  exact e
end
theorem cut_arcs {x : AV} {l : List CArc} (hx : arcsOf x = some l) (n : Nat) : ∃ x', arcsOf x' = some (l.take n) ∧ ∀ A, evSliceSl 4 A none (some (.int .i64 ((min l.length n : Nat) : Int))) x = some x' := by
  obtain ⟨h1, h2, h3⟩ := arcsOf_some hx
  rcases h1 with ⟨rfl, h⟩ | rfl
  · have : l = [] := by simpa using h
    subst this
    refine ⟨.nilS, by simpa using hx, fun A => by simp [evSliceSl, evBounds, hiB, loB]⟩
  · obtain ⟨b, c1, c2⟩ := (show SlA 4 (l.map arcA) (.fs 4 (l.map arcA)) from .inr rfl).cutHi (A := []) (min l.length n) (by simp; omega) .i64
    refine ⟨b, arcsOf_of (by
      have : (l.map arcA).take (min l.length n) = (l.take n).map arcA := by
        rw [List.map_take, List.take_eq_take_iff]; simp; omega
      rw [← this]; exact c2) (by simp; omega) (fun z hz => h3 z (List.mem_of_mem_take hz)), fun A => ?_⟩
    rw [← c1]; rfl
open Classical in
set_option maxRecDepth 100000 in
set_option maxHeartbeats 4000000 in
theorem ev3 {x y z : AV} {r : List R4} {raw : List CArc} {ls : List Int} (hx : r4sOf x = some r) (hraw : arcsOf y = some raw) {n q : Int} (hn : inI n) (hq : inI q) (hz : intsOf z = some ls) : evP (envOf GC fsR) 50 mf3 1 [.int .i64 n, x, y, .int .i64 q, z] = some (.bool true) := by
  have p7 := pick_range n 7 (by omega)
  have m1 := M12_eq hn (show (0 : Int) < 7 by omega)
  obtain ⟨n0, hn0⟩ : ∃ z, z = pick n 7 := ⟨_, rfl⟩
  rw [← hn0] at p7 m1
  have b1 := add1_pick p7
  obtain ⟨n1, hn1⟩ : ∃ z, z = 1 + n0 := ⟨_, rfl⟩
  rw [← hn1] at b1
  have hn32 : 1 ≤ n1 ∧ n1 ≤ 32 := by omega
  have m5 : ∀ d, M13 [x, .int .i64 n1, .bool d] = some (slA 4 ((arcsD r n1 d).map arcA)) := fun d => by
    simp only [M13, hx, Option.map_some]; exact if_pos hn32.1
  have hfx : ∀ A, frz A 4 x = x := fun A => (r4sOf_some hx).1.frz 4
  obtain ⟨hy1, hy2⟩ := arcsOf_len hraw
  obtain ⟨y', hy', sy⟩ := cut_arcs hraw 20
  have mny := minL_nat raw.length 20
  rw [show ((20 : Nat) : Int) = 20 from rfl] at mny
  obtain ⟨cy, hcy⟩ : ∃ c, c = min raw.length 20 := ⟨_, rfl⟩
  rw [← hcy] at sy mny
  obtain ⟨hz1, hz2, hz3⟩ := intsOf_some hz
  have hzl := hz1.len
  simp only [List.length_map] at hzl
  obtain ⟨z', hz', sz⟩ := cut_ints hz1 8
  have mnz := minL_nat ls.length 8
  rw [show ((8 : Nat) : Int) = 8 from rfl] at mnz
  obtain ⟨cz, hcz⟩ : ∃ c, c = min ls.length 8 := ⟨_, rfl⟩
  rw [← hcz] at sz mnz
  have hb : intsOf z' = some (ls.take 8) := intsOf_of hz' (by simp; omega) fun z h => hz2 z (List.mem_of_mem_take h)
  have h0 := arcsD_arg hn32 r false
  have h1 := arcsD_arg hn32 r true
  have m50 := m5 false
  have m51 := m5 true
  obtain ⟨T0, hT0⟩ : ∃ T, T = slA 4 ((arcsD r n1 false).map arcA) := ⟨_, rfl⟩
  obtain ⟨T1, hT1⟩ : ∃ T, T = slA 4 ((arcsD r n1 true).map arcA) := ⟨_, rfl⟩
  rw [← hT0] at m50 h0
  rw [← hT1] at m51 h1
  have sol : ∀ {a : AV} {l : List CArc}, arcsOf a = some l → a.solid = true ∧ (cellsOf a).length = 1 := fun {a l} h => by
    rcases (arcsOf_some h).1 with ⟨rfl, _⟩ | rfl <;> exact ⟨rfl, rfl⟩
  have bs := buildS1 (A := []) (es := [T0, T1, y']) (by simp) (fun x hx => by
    simp only [List.mem_cons, List.not_mem_nil, or_false] at hx
    rcases hx with rfl | rfl | rfl
    · exact sol h0
    · exact sol h1
    · exact sol hy')
  rw [show [T0, T1, y'].length = 3 from rfl, List.nil_append, List.length_nil] at bs
  have hl3 : evLenSl (.sl 0 0 3) = some (.int .i64 3) := rfl
  obtain ⟨X, lp⟩ := loop3l hb 50 (by omega) (A := [.row 1 false [T0, T1, y']]) (r := 0) rfl h0 h1 hy' hq n n1 (.bool true)
  rw [evP_run _ _ rfl]
  simp [mf3, m1, m50, m51, b1, hl3, hy1, hzl, mny, mnz, sy, sz, bs, hfx, go3x2 lp, frz_i, frz_b, scalarB, -frz, -evBin, -evLenSl, -evSliceSl, -evMinL, -evBuildSlice]
theorem ev3L (args : List AV) (h : LawArgs Try.prog 8 Try.f3.params.toList args) : ∃ fuel, evP (envOf GC fsR) fuel mf3 1 args = some (.bool true) := by
  rw [Try.params3] at h
  obtain ⟨a, r, rfl, h0, h⟩ := h.cons
  obtain ⟨b, r, rfl, h1, h⟩ := h.cons
  obtain ⟨c, r, rfl, h2, h⟩ := h.cons
  obtain ⟨d, r, rfl, h3, h⟩ := h.cons
  obtain ⟨e, r, rfl, h4, h⟩ := h.cons
  obtain rfl := h.nil
  obtain ⟨n, rfl, hn⟩ := TA.i64 Try.underlying3 h0
  obtain ⟨r, hr⟩ := r4s_arg (n := 5) h1
  obtain ⟨raw, hraw⟩ := arcs_arg (n := 5) h2
  obtain ⟨q, rfl, hq⟩ := TA.i64 Try.underlying3 h3
  obtain ⟨ls, hy, hym, hyr⟩ := TA.ints Try.underlying24 Try.underlying3 (by kernel_rfl) h4
  exact ⟨50, ev3 hr hraw hn hq (intsOf_of hy hym hyr)⟩
end Go.Proofs.Ytfmlfekcdbfioaa
