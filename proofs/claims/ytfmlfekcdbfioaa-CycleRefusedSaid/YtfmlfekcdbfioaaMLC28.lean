/-
  Cycle: the law CycleRefused, run.
-/
import Derived.Test.YtfmlfekcdbfioaaMLC25
namespace Go.Proofs.Ytfmlfekcdbfioaa
open Go

theorem cut_sl {sz : Nat} {x : AV} {es : List AV} (hx : SlA sz es x) (n : Nat) : ∃ x', SlA sz (es.take n) x' ∧ ∀ A, evSliceSl sz A none (some (.int .i64 ((min es.length n : Nat) : Int))) x = some x' := by
  rcases hx with ⟨rfl, rfl⟩ | rfl
  · exact ⟨.nilS, .inl ⟨rfl, by simp⟩, fun A => by simp [evSliceSl, evBounds, hiB, loB]⟩
  · refine ⟨.fs sz (es.take n), .inr rfl, fun A => ?_⟩
    obtain ⟨q, hq⟩ : ∃ q, q = min es.length n := ⟨_, rfl⟩
    rw [← hq]
    have h : q ≤ es.length := by omega
    have e : evBounds es.length none (some (.int .i64 (q : Int))) = some (0, q) := by simp [evBounds, hiB, loB, h]
    simp only [evSliceSl, if_true, e, Option.map_some, List.drop_zero, Nat.sub_zero]
    congr 2
    rw [List.take_eq_take_iff]; omega
/-- an arc is valid, as the law asks -/
def okB (n : Int) (a : CArc) : Bool := decide (0 ≤ a.f) && decide (a.f < n) && decide (0 ≤ a.t) && decide (a.t < n) && decide (-1000000 ≤ a.w) && decide (a.w ≤ 1000000) && decide (-2 ≤ a.k) && decide (a.k ≤ 2)
theorem okB_eq (n : Int) (a : CArc) : okB n a = decide (okA n a) := by
  rw [Bool.eq_iff_iff, decide_eq_true_eq]
  unfold okB okA
  simp only [Bool.and_eq_true, decide_eq_true_eq]
  constructor
  · rintro ⟨⟨⟨⟨⟨⟨⟨h1, h2⟩, h3⟩, h4⟩, h5⟩, h6⟩, h7⟩, h8⟩
    exact ⟨⟨h1, by omega⟩, ⟨h3, by omega⟩, ⟨h5, h6⟩, h7, h8⟩
  · rintro ⟨⟨h1, h2⟩, ⟨h3, h4⟩, ⟨h5, h6⟩, h7, h8⟩
    exact ⟨⟨⟨⟨⟨⟨⟨h1, by omega⟩, h3⟩, by omega⟩, h5⟩, h6⟩, h7⟩, h8⟩
theorem evGeq (a b : Int) : evBin .geq (.int .i64 a) (.int .i64 b) = some (.bool (decide (b ≤ a))) := by simp [evBin]
def goodB (n : Int) (l : List CArc) (g : Bool) (i : Nat) : Bool := g && (l.take i).all (okB n)
theorem goodB_succ (n : Int) (l : List CArc) (g : Bool) {i : Nat} (hi : i < l.length) : goodB n l g (i + 1) = (goodB n l g i && okB n l[i]) := by
  unfold goodB; rw [List.take_succ_eq_append_getElem hi, List.all_append]; simp [Bool.and_assoc]
set_option maxRecDepth 100000 in
set_option maxHeartbeats 4000000 in
theorem round10 (fuel : Nat) (A : Arena) {x : AV} {l : List CArc} (hx : arcsOf x = some l) (n : Int) (g : Bool) {i : Nat} (hi : i < l.length) (v2 v3 v5 : AV) :
    ∃ A', run (envOf GC fsN) fuel [.code lp10x0] (st10x0 (.int .i64 n) x v2 v3 v5 (.bool (goodB n l g i)) (.int .i64 (i : Int))) A =
      some (.normal (st10x0 (.int .i64 n) x v2 v3 v5 (.bool (goodB n l g (i + 1))) (.int .i64 ((i + 1 : Nat) : Int))) A') := by
  obtain ⟨hl, hm⟩ := arcsOf_len hx
  have x1 := arcsOf_at hx hi A .i64
  have b1 := lt_nat i l.length .i64
  rw [decide_eq_true hi] at b1
  have b3 := add1_nat i (by omega)
  rw [goodB_succ n l g hi]
  unfold okB
  have c1 := evGeq l[i].f 0
  have c2 := evLss l[i].f n
  have c3 := evGeq l[i].t 0
  have c4 := evLss l[i].t n
  have c5 := evGeq l[i].w (-1000000)
  have c6 := evLeq l[i].w 1000000
  have c7 := evGeq l[i].k (-2)
  have c8 := evLeq l[i].k 2
  obtain ⟨d1, hd1⟩ : ∃ d, d = decide (0 ≤ l[i].f) := ⟨_, rfl⟩
  obtain ⟨d2, hd2⟩ : ∃ d, d = decide (l[i].f < n) := ⟨_, rfl⟩
  obtain ⟨d3, hd3⟩ : ∃ d, d = decide (0 ≤ l[i].t) := ⟨_, rfl⟩
  obtain ⟨d4, hd4⟩ : ∃ d, d = decide (l[i].t < n) := ⟨_, rfl⟩
  obtain ⟨d5, hd5⟩ : ∃ d, d = decide (-1000000 ≤ l[i].w) := ⟨_, rfl⟩
  obtain ⟨d6, hd6⟩ : ∃ d, d = decide (l[i].w ≤ 1000000) := ⟨_, rfl⟩
  obtain ⟨d7, hd7⟩ : ∃ d, d = decide (-2 ≤ l[i].k) := ⟨_, rfl⟩
  obtain ⟨d8, hd8⟩ : ∃ d, d = decide (l[i].k ≤ 2) := ⟨_, rfl⟩
  rw [← hd1] at c1 ⊢
  rw [← hd2] at c2 ⊢
  rw [← hd3] at c3 ⊢
  rw [← hd4] at c4 ⊢
  rw [← hd5] at c5 ⊢
  rw [← hd6] at c6 ⊢
  rw [← hd7] at c7 ⊢
  rw [← hd8] at c8 ⊢
  obtain ⟨gg, hgg⟩ : ∃ d, d = goodB n l g i := ⟨_, rfl⟩
  rw [← hgg]
  obtain ⟨i1, hi1⟩ : ∃ i1 : Nat, i1 = i + 1 := ⟨_, rfl⟩
  rw [← hi1] at b3 ⊢
  refine ⟨A ++ [.row 4 false [arcA l[i]]], ?_⟩
  unfold arcA
  cases gg
  · simp [lp10x0, hl, x1, b1, b3, -evBin, -evIndexSl, -evLenSl]
  cases d1
  · simp [lp10x0, hl, x1, b1, b3, c1, -evBin, -evIndexSl, -evLenSl]
  cases d2
  · simp [lp10x0, hl, x1, b1, b3, c1, c2, -evBin, -evIndexSl, -evLenSl]
  cases d3
  · simp [lp10x0, hl, x1, b1, b3, c1, c2, c3, -evBin, -evIndexSl, -evLenSl]
  cases d4
  · simp [lp10x0, hl, x1, b1, b3, c1, c2, c3, c4, -evBin, -evIndexSl, -evLenSl]
  cases d5
  · simp [lp10x0, hl, x1, b1, b3, c1, c2, c3, c4, c5, -evBin, -evIndexSl, -evLenSl]
  cases d6
  · simp [lp10x0, hl, x1, b1, b3, c1, c2, c3, c4, c5, c6, -evBin, -evIndexSl, -evLenSl]
  cases d7
  · simp [lp10x0, hl, x1, b1, b3, c1, c2, c3, c4, c5, c6, c7, -evBin, -evIndexSl, -evLenSl]
  simp [lp10x0, hl, x1, b1, b3, c1, c2, c3, c4, c5, c6, c7, c8, -evBin, -evIndexSl, -evLenSl]
theorem loop10 (fuel : Nat) (A : Arena) {x : AV} {l : List CArc} (hx : arcsOf x = some l) (hf : l.length < fuel) (n : Int) (g : Bool) (v2 v3 v5 : AV) :
    ∃ A', iter (evC (envOf GC fsN) fuel lp10x0) mask10x0 fuel (st10x0 (.int .i64 n) x v2 v3 v5 (.bool g) (.int .i64 0)) A = some (.exit 0 ((st10x0 (.int .i64 n) x v2 v3 v5 (.bool (g && l.all (okB n))) (.int .i64 (l.length : Int))).set 15 (.bool false)) A') := by
  obtain ⟨hl, hm⟩ := arcsOf_len hx
  obtain ⟨o, h1, A', h2⟩ := iter_inv (E := envOf GC fsN) (fuel := fuel) (a := lp10x0) (mask := mask10x0)
    (fun κ σ A => ∃ i, i + κ = l.length ∧ σ = st10x0 (.int .i64 n) x v2 v3 v5 (.bool (goodB n l g i)) (.int .i64 (i : Int)))
    (fun o => ∃ A', o = .exit 0 ((st10x0 (.int .i64 n) x v2 v3 v5 (.bool (g && l.all (okB n))) (.int .i64 (l.length : Int))).set 15 (.bool false)) A')
    (by
      rintro κ σ A ⟨i, hik, rfl⟩
      rw [cl10x0]
      by_cases hi : i < l.length
      · obtain ⟨A', c1⟩ := round10 fuel A hx n g hi v2 v3 v5
        exact .inl ⟨_, _, c1, κ - 1, by omega, i + 1, by omega, rfl⟩
      · obtain rfl : i = l.length := by omega
        have : goodB n l g l.length = (g && l.all (okB n)) := by unfold goodB; rw [List.take_length]
        rw [this]
        refine .inr ⟨_, ?_, ?_, A, rfl⟩
        · simp [lp10x0, hl, -evLenSl]
        · intro _ _ h; cases h)
    fuel l.length (st10x0 (.int .i64 n) x v2 v3 v5 (.bool g) (.int .i64 0)) A hf ⟨0, by omega, by simp [goodB]⟩
  exact ⟨A', by rw [← h2]; exact h1⟩
def post10 : MC := .seq (.region [⟨none, .mv (.var 0), none⟩, ⟨none, .bin .geq (.tmp 0) (.cst (.int .i64 1)), none⟩, ⟨none, .mv (.tmp 1), none⟩, ⟨none, .mv (.var 0), some (.tmp 2, true)⟩, ⟨none, .bin .leq (.tmp 3) (.cst (.int .i64 32)), some (.tmp 2, true)⟩, ⟨none, .pick (.tmp 2) (.tmp 4) (.cst (.bool false)), none⟩, ⟨some 6, .mv (.tmp 5), none⟩]) (.seq (.seq (.region [⟨some 7, .mv (.cst (.int .i64 0)), none⟩]) (.seq (.block 0 (.loop [4, 8, 9, 10, 11, 12, 13, 14, 15, 16, 17] lp10x0)) (.kill [4, 7, 8, 9, 10, 11, 12, 13, 14, 15, 16, 17]))) (.seq (.seq (.region [⟨none, .mv (.var 0), none⟩, ⟨none, .mv (.var 1), none⟩, ⟨none, .call (.fn 16) [.tmp 0, .tmp 1], none⟩, ⟨none, .mv (.var 6), none⟩, ⟨some 16, .eqBool true (.tmp 2) (.tmp 3), none⟩]) (.cond (.var 16) (.seq (.region [⟨some 4, .mv (.cst (.bool false)), none⟩]) .ret) .skip)) (.seq (.seq (.region [⟨none, .mv (.var 6), none⟩, ⟨none, .mv (.tmp 0), none⟩, ⟨none, .mv (.var 2), some (.tmp 1, true)⟩, ⟨none, .bin .geq (.tmp 2) (.cst (.int .i64 (-1000000))), some (.tmp 1, true)⟩, ⟨none, .pick (.tmp 1) (.tmp 3) (.cst (.bool false)), none⟩, ⟨none, .mv (.tmp 4), none⟩, ⟨none, .mv (.var 2), some (.tmp 5, true)⟩, ⟨none, .bin .leq (.tmp 6) (.cst (.int .i64 1000000)), some (.tmp 5, true)⟩, ⟨some 17, .pick (.tmp 5) (.tmp 7) (.cst (.bool false)), none⟩]) (.cond (.var 17) (.seq (.region [⟨none, .mv (.var 5), none⟩, ⟨some 4, .mv (.tmp 0), none⟩]) .ret) .skip)) (.seq (.region [⟨none, .mv (.var 0), none⟩, ⟨none, .mv (.var 1), none⟩, ⟨none, .mv (.var 2), none⟩, ⟨none, .call (.fn 14) [.tmp 0, .tmp 1, .tmp 2], none⟩, ⟨none, .mv (.tmp 3), none⟩, ⟨none, .extract (.tmp 4) 0, none⟩, ⟨none, .extract (.tmp 4) 1, none⟩, ⟨none, .extract (.tmp 4) 2, none⟩, ⟨some 9, .mv (.tmp 5), none⟩, ⟨some 10, .mv (.tmp 6), none⟩, ⟨some 11, .mv (.tmp 7), none⟩]) (.seq (.region [⟨none, .mv (.var 0), none⟩, ⟨none, .mv (.var 1), none⟩, ⟨none, .mv (.var 2), none⟩, ⟨none, .mv (.var 2), none⟩, ⟨none, .call (.fn 23) [.tmp 0, .tmp 1, .tmp 2, .tmp 3], none⟩, ⟨none, .mv (.tmp 4), none⟩, ⟨none, .extract (.tmp 5) 0, none⟩, ⟨none, .extract (.tmp 5) 1, none⟩, ⟨some 12, .mv (.tmp 6), none⟩, ⟨some 13, .mv (.tmp 7), none⟩]) (.seq (.region [⟨none, .mv (.var 5), none⟩, ⟨none, .mv (.tmp 0), none⟩, ⟨none, .mv (.var 11), some (.tmp 1, true)⟩, ⟨none, .un .not (.tmp 2), some (.tmp 1, true)⟩, ⟨none, .pick (.tmp 1) (.tmp 3) (.cst (.bool false)), none⟩, ⟨none, .mv (.tmp 4), none⟩, ⟨none, .mv (.var 9), some (.tmp 5, true)⟩, ⟨none, .lenSl (.tmp 6), some (.tmp 5, true)⟩, ⟨none, .bin .eql (.tmp 7) (.cst (.int .i64 0)), some (.tmp 5, true)⟩, ⟨none, .pick (.tmp 5) (.tmp 8) (.cst (.bool false)), none⟩, ⟨none, .mv (.tmp 9), none⟩, ⟨none, .mv (.var 10), some (.tmp 10, true)⟩, ⟨none, .lenSl (.tmp 11), some (.tmp 10, true)⟩, ⟨none, .bin .eql (.tmp 12) (.cst (.int .i64 0)), some (.tmp 10, true)⟩, ⟨none, .pick (.tmp 10) (.tmp 13) (.cst (.bool false)), none⟩, ⟨none, .mv (.tmp 14), none⟩, ⟨none, .mv (.var 12), some (.tmp 15, true)⟩, ⟨none, .bin .eql (.tmp 16) (.cst (.int .i64 0)), some (.tmp 15, true)⟩, ⟨none, .pick (.tmp 15) (.tmp 17) (.cst (.bool false)), none⟩, ⟨none, .mv (.tmp 18), none⟩, ⟨none, .mv (.var 13), some (.tmp 19, true)⟩, ⟨none, .un .not (.tmp 20), some (.tmp 19, true)⟩, ⟨none, .pick (.tmp 19) (.tmp 21) (.cst (.bool false)), none⟩, ⟨none, .mv (.tmp 22), none⟩, ⟨none, .mv (.var 0), some (.tmp 23, true)⟩, ⟨none, .mv (.var 1), some (.tmp 23, true)⟩, ⟨none, .mv (.var 2), some (.tmp 23, true)⟩, ⟨none, .mv (.var 3), some (.tmp 23, true)⟩, ⟨none, .call (.fn 19) [.tmp 24, .tmp 25, .tmp 26, .tmp 27], some (.tmp 23, true)⟩, ⟨none, .un .not (.tmp 28), some (.tmp 23, true)⟩, ⟨none, .pick (.tmp 23) (.tmp 29) (.cst (.bool false)), none⟩, ⟨none, .mv (.tmp 30), none⟩, ⟨none, .mv (.var 0), some (.tmp 31, true)⟩, ⟨none, .mv (.var 1), some (.tmp 31, true)⟩, ⟨none, .mv (.var 2), some (.tmp 31, true)⟩, ⟨none, .mv (.var 3), some (.tmp 31, true)⟩, ⟨none, .call (.fn 21) [.tmp 32, .tmp 33, .tmp 34, .tmp 35], some (.tmp 31, true)⟩, ⟨none, .un .not (.tmp 36), some (.tmp 31, true)⟩, ⟨none, .pick (.tmp 31) (.tmp 37) (.cst (.bool false)), none⟩, ⟨some 4, .mv (.tmp 38), none⟩]) .ret))))))
theorem mf10_eq : mf10 = ⟨4, 18, .seq (.region [⟨some 4, .mv (.cst (.bool false)), none⟩]) (.seq (.region [⟨none, .call (.fn 11) [], none⟩, ⟨some 5, .mv (.tmp 0), none⟩]) (.seq (.region [⟨none, .mv (.var 1), none⟩, ⟨none, .mv (.var 1), none⟩, ⟨none, .lenSl (.tmp 1), none⟩, ⟨none, .minmax false (.tmp 2) [.cst (.int .i64 5)], none⟩, ⟨none, .sliceSl 4 (.tmp 0) none (some (.tmp 3)), none⟩, ⟨some 1, .mv (.tmp 4), none⟩]) (.seq (.region [⟨none, .mv (.var 3), none⟩, ⟨none, .mv (.var 3), none⟩, ⟨none, .lenSl (.tmp 1), none⟩, ⟨none, .minmax false (.tmp 2) [.cst (.int .i64 8)], none⟩, ⟨none, .sliceSl 1 (.tmp 0) none (some (.tmp 3)), none⟩, ⟨some 3, .mv (.tmp 4), none⟩]) (.seq (.seq (.region [⟨none, .mv (.var 0), none⟩, ⟨none, .bin .gtr (.tmp 0) (.cst (.int .i64 10)), none⟩, ⟨none, .mv (.tmp 1), none⟩, ⟨none, .mv (.var 0), some (.tmp 2, true)⟩, ⟨none, .bin .leq (.tmp 3) (.cst (.int .i64 32)), some (.tmp 2, true)⟩, ⟨some 14, .pick (.tmp 2) (.tmp 4) (.cst (.bool false)), none⟩]) (.cond (.var 14) (.region [⟨some 0, .mv (.cst (.int .i64 10)), none⟩]) .skip)) post10)))), [.tmp 4]⟩ := rfl
open Classical in
set_option maxRecDepth 100000 in
set_option maxHeartbeats 4000000 in
theorem ev10p {x y : AV} {l : List CArc} {ms : List Int} (hx : arcsOf x = some l) (hl5 : l.length ≤ 5) (hy : intsOf y = some ms) (n q : Int) (A : Arena) (v14 : AV) :
    ∃ σ A', run (envOf GC fsN) 50 [.code post10] [.int .i64 n, x, .int .i64 q, y, .bool false, .bool true, .undef, .undef, .undef, .undef, .undef, .undef, .undef, .undef, v14, .undef, .undef, .undef] A = some (.ret σ A') ∧ σ.length = 18 ∧ σ[4]? = some (.bool true) := by
  have b1 := evGeq n 1
  have b2 := evLeq n 32
  obtain ⟨g, hg⟩ : ∃ g, g = decide (1 ≤ n ∧ n ≤ 32) := ⟨_, rfl⟩
  obtain ⟨A1, lp⟩ := loop10 50 A hx (by omega) n g (.int .i64 q) y (.bool true)
  have hgood : (g && l.all (okB n)) = decide (ValidA n l) := by
    rw [Bool.eq_iff_iff, Bool.and_eq_true, hg, decide_eq_true_eq, decide_eq_true_eq, List.all_eq_true]
    constructor
    · rintro ⟨h1, h2⟩
      exact ⟨h1, by omega, fun a ha => by have := h2 a ha; rw [okB_eq, decide_eq_true_eq] at this; exact this⟩
    · rintro ⟨h1, _, h2⟩
      exact ⟨h1, fun a ha => by rw [okB_eq, decide_eq_true_eq]; exact h2 a ha⟩
  rw [hgood] at lp
  have m16 : M16 [.int .i64 n, x] = some (.bool (decide (ValidA n l))) := by simp only [M16, hx, Option.map_some]
  have f1 : ∀ A k, frz A k x = x := fun A k => arcsOf_frz hx A k
  have f2 : ∀ A k, frz A k y = y := fun A k => intsOf_frz hy A k
  have f3 := arcsOf_noRef hx
  have f4 := intsOf_noRef hy
  have b3 := evGeq q (-1000000)
  have b4 := evLeq q 1000000
  have hper : decide (isPer q) = (decide (-1000000 ≤ q) && decide (q ≤ 1000000)) := by
    rw [Bool.eq_iff_iff, Bool.and_eq_true, decide_eq_true_eq, decide_eq_true_eq, decide_eq_true_eq]; exact Iff.rfl
  have hgd : g = (decide (1 ≤ n) && decide (n ≤ 32)) := by
    rw [hg, Bool.eq_iff_iff, Bool.and_eq_true, decide_eq_true_eq, decide_eq_true_eq, decide_eq_true_eq]
  obtain ⟨d1, hd1⟩ : ∃ d, d = decide (1 ≤ n) := ⟨_, rfl⟩
  obtain ⟨d2, hd2⟩ : ∃ d, d = decide (n ≤ 32) := ⟨_, rfl⟩
  obtain ⟨d3, hd3⟩ : ∃ d, d = decide (-1000000 ≤ q) := ⟨_, rfl⟩
  obtain ⟨d4, hd4⟩ : ∃ d, d = decide (q ≤ 1000000) := ⟨_, rfl⟩
  rw [← hd1] at b1 hgd
  rw [← hd2] at b2 hgd
  rw [← hd3] at b3 hper
  rw [← hd4] at b4 hper
  by_cases hr : Ready n l q
  · have h1 := decide_eq_true hr.1
    have h2 := decide_eq_true hr.2
    rw [h1] at lp m16
    rw [h2] at hper
    have hg1 : g = true := by rw [hg]; exact decide_eq_true hr.1.1
    obtain ⟨rfl, rfl⟩ : d3 = true ∧ d4 = true := by
      cases d3 <;> cases d4 <;> first | exact ⟨rfl, rfl⟩ | cases hper
    rw [hg1] at lp hgd
    obtain ⟨rfl, rfl⟩ : d1 = true ∧ d2 = true := by
      cases d1 <;> cases d2 <;> first | exact ⟨rfl, rfl⟩ | cases hgd
    simp [post10, b1, b2, b3, b4, go10x0 lp, m16, f1, f3, frz_i, scalarB, -frz, -evBin]
  · have v1 := fun h A => H14_eq h (A := A) (f1 A 4) hx n q
    have e1 : lvM n l q = ([], [], false) := if_neg hr
    rw [e1] at v1
    have e2 : smM n l q q = none := by
      unfold smM
      split
      · rw [show (q - q + 2).toNat = 2 by omega]
        unfold smL
        rw [if_neg]
        rintro ⟨_, h⟩
        by_cases hn : 1 ≤ n
        · rw [show ((n.toNat : Nat) : Int) = n by omega] at h
          exact hr h
        · have := h.1.1
          omega
      · rfl
    have m23 : M23 [.int .i64 n, x, .int .i64 q, .int .i64 q] = some (smT (smM n l q q)) := by simp only [M23, hx, Option.map_some]
    rw [e2] at m23
    have k1 := m19 (n := n) (p := q) hx hy
    have k2 := m21 (n := n) (p := q) hx hy
    rw [decide_eq_false (show ¬ VerOk n l q ms from fun h => hr h.1)] at k1
    rw [decide_eq_false (show ¬ RefOk n l q ms from fun h => hr h.1)] at k2
    simp only [lvT, slA, intsA, List.map_nil] at v1
    simp only [smT, Option.getD_none, Option.isSome_none] at m23
    have b8 := evEql 0 0
    rw [decide_eq_true rfl] at b8
    obtain ⟨w, hw⟩ : ∃ w, w = decide (ValidA n l) := ⟨_, rfl⟩
    rw [← hw] at lp m16
    have hpw : w = true → (d3 && d4) = false := fun h => by
      rw [← hper]
      exact decide_eq_false fun h2 => hr ⟨of_decide_eq_true (hw ▸ h), h2⟩
    have hg12 : (d1 = true ∧ d2 = true ∧ g = true) ∨ (d1 = true ∧ d2 = false ∧ g = false) ∨ (d1 = false ∧ g = false) := by
      cases d1 <;> cases d2 <;> simp_all
    cases w with
    | false =>
      rcases hg12 with ⟨rfl, rfl, rfl⟩ | ⟨rfl, rfl, rfl⟩ | ⟨rfl, rfl⟩
      · simp [post10, b1, b2, go10x0 lp, m16, v1, m23, k1, k2, b8, len_nilS, f1, f2, f3, f4, frz_i, scalarB, -frz, -evBin, -evLenSl]
      · simp [post10, b1, b2, go10x0 lp, m16, v1, m23, k1, k2, b8, len_nilS, f1, f2, f3, f4, frz_i, scalarB, -frz, -evBin, -evLenSl]
      · simp [post10, b1, go10x0 lp, m16, v1, m23, k1, k2, b8, len_nilS, f1, f2, f3, f4, frz_i, scalarB, -frz, -evBin, -evLenSl]
    | true =>
      have hp := hpw rfl
      have hd34 : d3 = false ∨ (d3 = true ∧ d4 = false) := by cases d3 <;> cases d4 <;> simp_all
      rcases hg12 with ⟨rfl, rfl, rfl⟩ | ⟨rfl, rfl, rfl⟩ | ⟨rfl, rfl⟩ <;> rcases hd34 with rfl | ⟨rfl, rfl⟩
      · simp [post10, b1, b2, b3, go10x0 lp, m16, v1, m23, k1, k2, b8, len_nilS, f1, f2, f3, f4, frz_i, scalarB, -frz, -evBin, -evLenSl]
      · simp [post10, b1, b2, b3, b4, go10x0 lp, m16, v1, m23, k1, k2, b8, len_nilS, f1, f2, f3, f4, frz_i, scalarB, -frz, -evBin, -evLenSl]
      · simp [post10, b1, b2, b3, go10x0 lp, m16, v1, m23, k1, k2, b8, len_nilS, f1, f2, f3, f4, frz_i, scalarB, -frz, -evBin, -evLenSl]
      · simp [post10, b1, b2, b3, b4, go10x0 lp, m16, v1, m23, k1, k2, b8, len_nilS, f1, f2, f3, f4, frz_i, scalarB, -frz, -evBin, -evLenSl]
      · simp [post10, b1, b3, go10x0 lp, m16, v1, m23, k1, k2, b8, len_nilS, f1, f2, f3, f4, frz_i, scalarB, -frz, -evBin, -evLenSl]
      · simp [post10, b1, b3, b4, go10x0 lp, m16, v1, m23, k1, k2, b8, len_nilS, f1, f2, f3, f4, frz_i, scalarB, -frz, -evBin, -evLenSl]
set_option maxRecDepth 100000 in
set_option maxHeartbeats 4000000 in
theorem ev10 {x y : AV} {l : List CArc} {ms : List Int} (hx : arcsOf x = some l) (hy : SlA 1 (intsA ms) y) (hym : ms.length ≤ 9223372036854775807) (hyr : ∀ z ∈ ms, inI z) (n q : Int) : evP (envOf GC fsN) 50 mf10 1 [.int .i64 n, x, .int .i64 q, y] = some (.bool true) := by
  obtain ⟨hs, hl, hr⟩ := arcsOf_some hx
  obtain ⟨x', hx', sx⟩ := cut_sl hs 5
  obtain ⟨y', hy', sy⟩ := cut_sl hy 8
  have hlx := hs.len
  have hly := hy.len
  simp only [intsA_len, List.length_map] at hlx hly sx sy
  have ha : arcsOf x' = some (l.take 5) := by
    rw [← List.map_take] at hx'
    exact arcsOf_of hx' (by simp; omega) fun a h => hr a (List.mem_of_mem_take h)
  have hi : intsOf y' = some (ms.take 8) := by
    have e : (intsA ms).take 8 = intsA (ms.take 8) := by unfold intsA; rw [List.map_take]
    rw [e] at hy'
    exact intsOf_of hy' (by simp; omega) fun z h => hyr z (List.mem_of_mem_take h)
  have mn1 := minL_nat l.length 5
  have mn2 := minL_nat ms.length 8
  have e5 : ((5 : Nat) : Int) = 5 := rfl
  have e8 : ((8 : Nat) : Int) = 8 := rfl
  rw [e5] at mn1
  rw [e8] at mn2
  obtain ⟨q1, hq1⟩ : ∃ q1 : Nat, q1 = min l.length 5 := ⟨_, rfl⟩
  obtain ⟨q2, hq2⟩ : ∃ q1 : Nat, q1 = min ms.length 8 := ⟨_, rfl⟩
  rw [← hq1] at mn1 sx
  rw [← hq2] at mn2 sy
  have b1 := evGtr n 10
  have b2 := evLeq n 32
  rw [evP_run _ _ rfl, mf10_eq]
  by_cases h1 : n > 10
  · rw [decide_eq_true h1] at b1
    by_cases h2 : n ≤ 32
    · rw [decide_eq_true h2] at b2
      obtain ⟨σ, A', h3, h4, h5⟩ := ev10p ha (by simp; omega) hi 10 q [] (.bool true)
      simp [hlx, hly, mn1, mn2, sx, sy, b1, b2, h3, h5, -evBin, -evLenSl, -evMinL, -evSliceSl]
    · rw [decide_eq_false h2] at b2
      obtain ⟨σ, A', h3, h4, h5⟩ := ev10p ha (by simp; omega) hi n q [] (.bool false)
      simp [hlx, hly, mn1, mn2, sx, sy, b1, b2, h3, h5, -evBin, -evLenSl, -evMinL, -evSliceSl]
  · rw [decide_eq_false h1] at b1
    obtain ⟨σ, A', h3, h4, h5⟩ := ev10p ha (by simp; omega) hi n q [] (.bool false)
    simp [hlx, hly, mn1, mn2, sx, sy, b1, h3, h5, -evBin, -evLenSl, -evMinL, -evSliceSl]
theorem ev10L (args : List AV) (h : LawArgs Try.prog 8 Try.f10.params.toList args) : ∃ fuel, evP (envOf GC fsN) fuel mf10 1 args = some (.bool true) := by
  rw [Try.params10] at h
  obtain ⟨a, r, rfl, h0, h⟩ := h.cons
  obtain ⟨b, r, rfl, h1, h⟩ := h.cons
  obtain ⟨c, r, rfl, h2, h⟩ := h.cons
  obtain ⟨d, r, rfl, h3, h⟩ := h.cons
  obtain rfl := h.nil
  obtain ⟨n, rfl, hn⟩ := TA.i64 Try.underlying3 h0
  obtain ⟨l, hl⟩ := arcs_arg (n := 5) h1
  obtain ⟨q, rfl, hq⟩ := TA.i64 Try.underlying3 h2
  obtain ⟨ls, hy, hym, hyr⟩ := TA.ints Try.underlying24 Try.underlying3 (by kernel_rfl) h3
  exact ⟨50, ev10 hl hy hym hyr n q⟩
end Go.Proofs.Ytfmlfekcdbfioaa
