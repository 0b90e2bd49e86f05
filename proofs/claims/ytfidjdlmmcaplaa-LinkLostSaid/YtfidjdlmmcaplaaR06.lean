/-
  What the proof is built on (L26 to L26).
-/
import Derived.Test.YtfidjdlmmcaplaaR05
/-
  Link: the law Lost, run.
-/
namespace Go.Proofs.Ytfidjdlmmcaplaa
open Go

set_option maxRecDepth 100000 in
theorem loop9 {A : Arena} {v0 v1 v2 v4 : AV} {a : Nat} {qv lv : AV} (hE : EndAt A a metS qv lv) (b : Nat) (hb : ∀ j, j ∈ own a qv lv → b ≤ j) (hbA : b ≤ A.length) {m : Nat} (hm : m ≤ 20) (h0 : v0 = .int .i64 (m : Int)) :
    ∃ B qv', iter (evC (envOf GW fsL) 300 lp9x0) mask9x0 300 (st9x0 v0 v1 v2 v4 (.ptr a 0 0) (.int .i64 0)) A = some (.exit 0 ((st9x0 v0 v1 v2 v4 (.ptr a 0 0) (.int .i64 (m : Int))).set 15 (.bool false)) B) ∧
      EndAt B a (stN metS m) qv' lv ∧ (∀ j, j ∈ own a qv' lv → b ≤ j) ∧ A.length ≤ B.length ∧ ∀ j, j < b → B[j]? = A[j]? := by
  obtain ⟨o, h1, B, qv', rfl, h2⟩ := iter_inv (E := envOf GW fsL) (fuel := 300) (a := lp9x0) (mask := mask9x0)
    (fun κ σ A' => ∃ i qv', i + κ = m ∧ σ = st9x0 v0 v1 v2 v4 (.ptr a 0 0) (.int .i64 (i : Int)) ∧ EndAt A' a (stN metS i) qv' lv ∧ (∀ j, j ∈ own a qv' lv → b ≤ j) ∧ A.length ≤ A'.length ∧ ∀ j, j < b → A'[j]? = A[j]?)
    (fun o => ∃ B qv', o = .exit 0 ((st9x0 v0 v1 v2 v4 (.ptr a 0 0) (.int .i64 (m : Int))).set 15 (.bool false)) B ∧ EndAt B a (stN metS m) qv' lv ∧ (∀ j, j ∈ own a qv' lv → b ≤ j) ∧ A.length ≤ B.length ∧ ∀ j, j < b → B[j]? = A[j]?)
    (by
      rintro κ σ A' ⟨i, qv', hik, rfl, g1, g2, g3, g4⟩
      rw [cl9x0]
      have b1 := evLss (i : Int) (m : Int)
      by_cases hi : i < m
      · obtain ⟨C, q2, c1, c2, c3, c4⟩ := send_step g1 (by omega) (fun _ _ _ => none)
        have m17 := M17_eq (n := i + 1) (by omega)
        have b2 := evAdd (a := 1) (b := (i : Int)) (by omega)
        have b3 := evAdd (a := (i : Int)) (b := 1) (by omega)
        rw [show (1 : Int) + (i : Int) = ((i + 1 : Nat) : Int) by omega] at b2
        rw [show (i : Int) + 1 = ((i + 1 : Nat) : Int) by omega] at b3
        rw [decide_eq_true (by omega)] at b1
        obtain ⟨i1, hi1⟩ : ∃ i1, i1 = i + 1 := ⟨_, rfl⟩
        obtain ⟨T, hT⟩ : ∃ T, T = txt (i + 1) := ⟨_, rfl⟩
        rw [← hi1] at b2 b3
        rw [← hT] at m17 c1
        rw [← hi1] at m17
        refine .inl ⟨st9x0 v0 v1 v2 v4 (.ptr a 0 0) (.int .i64 (i1 : Int)), C, ?_, κ - 1, by omega, i1, q2, by omega, rfl, by rw [hi1]; exact c2, fun j hj => (c4 j hj).elim (g2 j) (fun h => by omega), Nat.le_trans g3 c3.1, fun j hj => ?_⟩
        · subst h0
          simp [lp9x0, b1, b2, b3, m17, c1, -evBin]
        · rw [c3.2 j (by omega) (fun h => by have := g2 j h; omega)]
          exact g4 j hj
      · obtain rfl : i = m := by omega
        rw [decide_eq_false (by omega)] at b1
        subst h0
        refine .inr ⟨_, ?_, (fun _ _ h => by cases h), A', qv', rfl, g1, g2, g3, g4⟩
        simp [lp9x0, b1, -evBin])
    300 m (st9x0 v0 v1 v2 v4 (.ptr a 0 0) (.int .i64 0)) A (by omega) ⟨0, qv, by omega, rfl, by rw [stN_zero rfl rfl]; exact hE, hb, Nat.le_refl _, fun _ _ => rfl⟩
  exact ⟨B, qv', h1, h2⟩
set_option maxRecDepth 100000 in
theorem loop9b {A : Arena} {v2 v4 v5 lv : AV} {k d : Nat} (hS : SlP 1 A lv (((List.range k).map fun i => txt (d + i + 1)).map .str)) (hk : k ≤ 20) (hd : d ≤ 8) :
    iter (evC (envOf GW fsL) 300 lp9x1) mask9x1 300 (st9x1 (.int .i64 (d : Int)) v2 v4 v5 lv (.int .i64 0)) A = some (.exit 2 ((st9x1 (.int .i64 (d : Int)) v2 v4 v5 lv (.int .i64 (k : Int))).set 17 (.bool false)) A) := by
  have hlen := hS.len
  simp only [List.length_map, List.length_range] at hlen
  obtain ⟨o, h1, rfl⟩ := iter_inv (E := envOf GW fsL) (fuel := 300) (a := lp9x1) (mask := mask9x1)
    (fun κ σ A' => ∃ i, i + κ = k ∧ σ = st9x1 (.int .i64 (d : Int)) v2 v4 v5 lv (.int .i64 (i : Int)) ∧ A' = A)
    (fun o => o = .exit 2 ((st9x1 (.int .i64 (d : Int)) v2 v4 v5 lv (.int .i64 (k : Int))).set 17 (.bool false)) A)
    (by
      rintro κ σ A' ⟨i, hik, rfl, rfl⟩
      rw [cl9x1]
      have b1 := evLss (i : Int) (k : Int)
      by_cases hi : i < k
      · rw [decide_eq_true (by omega)] at b1
        obtain ⟨r, es, _, e2, e3, e4⟩ := hS.index (i := i) (by simpa using hi) (by decide) .i64
        have ld : evLoad false 1 A' (.ptr r i 0) = some (.str (txt (d + i + 1))) := by
          simp only [evLoad, e2, e3]
          simp
        have b2 := evAdd (a := 1) (b := (d : Int)) (by omega)
        have b3 := evAdd (a := 1 + (d : Int)) (b := (i : Int)) (by omega)
        rw [show 1 + (d : Int) + (i : Int) = ((d + i + 1 : Nat) : Int) by omega] at b3
        obtain ⟨d1, hd1⟩ : ∃ d1, d1 = 1 + (d : Int) := ⟨_, rfl⟩
        rw [← hd1] at b2 b3
        have m17 := M17_eq (n := d + i + 1) (by omega)
        obtain ⟨w, hw⟩ : ∃ w, w = d + i + 1 := ⟨_, rfl⟩
        rw [← hw] at b3 m17 ld
        have b4 := evAdd (a := (i : Int)) (b := 1) (by omega)
        rw [show (i : Int) + 1 = ((i + 1 : Nat) : Int) by omega] at b4
        obtain ⟨i1, hi1⟩ : ∃ i1, i1 = i + 1 := ⟨_, rfl⟩
        rw [← hi1] at b4
        have b5 : evBin .neq (.str (txt w)) (.str (txt w)) = some (.bool false) := by simp [evBin]
        refine .inl ⟨_, A', ?_, κ - 1, by omega, i1, by omega, rfl, rfl⟩
        simp [lp9x1, hlen, b1, b2, b3, b4, b5, m17, e4, ld, -evBin, -evIndexSl, -evLoad, -evLenSl]
      · obtain rfl : i = k := by omega
        rw [decide_eq_false (by omega)] at b1
        refine .inr ⟨_, ?_, (fun _ _ h => by cases h), rfl⟩
        simp [lp9x1, hlen, b1, -evBin, -evLenSl])
    300 k (st9x1 (.int .i64 (d : Int)) v2 v4 v5 lv (.int .i64 0)) A (by omega) ⟨0, by omega, rfl, rfl⟩
  exact h1
set_option maxRecDepth 100000 in
set_option maxHeartbeats 16000000 in
theorem ev9 {x y z : Int} (hx : inI x) (hy : inI y) (hz : inI z) : evP (envOf GW fsL) 300 mf9 1 [.int .i64 x, .int .i64 y, .int .i64 z] = some (.bool true) := by
  have pm := pick_range x 21 (by omega)
  have m1 := M15_eq hx (show (0 : Int) < 21 by omega)
  obtain ⟨m, hm⟩ : ∃ m : Nat, (m : Int) = pick x 21 := ⟨(pick x 21).toNat, by omega⟩
  rw [← hm] at m1 pm
  have mn := minL_nat m 8
  rw [show ((8 : Nat) : Int) = 8 from rfl] at mn
  obtain ⟨w, hw⟩ : ∃ w, w = min m 8 := ⟨_, rfl⟩
  rw [← hw] at mn
  have b1 := evAdd (a := (w : Int)) (b := 1) (by omega)
  have pd := pick_range y ((w : Int) + 1) (by omega)
  have m2 := M15_eq hy (show (0 : Int) < (w : Int) + 1 by omega)
  obtain ⟨d, hd⟩ : ∃ d : Nat, (d : Int) = pick y ((w : Int) + 1) := ⟨(pick y ((w : Int) + 1)).toNat, by omega⟩
  rw [← hd] at m2 pd
  obtain ⟨w1, hw1⟩ : ∃ w1, w1 = (w : Int) + 1 := ⟨_, rfl⟩
  rw [← hw1] at b1 m2 pd
  have hd8 : d ≤ 8 ∧ d ≤ m := by omega
  obtain ⟨k, rfl⟩ : ∃ k, m = d + k := ⟨m - d, by omega⟩
  have pp := pick_range z 100 (by omega)
  have m3 := M15_eq hz (show (0 : Int) < 100 by omega)
  obtain ⟨p0, hp0⟩ : ∃ p0, p0 = pick z 100 := ⟨_, rfl⟩
  rw [← hp0] at m3 pp
  have b2 := evAdd (a := 6) (b := p0) (by omega)
  obtain ⟨p, hp⟩ : ∃ p, p = 6 + p0 := ⟨_, rfl⟩
  rw [← hp] at b2
  have hp6 : 6 ≤ p ∧ p ≤ 200 := by omega
  have b3 := evSub (a := ((d + k : Nat) : Int)) (b := (d : Int)) (by omega)
  rw [show ((d + k : Nat) : Int) - (d : Int) = (k : Int) by omega] at b3
  -- the run
  obtain ⟨A1, b, q1, l1, v1, g1, i1, F1⟩ := ev41 (fun _ _ _ => none) []
  rw [show ([] : Arena).length = 0 from rfl] at v1 g1 i1
  obtain ⟨A2, q2, lp, g2, i2, n2, k2⟩ := loop9 (v0 := .int .i64 ((d + k : Nat) : Int)) (v1 := .int .i64 (d : Int)) (v2 := .int .i64 z) (v4 := .bool true) g1 0 (fun _ _ => by omega) (by omega) (m := d + k) (by omega) rfl
  obtain ⟨A3, o3, v3, g3, s3, i3, F3⟩ := ev19 g2 (fun _ _ _ => none) (met_bd (d + k))
  rw [tick_met] at g3
  obtain ⟨A4, o4, v4, q4, l4, g4, s4, i4, j4, F4⟩ := ev23 (fun _ _ _ => none) g3 (by unfold fmS stN metS; simp) (by rw [fmS_len]; omega) (by unfold fmS stN metS; simp) (fAck (d : Int))
  rw [rec_ack hd8.1] at g4
  have w4 := ev27 g4 (fun _ _ _ => none)
  have hl4 : (akS d k).queue.length = k := by simp [akS]
  rw [hl4] at w4
  obtain ⟨A5, v5, g5, F5⟩ := ev28 g4 (fun _ _ _ => none)
  have e5 : { akS d k with lost := [] } = akS d k := rfl
  rw [e5] at g5
  have n5 := g4.2.2.1.len
  have n5' : evLenSl l4 = some (.int .i64 0) := n5
  obtain ⟨A6, o6, v6, q6, l6, g6, s6, i6, j6, F6⟩ := ev23 (fun _ _ _ => none) g5 (by unfold akS fmS stN metS; simp) (by rw [hl4]; omega) (by unfold akS fmS stN metS; simp) (fNew p)
  rw [rec_new hp6] at g6
  obtain ⟨A7, v7, g7, F7⟩ := ev28 g6 (fun _ _ _ => none)
  have S7 : SlP 1 A7 l6 (((List.range k).map fun i => txt (d + i + 1)).map .str) := g6.2.2.1.keep fun j hj => F7.2 j (g6.2.2.1.low j hj) (fun h => by
    rw [List.mem_singleton] at h
    subst h
    exact g6.2.2.2.2.1 hj)
  have e7 : { loS k d p with lost := [] } = loS 0 0 p := rfl
  rw [e7] at g7
  obtain ⟨A8, v8, g8, F8⟩ := ev28 g7 (fun _ _ _ => none)
  have e8 : { loS 0 0 p with lost := [] } = loS 0 0 p := rfl
  rw [e8] at g8
  have w8 := ev27 g8 (fun _ _ _ => none)
  have w8' : H27 (fun _ _ _ => none) [.ptr 0 0 0] A8 = some (.int .i64 0, A8) := w8
  have S8 : SlP 1 A8 l6 (((List.range k).map fun i => txt (d + i + 1)).map .str) := S7.keep fun j hj => F8.2 j (S7.low j hj) (fun h => by
    rw [List.mem_singleton] at h
    subst h
    exact g6.2.2.2.2.1 hj)
  have n8 := S8.len
  simp only [List.length_map, List.length_range] at n8
  have lp2 := loop9b (v2 := .int .i64 z) (v4 := .bool true) (v5 := .ptr 0 0 0) S8 (by omega) hd8.1
  obtain ⟨A9, o9, v9, q9, l9, g9, s9, i9, j9, F9⟩ := ev23 (fun _ _ _ => none) g8 (by simp [loS]) (by simp [loS]) (by simp [loS]) (fOld p)
  rw [rec_old hp6] at g9
  obtain ⟨A10, q10, v10, g10, F10, i10⟩ := ev16 g9 (fun _ _ _ => none) (b := bNew) (by unfold sendOk liS bNew; simp) (by simp [liS])
  rw [send_new] at g10
  obtain ⟨A11, o11, v11, g11, s11, i11, F11⟩ := ev19 g10 (fun _ _ _ => none) (lsS_bd p)
  rw [tick_new hp6.1] at s11
  have n11 := frLen s11
  have n11' : evLenSl o11 = some (.int .i64 1) := n11
  obtain ⟨r11, x11, l11⟩ := frAt s11 (i := 0) (by simp)
  have x11' : evIndexSl 5 A11 o11 (.int .i64 0) = some (.ptr r11 0 0) := x11
  have l11' : evLoad true 5 A11 (.ptr r11 0 0) = some (.agg [.int .i64 1, .int .i64 p, .int .i64 1, .int .i64 0, .str [110, 101, 119]]) := l11
  have v4' : H23 (fun _ _ _ => none) [.ptr 0 0 0, .agg [.int .i64 5, .int .i64 1, .int .i64 0, .int .i64 (d : Int), .str []]] A3 = some (o4, A4) := v4
  have v6' : H23 (fun _ _ _ => none) [.ptr 0 0 0, .agg [.int .i64 p, .int .i64 0, .int .i64 0, .int .i64 0, .str []]] A5 = some (o6, A6) := v6
  have v9' : H23 (fun _ _ _ => none) [.ptr 0 0 0, .agg [.int .i64 p, .int .i64 1, .int .i64 0, .int .i64 0, .str []]] A8 = some (o9, A9) := v9
  have v10' : H16 (fun _ _ _ => none) [.ptr 0 0 0, .str [110, 101, 119]] A9 = some (.int .i64 0, A10) := v10
  have v1' : H41 (fun _ _ _ => none) [] [] = some (.tup [.ptr 0 0 0, .ptr b 0 0, .bool true], A1) := v1
  obtain ⟨M, hM⟩ : ∃ M : Nat, M = d + k := ⟨_, rfl⟩
  rw [← hM] at m1 mn lp b3
  have c1 : evBin .neq (.int .i64 (k : Int)) (.int .i64 (k : Int)) = some (.bool false) := by rw [evNeq, decide_eq_false (by simp)]
  have c2 : evBin .neq (.int .i64 0) (.int .i64 0) = some (.bool false) := rfl
  have c3 : evBin .eql (.int .i64 1) (.int .i64 1) = some (.bool true) := rfl
  have n8' : evLenSl .nilS = some (.int .i64 0) := rfl
  have mn' : evMin2 false (.int .i64 (M : Int)) (.int .i64 8) = some (.int .i64 (w : Int)) := by simpa using mn
  rw [evP_run _ _ rfl]
  simp [mf9, pH0, pH2, m1, m2, m3, mn', b1, b2, b3, v1', go9x0 lp, v3, v4', w4, v5, n5', v6', v7, v8, w8', n8, n8', go9x1 lp2, v9', v10', v11, n11', x11', l11', c1, c2, c3, -evBin, -evMin2, -evLenSl, -evIndexSl, -evLoad, -pureH]
theorem ev9L (args : List AV) (h : LawArgs Try.prog 8 Try.f9.params.toList args) : ∃ fuel, evP (envOf GW fsL) fuel mf9 1 args = some (.bool true) := by
  rw [Try.params9] at h
  obtain ⟨a, r, rfl, h0, h⟩ := h.cons
  obtain ⟨b, r, rfl, h1, h⟩ := h.cons
  obtain ⟨c, r, rfl, h2, h⟩ := h.cons
  obtain rfl := h.nil
  obtain ⟨x, rfl, hx⟩ := TA.i64 Try.underlying3 h0
  obtain ⟨y, rfl, hy⟩ := TA.i64 Try.underlying3 h1
  obtain ⟨z, rfl, hz⟩ := TA.i64 Try.underlying3 h2
  exact ⟨300, ev9 hx hy hz⟩
end Go.Proofs.Ytfidjdlmmcaplaa
