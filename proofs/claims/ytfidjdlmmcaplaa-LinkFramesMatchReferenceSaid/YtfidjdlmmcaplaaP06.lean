/-
  What the proof is built on (L18 to L23).
-/
import Derived.Test.YtfidjdlmmcaplaaP05
/-
  Link: the law Former, run.
-/
namespace Go.Proofs.Ytfidjdlmmcaplaa
open Go

/-- two ends that have met, n messages, a tick -/
def fmS (n : Nat) : EndS := { stN metS n with ticks := 2, queue := ((msgs n).take 8).map (fun q => { q with at_ := 2 }) ++ (msgs n).drop 8, owes := false }
theorem fmS_len (n : Nat) : (fmS n).queue.length = n := by
  unfold fmS
  have := msgs_len n
  simp only [List.length_append, List.length_map, List.length_take, List.length_drop]
  omega
theorem tick_met (n : Nat) : (tickS (stN metS n)).1 = fmS n := by
  have h1 : ∀ q ∈ (msgs n).take 8, sentQ 2 true q = { q with at_ := 2 } := by
    intro q hq
    have := msgs_at q (List.mem_of_mem_take hq)
    unfold sentQ dueS
    rw [this]
    rfl
  have h2 : tickS (stN metS n) = tick1 (stN metS n) := by
    unfold tickS
    rw [if_neg (by rintro ⟨h, _⟩; cases h)]
  rw [h2]
  unfold tick1
  rw [if_pos (show (stN metS n).peer > 0 from show (5 : Int) > 0 by omega)]
  unfold fmS
  have e : ((stN metS n).queue.take 8).map (sentQ ((stN metS n).ticks + 1) (stN metS n).heard) = ((msgs n).take 8).map (fun q => { q with at_ := 2 }) := List.map_congr_left h1
  rw [e]
  rfl
theorem tick_fmS (n : Nat) : (tickS (fmS n)).2 = [] := by
  have h2 : tickS (fmS n) = tick1 (fmS n) := by
    unfold tickS
    rw [if_neg (by rintro ⟨h, _⟩; cases h)]
  rw [h2]
  unfold tick1
  rw [if_pos (show (fmS n).peer > 0 from show (5 : Int) > 0 by omega)]
  simp only
  have : outS (fmS n) 3 = [] := by
    unfold outS
    rw [List.map_eq_nil_iff, List.filter_eq_nil_iff]
    intro q hq
    have h3 : (fmS n).queue.take 8 = ((msgs n).take 8).map (fun q => { q with at_ := 2 }) := by
      have hl := msgs_len n
      unfold fmS
      simp only
      by_cases h : 8 ≤ n
      · rw [List.take_append_of_le_length (by simp; omega), List.take_of_length_le (by simp; omega)]
      · rw [List.drop_of_length_le (by omega), List.append_nil, List.take_of_length_le (by simp; omega)]
    rw [h3] at hq
    obtain ⟨p, _, rfl⟩ := List.mem_map.1 hq
    exact fun h => by cases h
  unfold outO
  rw [show (fmS n).ticks + 1 = 3 from rfl, this]
  rfl
theorem fmS_bd (n : Nat) : Bd (fmS n) := by
  refine ⟨show (0 : Int) ≤ 2 ∧ (2 : Int) ≤ 1152921504606846975 by omega, fun q hq => ?_, show (0 : Int) ≤ 1 ∧ (1 : Int) ≤ 1152921504606846975 by omega⟩
  unfold fmS at hq
  rcases List.mem_append.1 hq with hq | hq
  · obtain ⟨p, _, rfl⟩ := List.mem_map.1 hq
    simp
  · have := msgs_at q (List.mem_of_mem_drop hq)
    omega
theorem met_bd (n : Nat) : Bd (stN metS n) := by
  refine ⟨show (0 : Int) ≤ 1 ∧ (1 : Int) ≤ 1152921504606846975 by omega, fun q hq => ?_, show (0 : Int) ≤ 1 ∧ (1 : Int) ≤ 1152921504606846975 by omega⟩
  have := msgs_at q hq
  omega
set_option maxRecDepth 100000 in
theorem loop10 {A : Arena} {v0 v2 v4 : AV} {a : Nat} {qv lv : AV} (hE : EndAt A a metS qv lv) (b : Nat) (hb : ∀ j, j ∈ own a qv lv → b ≤ j) (hbA : b ≤ A.length) {m : Nat} (hm : m ≤ 20) (h0 : v0 = .int .i64 (m : Int)) :
    ∃ B qv', iter (evC (envOf GW fsL) 300 lp10x0) mask10x0 300 (st10x0 v0 v2 v4 (.ptr a 0 0) (.int .i64 0)) A = some (.exit 0 ((st10x0 v0 v2 v4 (.ptr a 0 0) (.int .i64 (m : Int))).set 10 (.bool false)) B) ∧
      EndAt B a (stN metS m) qv' lv ∧ (∀ j, j ∈ own a qv' lv → b ≤ j) ∧ A.length ≤ B.length ∧ ∀ j, j < b → B[j]? = A[j]? := by
  obtain ⟨o, h1, B, qv', rfl, h2⟩ := iter_inv (E := envOf GW fsL) (fuel := 300) (a := lp10x0) (mask := mask10x0)
    (fun κ σ A' => ∃ i qv', i + κ = m ∧ σ = st10x0 v0 v2 v4 (.ptr a 0 0) (.int .i64 (i : Int)) ∧ EndAt A' a (stN metS i) qv' lv ∧ (∀ j, j ∈ own a qv' lv → b ≤ j) ∧ A.length ≤ A'.length ∧ ∀ j, j < b → A'[j]? = A[j]?)
    (fun o => ∃ B qv', o = .exit 0 ((st10x0 v0 v2 v4 (.ptr a 0 0) (.int .i64 (m : Int))).set 10 (.bool false)) B ∧ EndAt B a (stN metS m) qv' lv ∧ (∀ j, j ∈ own a qv' lv → b ≤ j) ∧ A.length ≤ B.length ∧ ∀ j, j < b → B[j]? = A[j]?)
    (by
      rintro κ σ A' ⟨i, qv', hik, rfl, g1, g2, g3, g4⟩
      rw [cl10x0]
      have b1 := evLss (i : Int) (m : Int)
      by_cases hi : i < m
      · obtain ⟨C, q2, c1, c2, c3, c4⟩ := send_step g1 (by omega) (fun _ _ _ => none)
        have m17 := M17_eq (n := i + 1) (by omega)
        have b2 := evAdd (a := 1) (b := (i : Int)) (by omega)
        have b3 := evAdd (a := (i : Int)) (b := 1) (by omega)
        rw [show (1 : Int) + (i : Int) = ((i + 1 : Nat) : Int) by omega] at b2
        rw [show (i : Int) + 1 = ((i + 1 : Nat) : Int) by omega] at b3
        rw [decide_eq_true (by omega)] at b1
        obtain ⟨i1, hi1⟩ : ∃ i1, i1 = i + 1 := ⟨_, rfl⟩
        obtain ⟨T, hT⟩ : ∃ T, T = txt (i + 1) := ⟨_, rfl⟩
        rw [← hi1] at b2 b3
        rw [← hT] at m17 c1
        rw [← hi1] at m17
        refine .inl ⟨st10x0 v0 v2 v4 (.ptr a 0 0) (.int .i64 (i1 : Int)), C, ?_, κ - 1, by omega, i1, q2, by omega, rfl, by rw [hi1]; exact c2, fun j hj => (c4 j hj).elim (g2 j) (fun h => by omega), Nat.le_trans g3 c3.1, fun j hj => ?_⟩
        · subst h0
          simp [lp10x0, b1, b2, b3, m17, c1, -evBin]
        · rw [c3.2 j (by omega) (fun h => by have := g2 j h; omega)]
          exact g4 j hj
      · obtain rfl : i = m := by omega
        rw [decide_eq_false (by omega)] at b1
        subst h0
        refine .inr ⟨_, ?_, (fun _ _ h => by cases h), A', qv', rfl, g1, g2, g3, g4⟩
        simp [lp10x0, b1, -evBin])
    300 m (st10x0 v0 v2 v4 (.ptr a 0 0) (.int .i64 0)) A (by omega) ⟨0, qv, by omega, rfl, by rw [stN_zero rfl rfl]; exact hE, hb, Nat.le_refl _, fun _ _ => rfl⟩
  exact ⟨B, qv', h1, h2⟩
set_option maxRecDepth 100000 in
set_option maxHeartbeats 8000000 in
theorem ev10 {c : Int} (hc : inI c) (f : FrS) (hf : inI f.fr) : evP (envOf GW fsL) 300 mf10 1 [.int .i64 c, frA f] = some (.bool true) := by
  obtain ⟨fr, to, seq, ack, body⟩ := f
  simp only at hf
  have pm := pick_range c 11 (by omega)
  have m1 := M15_eq hc (show (0 : Int) < 11 by omega)
  obtain ⟨m, hm⟩ : ∃ m : Nat, (m : Int) = pick c 11 := ⟨(pick c 11).toNat, by omega⟩
  rw [← hm] at m1 pm
  obtain ⟨A0, hA0⟩ : ∃ A0, A0 = [Ent.row 5 false [frA ⟨fr, to, seq, ack, body⟩]] := ⟨_, rfl⟩
  have bx : evBox 5 (frA ⟨fr, to, seq, ack, body⟩) [] = some (.ptr 0 0 0, A0) := by rw [hA0]; simp [evBox, frA]
  obtain ⟨A1, b, q1, l1, v1, g1, i1, F1⟩ := ev41 (fun _ _ _ => none) A0
  have h0l : A0.length = 1 := by rw [hA0]; rfl
  rw [h0l] at v1 g1 i1
  obtain ⟨A2, q2, lp, g2, i2, n2, k2⟩ := loop10 (v0 := .int .i64 (m : Int)) (v2 := .ptr 0 0 0) (v4 := .bool true) g1 1 i1 (by have := F1.1; omega) (m := m) (by omega) rfl
  have r2 : A2[0]? = some (.row 5 false [.agg [.int .i64 fr, .int .i64 to, .int .i64 seq, .int .i64 ack, .str body]]) := by
    rw [k2 0 (by omega), F1.2 0 (by omega) (by simp), hA0]
    rfl
  obtain ⟨A3, o3, v3, g3, s3, i3, F3⟩ := ev19 g2 (fun _ _ _ => none) (met_bd m)
  rw [tick_met] at g3
  have r3 : A3[0]? = some (.row 5 false [.agg [.int .i64 fr, .int .i64 to, .int .i64 seq, .int .i64 ack, .str body]]) := by
    rw [F3.2 0 (by have := F1.1; omega) (fun h => by have := i2 0 h; omega)]
    exact r2
  obtain ⟨bd, hbd⟩ : ∃ bd, bd = cut 1100 body := ⟨_, rfl⟩
  have sc := slice_cut 1100 body
  have mc := min_cut1100 body
  rw [← hbd] at sc
  obtain ⟨n3, hn3⟩ : ∃ n3, n3 = cutN 1100 body := ⟨_, rfl⟩
  rw [← hn3] at sc mc
  obtain ⟨R4, hR4⟩ : ∃ R, R = Ent.row 5 false [.agg [.int .i64 fr, .int .i64 to, .int .i64 seq, .int .i64 ack, .str bd]] := ⟨_, rfl⟩
  obtain ⟨A4, hA4⟩ : ∃ A4, A4 = A3.set 0 R4 := ⟨_, rfl⟩
  have h03 : 0 < A3.length := (List.getElem?_eq_some_iff.1 r3).1
  have r4 : A4[0]? = some (.row 5 false [.agg [.int .i64 fr, .int .i64 to, .int .i64 seq, .int .i64 ack, .str bd]]) := by
    rw [hA4, List.getElem?_set_self h03, hR4]
  have st4 : evStore 1 A3 (.ptr 0 0 4) (.str bd) = some A4 := by
    rw [hA4, hR4]
    simp [evStore, r3]
  have g4 : EndAt A4 1 (fmS m) q2 l1 := g3.keep fun j hj => by
    have := i2 j hj
    rw [hA4, List.getElem?_set_ne (by omega)]
  have mV := M34_eq ⟨fr, to, seq, ack, bd⟩
  -- the frame that is received
  have hrec : ∀ (g : FrS) (A5 : Arena), EndAt A5 1 (fmS m) q2 l1 → ¬ takes (fmS m) g →
      ∃ A6 o6 A7 A8 o8 l7, H23 (fun _ _ _ => none) [.ptr 1 0 0, frA g] A5 = some (o6, A6) ∧ evLenSl o6 = some (.int .i64 0) ∧ pureH 4 M25 (fun _ _ _ => none) [.ptr 1 0 0] A6 = some (.int .i64 5, A6) ∧ H27 (fun _ _ _ => none) [.ptr 1 0 0] A6 = some (.int .i64 (m : Int), A6) ∧
        H28 (fun _ _ _ => none) [.ptr 1 0 0] A6 = some (l7, A7) ∧ evLenSl l7 = some (.int .i64 0) ∧ H19 (fun _ _ _ => none) [.ptr 1 0 0] A7 = some (o8, A8) ∧ evLenSl o8 = some (.int .i64 0) := by
    intro g A5 g5 hg
    obtain ⟨A6, o6, v6, q6, l6, g6, s6, i6, j6, F6⟩ := ev23 (fun _ _ _ => none) g5 (by unfold fmS stN metS; simp) (by rw [fmS_len]; omega) (by unfold fmS stN metS; simp) g
    have e6 : receiveS (fmS m) g = (fmS m, []) := by unfold receiveS; rw [if_neg hg]
    rw [e6] at g6 s6
    obtain ⟨A7, v7, g7, F7⟩ := ev28 g6 (fun _ _ _ => none)
    obtain ⟨A8, o8, v8, g8, s8, i8, F8⟩ := ev19 g7 (fun _ _ _ => none) (fmS_bd m)
    have e8 : (tickS { fmS m with lost := [] }).2 = [] := tick_fmS m
    rw [e8] at s8
    have p6 := ev25 g6 (fun _ _ _ => none)
    have w6 := ev27 g6 (fun _ _ _ => none)
    rw [fmS_len] at w6
    exact ⟨A6, o6, A7, A8, o8, _, v6, s6.len, p6, w6, v7, g6.2.2.1.len, v8, s8.len⟩
  have rc := fun d0 d1 d2 d3 d4 d5 d6 => go10x0 (E := envOf GW fsL) (fuel := 300) (k := []) (d1 := d0) (d3 := d1) (d6 := d2) (d8 := d3) (d9 := d4) (d10 := d5) (d11 := d6) lp
  clear rc
  have e00 : evBin .eql (.int .i64 0) (.int .i64 0) = some (.bool true) := rfl
  have e55 : evBin .eql (.int .i64 5) (.int .i64 5) = some (.bool true) := rfl
  have emm : evBin .eql (.int .i64 (m : Int)) (.int .i64 (m : Int)) = some (.bool true) := by rw [evEql, decide_eq_true rfl]
  have b5 := evGeq fr 5
  have b6 := evEql to 0
  have b7 := evEql to 1
  rw [evP_run _ _ rfl]
  by_cases hv : okF ⟨fr, to, seq, ack, bd⟩ ∧ fr ≥ 5 ∧ (to = 0 ∨ to = 1)
  · have pf := pick_range fr 4 (by omega)
    have m2 := M15_eq hf (show (0 : Int) < 4 by omega)
    obtain ⟨z, hz⟩ : ∃ z, z = pick fr 4 := ⟨_, rfl⟩
    rw [← hz] at pf m2
    have b8 := evAdd (a := 1) (b := z) (by omega)
    obtain ⟨y, hy⟩ : ∃ y, y = 1 + z := ⟨_, rfl⟩
    rw [← hy] at b8
    obtain ⟨R5, hR5⟩ : ∃ R, R = Ent.row 5 false [.agg [.int .i64 y, .int .i64 to, .int .i64 seq, .int .i64 ack, .str bd]] := ⟨_, rfl⟩
    obtain ⟨A5, hA5⟩ : ∃ A5, A5 = A4.set 0 R5 := ⟨_, rfl⟩
    have h04 : 0 < A4.length := (List.getElem?_eq_some_iff.1 r4).1
    have r5 : A5[0]? = some (.row 5 false [.agg [.int .i64 y, .int .i64 to, .int .i64 seq, .int .i64 ack, .str bd]]) := by
      rw [hA5, List.getElem?_set_self h04, hR5]
    have st5 : evStore 1 A4 (.ptr 0 0 0) (.int .i64 y) = some A5 := by
      rw [hA5, hR5]
      simp [evStore, r4]
    have g5 : EndAt A5 1 (fmS m) q2 l1 := g4.keep fun j hj => by
      have := i2 j hj
      rw [hA5, List.getElem?_set_ne (by omega)]
    obtain ⟨A6, o6, A7, A8, o8, l7, w1, w2, w3, w4, w5, w6, w7, w8⟩ := hrec ⟨y, to, seq, ack, bd⟩ A5 g5 (by
      rintro ⟨_, _, h⟩
      have : (5 : Int) ≤ y := h
      omega)
    rw [decide_eq_true hv.1] at mV
    rw [decide_eq_true hv.2.1] at b5
    have e1 : frA ⟨y, to, seq, ack, bd⟩ = .agg [.int .i64 y, .int .i64 to, .int .i64 seq, .int .i64 ack, .str bd] := rfl
    have e2 : frA ⟨fr, to, seq, ack, bd⟩ = .agg [.int .i64 fr, .int .i64 to, .int .i64 seq, .int .i64 ack, .str bd] := rfl
    have e3 : frA ⟨fr, to, seq, ack, body⟩ = .agg [.int .i64 fr, .int .i64 to, .int .i64 seq, .int .i64 ack, .str body] := rfl
    rw [e1] at w1
    rw [e2] at mV
    rw [e3] at bx ⊢
    rcases hv.2.2 with h | h
    · rw [decide_eq_true h] at b6
      simp [mf10, e00, e55, emm, pH0, pH2, pHf, bx, v1, m1, go10x0 lp, v3, r3, mc, sc, st4, r4, mV, b5, b6, m2, b8, st5, r5, w1, w2, w3, w4, w5, w6, w7, w8, -evBox, -evStore, -evBin, -evMin2, -evSliceStr, -evLenSl, -pureH]
    · rw [decide_eq_true h] at b7
      rw [decide_eq_false (by omega)] at b6
      simp [mf10, e00, e55, emm, pH0, pH2, pHf, bx, v1, m1, go10x0 lp, v3, r3, mc, sc, st4, r4, mV, b5, b6, b7, m2, b8, st5, r5, w1, w2, w3, w4, w5, w6, w7, w8, -evBox, -evStore, -evBin, -evMin2, -evSliceStr, -evLenSl, -pureH]
  · obtain ⟨A6, o6, A7, A8, o8, l7, w1, w2, w3, w4, w5, w6, w7, w8⟩ := hrec ⟨fr, to, seq, ack, bd⟩ A4 g4 (by
      rintro ⟨h1, h2, h3⟩
      exact hv ⟨h1, h3, h2⟩)
    have e2 : frA ⟨fr, to, seq, ack, bd⟩ = .agg [.int .i64 fr, .int .i64 to, .int .i64 seq, .int .i64 ack, .str bd] := rfl
    have e3 : frA ⟨fr, to, seq, ack, body⟩ = .agg [.int .i64 fr, .int .i64 to, .int .i64 seq, .int .i64 ack, .str body] := rfl
    rw [e2] at mV w1
    rw [e3] at bx ⊢
    obtain ⟨d1, hd1⟩ : ∃ d, d = decide (okF ⟨fr, to, seq, ack, bd⟩) := ⟨_, rfl⟩
    obtain ⟨d2, hd2⟩ : ∃ d, d = decide (fr ≥ 5) := ⟨_, rfl⟩
    obtain ⟨d3, hd3⟩ : ∃ d, d = decide (to = 0) := ⟨_, rfl⟩
    obtain ⟨d4, hd4⟩ : ∃ d, d = decide (to = 1) := ⟨_, rfl⟩
    have hd : d1 = true → d2 = true → d3 = false ∧ d4 = false := by
      intro h1 h2
      rw [hd1] at h1
      rw [hd2] at h2
      have h3 := of_decide_eq_true h1
      have h4 := of_decide_eq_true h2
      rw [hd3, hd4]
      exact ⟨decide_eq_false fun h => hv ⟨h3, h4, .inl h⟩, decide_eq_false fun h => hv ⟨h3, h4, .inr h⟩⟩
    rw [← hd1] at mV
    rw [← hd2] at b5
    rw [← hd3] at b6
    rw [← hd4] at b7
    cases d1 with
    | false => simp [mf10, e00, e55, emm, pH0, pH2, pHf, bx, v1, m1, go10x0 lp, v3, r3, mc, sc, st4, r4, mV, w1, w2, w3, w4, w5, w6, w7, w8, -evBox, -evStore, -evBin, -evMin2, -evSliceStr, -evLenSl, -pureH]
    | true =>
      cases d2 with
      | false => simp [mf10, e00, e55, emm, pH0, pH2, pHf, bx, v1, m1, go10x0 lp, v3, r3, mc, sc, st4, r4, mV, b5, w1, w2, w3, w4, w5, w6, w7, w8, -evBox, -evStore, -evBin, -evMin2, -evSliceStr, -evLenSl, -pureH]
      | true =>
        obtain ⟨rfl, rfl⟩ := hd rfl rfl
        simp [mf10, e00, e55, emm, pH0, pH2, pHf, bx, v1, m1, go10x0 lp, v3, r3, mc, sc, st4, r4, mV, b5, b6, b7, w1, w2, w3, w4, w5, w6, w7, w8, -evBox, -evStore, -evBin, -evMin2, -evSliceStr, -evLenSl, -pureH]
end Go.Proofs.Ytfidjdlmmcaplaa
/-
  Link: the law Refuses, run.
-/
namespace Go.Proofs.Ytfidjdlmmcaplaa
open Go

/-- k zero bytes -/
def zer (k : Nat) : Bytes := List.replicate k 0
theorem zer_len (k : Nat) : (zer k).length = k := by simp [zer]
theorem u8s_zer : ∀ k : Nat, u8s (List.replicate k (.int .u8 0)) = some (List.replicate k 0)
  | 0 => rfl
  | k + 1 => by
    rw [List.replicate_succ, u8s, u8s_zer k]
    rfl
theorem mk_zer (A : Arena) (k : Nat) (hk : k ≤ 1000000) : evMake 1 1 (.int .u8 0) A (.int .i64 (k : Int)) (.int .i64 (k : Int)) = some (.sl A.length 0 k, A ++ [.row 1 false (List.replicate k (.int .u8 0))]) := by
  unfold evMake
  simp only
  rw [if_pos ⟨by omega, by omega, by omega, by omega, rfl, rfl, by omega⟩, Int.toNat_natCast]
theorem str_zer (A : Arena) (k : Nat) : evToStr (A ++ [.row 1 false (List.replicate k (.int .u8 0))]) (.sl A.length 0 k) = some (.str (zer k)) := by
  have h1 : srcElems 1 (A ++ [.row 1 false (List.replicate k (.int .u8 0))]) (.sl A.length 0 k) = some (List.replicate k (.int .u8 0)) := by
    simp [srcElems]
  simp only [evToStr, h1, u8s_zer, Option.map_some, zer, List.map_replicate]
  rfl
def zS (n : Nat) : EndS := { newS 1 with queue := (List.range n).map fun (i : Nat) => (⟨1 + (i : Int), zer 1024, 0⟩ : QE), next := 1 + n }
theorem zS_len (n : Nat) : (zS n).queue.length = n := by simp [zS]
theorem zS_zero : zS 0 = newS 1 := rfl
theorem zS_succ (n : Nat) : sendS (zS n) (zer 1024) = zS (n + 1) := by
  unfold sendS zS
  simp only [List.range_succ, List.map_append, List.map_cons, List.map_nil]
  congr 1
set_option maxRecDepth 100000 in
theorem loop11 {A : Arena} {v3 v5 : AV} {a : Nat} (hE : EndAt A a (newS 1) .nilS .nilS) (b : Nat) (hba : b ≤ a) :
    ∃ B qv', iter (evC (envOf GW fsL) 300 lp11x0) mask11x0 300 (st11x0 v3 v5 (.ptr a 0 0) (.int .i64 0)) A = some (.exit 0 ((st11x0 v3 v5 (.ptr a 0 0) (.int .i64 64)).set 15 (.bool false)) B) ∧
      EndAt B a (zS 64) qv' .nilS ∧ A.length ≤ B.length ∧ ∀ j, j < b → B[j]? = A[j]? := by
  have haA : a < A.length := hE.low a (mem_own.2 (.inl rfl))
  obtain ⟨o, h1, B, qv', rfl, h2⟩ := iter_inv (E := envOf GW fsL) (fuel := 300) (a := lp11x0) (mask := mask11x0)
    (fun κ σ A' => ∃ i qv', i + κ = 64 ∧ σ = st11x0 v3 v5 (.ptr a 0 0) (.int .i64 (i : Int)) ∧ EndAt A' a (zS i) qv' .nilS ∧ (∀ j, j ∈ own a qv' .nilS → b ≤ j) ∧ A.length ≤ A'.length ∧ ∀ j, j < b → A'[j]? = A[j]?)
    (fun o => ∃ B qv', o = .exit 0 ((st11x0 v3 v5 (.ptr a 0 0) (.int .i64 64)).set 15 (.bool false)) B ∧ EndAt B a (zS 64) qv' .nilS ∧ A.length ≤ B.length ∧ ∀ j, j < b → B[j]? = A[j]?)
    (by
      rintro κ σ A' ⟨i, qv', hik, rfl, g1, g2, g3, g4⟩
      rw [cl11x0]
      have b1 := evLss (i : Int) 64
      by_cases hi : i < 64
      · have mk := mk_zer A' 1024 (by omega)
        have sz := str_zer A' 1024
        obtain ⟨R, hR⟩ : ∃ R, R = Ent.row 1 false (List.replicate 1024 (.int .u8 0)) := ⟨_, rfl⟩
        rw [← hR] at mk sz
        obtain ⟨A2, hA2⟩ : ∃ A2, A2 = A' ++ [R] := ⟨_, rfl⟩
        rw [← hA2] at mk sz
        have hF : Fr A' A2 [] := by rw [hA2]; exact Fr.app _ _ _
        have g1' := g1.beside hF (fun j _ => by simp)
        obtain ⟨C, q2, c1, c2, c3, c4⟩ := ev16 g1' (fun _ _ _ => none) (b := zer 1024) ⟨by rw [zer_len]; omega, by rw [zS_len]; omega⟩ (by simp [zS]; omega)
        rw [zS_succ] at c2
        have b3 := evAdd (a := (i : Int)) (b := 1) (by omega)
        rw [show (i : Int) + 1 = ((i + 1 : Nat) : Int) by omega] at b3
        rw [decide_eq_true (by omega)] at b1
        obtain ⟨i1, hi1⟩ : ∃ i1, i1 = i + 1 := ⟨_, rfl⟩
        obtain ⟨T, hT⟩ : ∃ T, T = zer 1024 := ⟨_, rfl⟩
        rw [← hi1] at b3
        rw [← hT] at sz c1
        refine .inl ⟨st11x0 v3 v5 (.ptr a 0 0) (.int .i64 (i1 : Int)), C, ?_, κ - 1, by omega, i1, q2, by omega, rfl, by rw [hi1]; exact c2, fun j hj => ?_, Nat.le_trans g3 (Nat.le_trans hF.1 c3.1), fun j hj => ?_⟩
        · have mk' : evMake 1 1 (.int .u8 0) A' (.int .i64 1024) (.int .i64 1024) = some (.sl A'.length 0 1024, A2) := mk
          have n1 : evBin .neq (.int .i64 0) (.int .i64 0) = some (.bool false) := rfl
          simp [lp11x0, b1, b3, mk', sz, c1, n1, -evBin, -evMake]
        · rcases mem_own.1 hj with h | h | h
          · omega
          · have := c4 j h
            have := hF.1
            omega
          · simp [idsOf] at h
        · rw [c3.2 j (by have := hF.1; omega) (fun h => by
            rw [List.mem_cons] at h
            have := g2 j (mem_own.2 (h.imp (fun h => h) .inl))
            omega), hF.2 j (by omega) (by simp)]
          exact g4 j hj
      · obtain rfl : i = 64 := by omega
        rw [decide_eq_false (by omega)] at b1
        refine .inr ⟨_, ?_, (fun _ _ h => by cases h), A', qv', rfl, g1, g3, g4⟩
        have b1' : evBin .lss (.int .i64 64) (.int .i64 64) = some (.bool false) := b1
        simp [lp11x0, b1', -evBin])
    300 64 (st11x0 v3 v5 (.ptr a 0 0) (.int .i64 0)) A (by omega) ⟨0, .nilS, by omega, rfl, by rw [zS_zero]; exact hE, fun j hj => by rw [own_nil] at hj; simp at hj; omega, Nat.le_refl _, fun _ _ => rfl⟩
  exact ⟨B, qv', h1, h2⟩
theorem nil16 (h : Handler) (A : Arena) (b : Bytes) : H16 h [.nilP, .str b] A = some (.int .i64 1, A) := by
  unfold H16
  rw [evFun_run _ _ rfl]
  simp [mf16]
theorem nil19 (h : Handler) (A : Arena) : H19 h [.nilP] A = some (.nilS, A) := by
  unfold H19
  rw [evFun_run _ _ rfl]
  simp [mf19]
theorem nil23 (h : Handler) (A : Arena) (f : FrS) : H23 h [.nilP, frA f] A = some (.nilS, A ++ [.row 5 false [frA f]]) := by
  unfold H23
  rw [evFun_run _ _ rfl]
  simp [mf23, frA]
theorem nil25 (h : Handler) (A : Arena) : pureH 4 M25 h [.nilP] A = some (.int .i64 0, A) := by
  have m : M25 [.nilP] = some (.int .i64 0) := by
    unfold M25
    rw [evP_run _ _ rfl]
    simp [mf25]
  simp [m]
theorem nil26 (h : Handler) (A : Arena) : pureH 4 M26 h [.nilP] A = some (.int .i64 0, A) := by
  have m : M26 [.nilP] = some (.int .i64 0) := by
    unfold M26
    rw [evP_run _ _ rfl]
    simp [mf26]
  simp [m]
theorem nil27 (h : Handler) (A : Arena) : H27 h [.nilP] A = some (.int .i64 0, A) := by
  unfold H27
  rw [evFun_run _ _ rfl]
  simp [mf27]
theorem nil28 (h : Handler) (A : Arena) : H28 h [.nilP] A = some (.nilS, A) := by
  unfold H28
  rw [evFun_run _ _ rfl]
  simp [mf28]
set_option maxRecDepth 100000 in
set_option maxHeartbeats 8000000 in
theorem ev11 {e c : Int} (hc : inI c) (f : FrS) : evP (envOf GW fsL) 300 mf11 1 [.int .i64 e, .int .i64 c, frA f] = some (.bool true) := by
  have pm := pick_range c 9 (by omega)
  have m1 := M15_eq hc (show (0 : Int) < 9 by omega)
  obtain ⟨m, hm⟩ : ∃ m : Nat, (m : Int) = pick c 9 := ⟨(pick c 9).toNat, by omega⟩
  rw [← hm] at m1 pm
  obtain ⟨A0, hA0⟩ : ∃ A0, A0 = [Ent.row 5 false [frA f]] := ⟨_, rfl⟩
  have bx : evBox 5 (frA f) [] = some (.ptr 0 0 0, A0) := by rw [hA0]; simp [evBox, frA]
  have h0l : A0.length = 1 := by rw [hA0]; rfl
  -- the first end
  have first : ∃ A1 p er, H13 (fun _ _ _ => none) [.int .i64 e] A0 = some (.tup [p, .int .i64 er], A1) ∧ Fr A0 A1 [] ∧ ((1 ≤ e ∧ e ≤ 1000000 ∧ er = 0 ∧ p = .ptr 1 0 0) ∨ (¬ (1 ≤ e ∧ e ≤ 1000000) ∧ er = 260 ∧ p = .nilP)) := by
    by_cases he : 1 ≤ e ∧ e ≤ 1000000
    · obtain ⟨B, v, _, F⟩ := (ev13 (fun _ _ _ => none) A0 e).1 he
      rw [h0l] at v
      exact ⟨B, _, _, v, F, .inl ⟨he.1, he.2, rfl, rfl⟩⟩
    · exact ⟨A0, _, _, (ev13 (fun _ _ _ => none) A0 e).2 he, Fr.refl _ _, .inr ⟨he, rfl, rfl⟩⟩
  obtain ⟨A1, p, er, v1, F1, hp⟩ := first
  obtain ⟨A2, v2, g2, F2⟩ := (ev13 (fun _ _ _ => none) A1 1).1 (by omega)
  have r2 : A2[0]? = some (.row 5 false [frA f]) := by
    rw [F2.2 0 (by have := F1.1; omega) (by simp), F1.2 0 (by omega) (by simp), hA0]
    rfl
  -- a body that is too long
  have b2 := evAdd (a := 1025) (b := (m : Int)) (by omega)
  rw [show (1025 : Int) + (m : Int) = ((1025 + m : Nat) : Int) by omega] at b2
  obtain ⟨k, hk⟩ : ∃ k, k = 1025 + m := ⟨_, rfl⟩
  rw [← hk] at b2
  have w2 : IntKind.i64.wrap (1025 + (m : Int)) = (k : Int) := by rw [wrapI (by unfold inI; omega)]; omega
  have mk := mk_zer A2 k (by omega)
  have sz := str_zer A2 k
  obtain ⟨R, hR⟩ : ∃ R, R = Ent.row 1 false (List.replicate k (.int .u8 0)) := ⟨_, rfl⟩
  rw [← hR] at mk sz
  obtain ⟨A3, hA3⟩ : ∃ A3, A3 = A2 ++ [R] := ⟨_, rfl⟩
  rw [← hA3] at mk sz
  have F3 : Fr A2 A3 [] := by rw [hA3]; exact Fr.app _ _ _
  have g3 := g2.beside F3 (fun j _ => by simp)
  have s3 := ev16_no g3 (fun _ _ _ => none) (b := zer k) (by rintro ⟨h, _⟩; rw [zer_len] at h; omega)
  have w3 := ev27 g3 (fun _ _ _ => none)
  have w3' : H27 (fun _ _ _ => none) [.ptr A1.length 0 0] A3 = some (.int .i64 0, A3) := w3
  have h1l : 1 ≤ A1.length := by have := F1.1; omega
  obtain ⟨A4, q4, lp, g4, n4, k4⟩ := loop11 (v3 := .ptr 0 0 0) (v5 := .bool true) g3 1 h1l
  have r4 : A4[0]? = some (.row 5 false [frA f]) := by
    rw [k4 0 (by omega), F3.2 0 (List.getElem?_eq_some_iff.1 r2).1 (by simp)]
    exact r2
  have s4 := ev16_no g4 (fun _ _ _ => none) (b := [120]) (by rintro ⟨_, h⟩; rw [zS_len] at h; omega)
  have w4 := ev27 g4 (fun _ _ _ => none)
  rw [zS_len] at w4
  have w4' : H27 (fun _ _ _ => none) [.ptr A1.length 0 0] A4 = some (.int .i64 64, A4) := w4
  have hl := evLoad_row5 r4
  have n23 := nil23 (fun _ _ _ => none) A4 f
  obtain ⟨A5, hA5⟩ : ∃ A5, A5 = A4 ++ [Ent.row 5 false [frA f]] := ⟨_, rfl⟩
  rw [← hA5] at n23
  have c5 : (cellsOf (frA f)).length = 5 := rfl
  obtain ⟨F, hF⟩ : ∃ F, F = frA f := ⟨_, rfl⟩
  rw [← hF] at bx hl n23 c5 ⊢
  obtain ⟨T, hT⟩ : ∃ T, T = zer k := ⟨_, rfl⟩
  rw [← hT] at sz s3
  rw [evP_run _ _ rfl]
  rcases hp with ⟨h1, h2, rfl, rfl⟩ | ⟨h1, rfl, rfl⟩
  · simp [mf11, pH0, pH2, bx, v1, v2, h1, h2, m1, w2, mk, sz, s3, w3', go11x0 lp, s4, w4', hl, n23, nil16, nil19, nil25, nil26, nil27, nil28, c5, -evMake, -evBox, -evLoad, -pureH, -cellsOf]
  · rcases (show ¬ 1 ≤ e ∨ (1 ≤ e ∧ ¬ e ≤ 1000000) by omega) with h | ⟨h, h'⟩
    · simp [mf11, pH0, pH2, bx, v1, v2, h, m1, w2, mk, sz, s3, w3', go11x0 lp, s4, w4', hl, n23, nil16, nil19, nil25, nil26, nil27, nil28, c5, -evMake, -evBox, -evLoad, -pureH, -cellsOf]
    · simp [mf11, pH0, pH2, bx, v1, v2, h, h', m1, w2, mk, sz, s3, w3', go11x0 lp, s4, w4', hl, n23, nil16, nil19, nil25, nil26, nil27, nil28, c5, -evMake, -evBox, -evLoad, -pureH, -cellsOf]
end Go.Proofs.Ytfidjdlmmcaplaa
/-
  Link: the laws' arguments; Former and Refuses, for every argument.
-/
namespace Go.Proofs.Ytfidjdlmmcaplaa
open Go

set_option maxRecDepth 100000 in
theorem fr_arg {x : AV} {n : Nat} (h : TA Try.prog (n + 2) 42 x) : ∃ f : FrS, x = frA f ∧ inI f.fr ∧ inI f.to ∧ inI f.seq ∧ inI f.ack ∧ f.body.length ≤ 9223372036854775807 := by
  obtain ⟨ls, rfl, hc, hl⟩ := TA.agg (show aggT Try.prog 42 = true by kernel_rfl) h
  simp only [TC, Try.underlying42, TCs, Try.underlying3, Try.underlying9] at hc
  obtain ⟨_, _, rfl, ⟨a, rfl, ha⟩, _, _, _, rfl, ⟨b, rfl, hb⟩, _, _, _, rfl, ⟨c, rfl, hc'⟩, _, _, _, rfl, ⟨d, rfl, hd⟩, _, _, _, rfl, ⟨s, rfl, hs⟩, _, rfl⟩ := hc
  exact ⟨⟨a, b, c, d, s⟩, rfl, ha, hb, hc', hd, hs⟩
theorem ev10L (args : List AV) (h : LawArgs Try.prog 8 Try.f10.params.toList args) : ∃ fuel, evP (envOf GW fsL) fuel mf10 1 args = some (.bool true) := by
  rw [Try.params10] at h
  obtain ⟨a, r, rfl, h0, h⟩ := h.cons
  obtain ⟨b, r, rfl, h1, h⟩ := h.cons
  obtain rfl := h.nil
  obtain ⟨n, rfl, hn⟩ := TA.i64 Try.underlying3 h0
  obtain ⟨f, rfl, hf, _⟩ := fr_arg (n := 6) h1
  exact ⟨300, ev10 hn f hf⟩
theorem ev11L (args : List AV) (h : LawArgs Try.prog 8 Try.f11.params.toList args) : ∃ fuel, evP (envOf GW fsL) fuel mf11 1 args = some (.bool true) := by
  rw [Try.params11] at h
  obtain ⟨a, r, rfl, h0, h⟩ := h.cons
  obtain ⟨b, r, rfl, h1, h⟩ := h.cons
  obtain ⟨c, r, rfl, h2, h⟩ := h.cons
  obtain rfl := h.nil
  obtain ⟨n, rfl, hn⟩ := TA.i64 Try.underlying3 h0
  obtain ⟨m, rfl, hm⟩ := TA.i64 Try.underlying3 h1
  obtain ⟨f, rfl, hf, _⟩ := fr_arg (n := 6) h2
  exact ⟨300, ev11 hm f⟩
end Go.Proofs.Ytfidjdlmmcaplaa
/-
  Link: the laws RoundTrip and FramesMatchReference, run.
-/
namespace Go.Proofs.Ytfidjdlmmcaplaa
open Go

theorem dInt_enc {s p q : Bytes} {n : Int} (hs : s = p ++ enc (zig n) ++ q) (h1 : -4611686018427387903 ≤ n) (h2 : n ≤ 4611686018427387903) : dInt s p.length = some (n, (p ++ enc (zig n)).length) := by
  have h := getInt_enc p q n h1 h2
  unfold dInt
  rw [hs, h]
  simp
  omega
theorem dStr_enc {s p q t : Bytes} (hs : s = p ++ (enc (zig t.length) ++ t) ++ q) (ht : t.length ≤ 65536) : dStr s p.length = some (t, (p ++ (enc (zig t.length) ++ t)).length) := by
  have h := getStr_enc p q t ht
  unfold dStr
  rw [hs, h]
  simp
  omega
/-- what is written is read -/
theorem decA_enc {f : FrS} (hf : okF f) (q : Bytes) : decA (encF f ++ q) = if q = [] then .tup [frA f, .int .i64 0] else errA 10 := by
  obtain ⟨h1, h2, h3, h4, h5, h6, h7⟩ := id hf
  obtain ⟨s, hs⟩ : ∃ s, s = encF f ++ q := ⟨_, rfl⟩
  have hs' := hs
  unfold encF at hs'
  have d1 := dInt_enc (s := s) (p := []) (n := f.fr) (q := enc (zig f.to) ++ (enc (zig f.seq) ++ (enc (zig f.ack) ++ (enc (zig f.body.length) ++ f.body))) ++ q) (by rw [hs']; simp) (by omega) (by omega)
  have d2 := dInt_enc (s := s) (p := [] ++ enc (zig f.fr)) (n := f.to) (q := enc (zig f.seq) ++ (enc (zig f.ack) ++ (enc (zig f.body.length) ++ f.body)) ++ q) (by rw [hs']; simp) (by omega) (by omega)
  have d3 := dInt_enc (s := s) (p := [] ++ enc (zig f.fr) ++ enc (zig f.to)) (n := f.seq) (q := enc (zig f.ack) ++ (enc (zig f.body.length) ++ f.body) ++ q) (by rw [hs']; simp) (by omega) (by omega)
  have d4 := dInt_enc (s := s) (p := [] ++ enc (zig f.fr) ++ enc (zig f.to) ++ enc (zig f.seq)) (n := f.ack) (q := enc (zig f.body.length) ++ f.body ++ q) (by rw [hs']; simp) (by omega) (by omega)
  have d5 := dStr_enc (s := s) (p := [] ++ enc (zig f.fr) ++ enc (zig f.to) ++ enc (zig f.seq) ++ enc (zig f.ack)) (t := f.body) (q := q) (by rw [hs']; simp) (by omega)
  rw [← hs]
  unfold decA
  have d1' : dInt s 0 = some (f.fr, ([] ++ enc (zig f.fr)).length) := d1
  rw [d1']
  simp only
  rw [d2]
  simp only
  rw [d3]
  simp only
  rw [d4]
  simp only
  rw [d5]
  simp only
  unfold finA
  have hl : s.length = ([] ++ enc (zig f.fr) ++ enc (zig f.to) ++ enc (zig f.seq) ++ enc (zig f.ack) ++ (enc (zig f.body.length) ++ f.body)).length + q.length := by
    rw [hs']; simp; omega
  by_cases hq : q = []
  · subst hq
    rw [if_neg (by rw [hl]; simp), if_pos hf, if_pos rfl]
  · have : 0 < q.length := List.length_pos_iff.2 hq
    rw [if_pos (by omega), if_neg hq]
theorem take_cat {s : Bytes} {i j : Nat} (h : i ≤ j) : s.take i ++ (s.drop i).take (j - i) = s.take j := by
  have : j = i + (j - i) := by omega
  rw [this, List.take_add]
  congr 2
  omega
/-- what is read was written -/
theorem decA_cases {s : Bytes} (hl : s.length ≤ 1000000) : (∃ e : Int, (e = 10 ∨ e = 260) ∧ decA s = errA e) ∨ ∃ g : FrS, okF g ∧ decA s = .tup [frA g, .int .i64 0] ∧ s = encF g := by
  unfold decA
  rcases dInt_M (k := 0) (by omega) hl with ⟨d1, _, _⟩ | ⟨a, i, d1, _, _, hi0, hi, si, _, _⟩
  · rw [d1]; exact .inl ⟨10, .inl rfl, rfl⟩
  rw [d1]
  simp only
  rcases dInt_M (k := i) hi hl with ⟨d2, _, _⟩ | ⟨b, j, d2, _, _, hj0, hj, sj, _, _⟩
  · rw [d2]; exact .inl ⟨10, .inl rfl, rfl⟩
  rw [d2]
  simp only
  rcases dInt_M (k := j) hj hl with ⟨d3, _, _⟩ | ⟨c, k, d3, _, _, hk0, hk, sk, _, _⟩
  · rw [d3]; exact .inl ⟨10, .inl rfl, rfl⟩
  rw [d3]
  simp only
  rcases dInt_M (k := k) hk hl with ⟨d4, _, _⟩ | ⟨d, l, d4, _, _, hl0, hl2, sl, _, _⟩
  · rw [d4]; exact .inl ⟨10, .inl rfl, rfl⟩
  rw [d4]
  simp only
  rcases dStr_M (k := l) hl2 hl with ⟨d5, _⟩ | ⟨t, y, d5, _, hy0, hy, sy, _⟩
  · rw [d5]; exact .inl ⟨10, .inl rfl, rfl⟩
  rw [d5]
  simp only
  unfold finA
  by_cases hy2 : y < s.length
  · rw [if_pos hy2]; exact .inl ⟨10, .inl rfl, rfl⟩
  rw [if_neg hy2]
  by_cases hk2 : okF ⟨a, b, c, d, t⟩
  · rw [if_pos hk2]
    refine .inr ⟨_, hk2, rfl, ?_⟩
    have e1 : s.take i = enc (zig a) := by
      have := take_cat (s := s) (i := 0) (j := i) (by omega)
      rw [si] at this
      simpa using this.symm
    have e2 := take_cat (s := s) hj0
    rw [sj, e1] at e2
    have e3 := take_cat (s := s) hk0
    rw [sk, ← e2] at e3
    have e4 := take_cat (s := s) hl0
    rw [sl, ← e3] at e4
    have e5 := take_cat (s := s) hy0
    rw [sy, ← e4, List.take_of_length_le (by omega)] at e5
    rw [← e5]
    unfold encF
    simp only [List.append_assoc]
  · rw [if_neg hk2]; exact .inl ⟨260, .inr rfl, rfl⟩
theorem encF_len {f : FrS} (hf : okF f) : (encF f).length ≤ 2000 := by
  obtain ⟨h1, h2, h3, h4, h5, h6, h7⟩ := hf
  have l1 := enc_len10 (z := zig f.fr) (by have := zig_lt (n := f.fr) (by omega) (by omega); omega)
  have l2 := enc_len10 (z := zig f.to) (by have := zig_lt (n := f.to) (by omega) (by omega); omega)
  have l3 := enc_len10 (z := zig f.seq) (by have := zig_lt (n := f.seq) (by omega) (by omega); omega)
  have l4 := enc_len10 (z := zig f.ack) (by have := zig_lt (n := f.ack) (by omega) (by omega); omega)
  have l5 := enc_len10 (z := zig f.body.length) (by rw [zig_nat]; omega)
  unfold encF
  simp only [List.length_append]
  omega
noncomputable def fsF : List (FuncId × HModel) := [(12, pureH 4 M12), (30, pureH 4 M30), (31, pureH 4 M31), (32, pureH 4 M32), (33, pureH 4 M33), (34, pureH 4 M34), (35, pureH 4 M35)]
@[simp] theorem fsF_12 : lookM fsF 12 = some (pureH 4 M12) := rfl
@[simp] theorem fsF_30 : lookM fsF 30 = some (pureH 4 M30) := rfl
@[simp] theorem fsF_31 : lookM fsF 31 = some (pureH 4 M31) := rfl
@[simp] theorem fsF_32 : lookM fsF 32 = some (pureH 4 M32) := rfl
@[simp] theorem fsF_33 : lookM fsF 33 = some (pureH 4 M33) := rfl
@[simp] theorem fsF_34 : lookM fsF 34 = some (pureH 4 M34) := rfl
@[simp] theorem fsF_35 : lookM fsF 35 = some (pureH 4 M35) := rfl
theorem soundF : ∀ f M, lookM fsF f = some M → FnSpecY Try.prog GW f M :=
  lookM_cons (FnSpecY.of_pure (PureSpec.of_ev (E := envOf GW fs12) (envOf_sound sound12) rfl at12 comp12 5 fun _ _ h => ⟨300, h⟩) 4) (lookM_cons (FnSpecY.of_pure spec30p 4) (lookM_cons (FnSpecY.of_pure spec31 4) (lookM_cons (FnSpecY.of_pure spec32p 4) (lookM_cons (FnSpecY.of_pure spec33 4) (lookM_cons (FnSpecY.of_pure spec34 4) (lookM_cons (FnSpecY.of_pure spec35 4) lookM_nil))))))
set_option maxRecDepth 100000 in
set_option maxHeartbeats 16000000 in
theorem ev5 (f : FrS) (s : Bytes) : evP (envOf GW fsF) 300 mf5 1 [frA f, .str s] = some (.bool true) := by
  obtain ⟨fr, to, seq, ack, body⟩ := f
  obtain ⟨bd, hbd⟩ : ∃ bd, bd = cut 1100 body := ⟨_, rfl⟩
  have sc := slice_cut 1100 body
  have mc := min_cut1100 body
  rw [← hbd] at sc
  obtain ⟨n3, hn3⟩ : ∃ n3, n3 = cutN 1100 body := ⟨_, rfl⟩
  rw [← hn3] at sc mc
  obtain ⟨s1, hs1⟩ : ∃ s1, s1 = cut 100 s := ⟨_, rfl⟩
  have sc2 := slice_cut 100 s
  have mc2 := min_cut100 s
  have ls1 := cut_length 100 s
  rw [← hs1] at sc2 ls1
  obtain ⟨n4, hn4⟩ : ∃ n4, n4 = cutN 100 s := ⟨_, rfl⟩
  rw [← hn4] at sc2 mc2
  have m34 := M34_eq ⟨fr, to, seq, ack, bd⟩
  have m30 := M30_eq ⟨fr, to, seq, ack, bd⟩
  have m32 := M32_eq (s := s1) (by omega)
  have dc := decA_cases (s := s1) (by omega)
  unfold encA at m30
  have e2 : frA ⟨fr, to, seq, ack, bd⟩ = .agg [.int .i64 fr, .int .i64 to, .int .i64 seq, .int .i64 ack, .str bd] := rfl
  have e3 : frA ⟨fr, to, seq, ack, body⟩ = .agg [.int .i64 fr, .int .i64 to, .int .i64 seq, .int .i64 ack, .str body] := rfl
  rw [e2] at m34 m30
  rw [e3]
  rw [evP_run _ _ rfl]
  by_cases hv : okF ⟨fr, to, seq, ack, bd⟩
  · rw [decide_eq_true hv] at m34
    rw [if_pos hv] at m30
    have k1 := decA_enc hv []
    rw [if_pos rfl, List.append_nil] at k1
    have k2 := decA_enc hv [0]
    rw [if_neg (by simp)] at k2
    have hlen := encF_len hv
    have m32a := M32_eq (s := encF ⟨fr, to, seq, ack, bd⟩) (by omega)
    have m32b := M32_eq (s := encF ⟨fr, to, seq, ack, bd⟩ ++ [0]) (by simp; omega)
    rw [k1, e2] at m32a
    rw [k2] at m32b
    unfold errA frA zeroF at m32b
    obtain ⟨t, ht⟩ : ∃ t, t = encF ⟨fr, to, seq, ack, bd⟩ := ⟨_, rfl⟩
    rw [← ht] at m30 m32a m32b hlen
    have cat := evCat (a := t) (b := [0]) (by simp; omega)
    obtain ⟨t0, ht0⟩ : ∃ t0, t0 = t ++ [0] := ⟨_, rfl⟩
    rw [← ht0] at m32b cat
    have cat' : evBin .add (.str t) (.str [0]) = some (.str t0) := cat
    have q1 : evBin .eql (.int .i64 0) (.int .i64 0) = some (.bool true) := rfl
    have q2 : evBin .neq (.int .i64 0) (.int .i64 0) = some (.bool false) := rfl
    have q3 : evBin .neq (.int .i64 10) (.int .i64 10) = some (.bool false) := rfl
    have q4 : evBin .neq (.int .i64 10) (.int .i64 0) = some (.bool true) := rfl
    have q5 : evBin .neq (.int .i64 260) (.int .i64 0) = some (.bool true) := rfl
    rcases dc with ⟨e, he, k3⟩ | ⟨g, hg, k3, k4⟩
    · rw [k3] at m32
      unfold errA frA zeroF at m32
      rcases he with rfl | rfl
      · simp [mf5, sc, mc, sc2, mc2, m34, m30, m32, m32a, m32b, cat', q1, q2, q3, q4, q5, -evMin2, -evSliceStr, -evBin]
      · simp [mf5, sc, mc, sc2, mc2, m34, m30, m32, m32a, m32b, cat', q1, q2, q3, q4, q5, -evMin2, -evSliceStr, -evBin]
    · rw [k3] at m32
      have m30g := M30_eq g
      unfold encA at m30g
      rw [if_pos hg, ← k4] at m30g
      obtain ⟨a, b, c, d, u⟩ := g
      unfold frA at m32 m30g
      have q6 : evBin .eql (.str s1) (.str s1) = some (.bool true) := by rw [evEqlStr, decide_eq_true rfl]
      simp [mf5, sc, mc, sc2, mc2, m34, m30, m32, m32a, m32b, m30g, cat', q1, q2, q3, q4, q5, q6, -evMin2, -evSliceStr, -evBin]
  · rw [decide_eq_false hv] at m34
    rw [if_neg hv] at m30
    rcases dc with ⟨e, he, k3⟩ | ⟨g, hg, k3, k4⟩
    · rw [k3] at m32
      unfold errA frA zeroF at m32
      rcases he with rfl | rfl
      · simp [mf5, sc, mc, sc2, mc2, m34, m30, m32, -evMin2, -evSliceStr]
      · simp [mf5, sc, mc, sc2, mc2, m34, m30, m32, -evMin2, -evSliceStr]
    · rw [k3] at m32
      have m30g := M30_eq g
      unfold encA at m30g
      rw [if_pos hg, ← k4] at m30g
      obtain ⟨a, b, c, d, u⟩ := g
      unfold frA at m32 m30g
      simp [mf5, sc, mc, sc2, mc2, m34, m30, m32, m30g, -evMin2, -evSliceStr]
theorem ev5L (args : List AV) (h : LawArgs Try.prog 8 Try.f5.params.toList args) : ∃ fuel, evP (envOf GW fsF) fuel mf5 1 args = some (.bool true) := by
  rw [Try.params5] at h
  obtain ⟨a, r, rfl, h0, h⟩ := h.cons
  obtain ⟨b, r, rfl, h1, h⟩ := h.cons
  obtain rfl := h.nil
  obtain ⟨f, rfl, hf, _⟩ := fr_arg (n := 6) h0
  obtain ⟨s, rfl, _⟩ := TA.str Try.underlying9 h1
  exact ⟨300, ev5 f s⟩
theorem decA_form {s : Bytes} (hl : s.length ≤ 1000000) : ∃ (a b c d : Int) (t : Bytes) (e : Int), decA s = .tup [.agg [.int .i64 a, .int .i64 b, .int .i64 c, .int .i64 d, .str t], .int .i64 e] := by
  rcases decA_cases hl with ⟨e, _, h⟩ | ⟨g, _, h, _⟩
  · exact ⟨0, 0, 0, 0, [], e, h⟩
  · exact ⟨g.fr, g.to, g.seq, g.ack, g.body, 0, h⟩
set_option maxRecDepth 100000 in
theorem round4 {A : Arena} {r i : Nat} {k : Int} {s : Bytes} {es : List AV} {v2 v4 v5 v6 v7 v8 : AV} (hr : A[r]? = some (.row 1 false es)) (he : es[i]? = some (.str s)) (hi : i < 4) (hl : s.length ≤ 1000000) (hk : k = (i : Int)) :
    ∃ X, run (envOf GW fsF) 300 [.code lp4x0] (st4x0 v2 v4 v5 v6 v7 v8 (.sl r 0 4) (.int .i64 4) (.int .i64 k)) A = some (.normal (st4x0 v2 v4 v5 v6 v7 v8 (.sl r 0 4) (.int .i64 4) (.int .i64 (k + 1))) (A ++ X)) := by
  obtain ⟨a, b, c, d, t, e, h⟩ := decA_form hl
  have m1 := M32_eq hl
  have m2 := M33_eq hl
  rw [h] at m1 m2
  have b1 := evLss k 4
  rw [decide_eq_true (by omega)] at b1
  have b2 := evAdd (a := k) (b := 1) (by omega)
  have ix : evIndexSl 1 A (.sl r 0 4) (.int .i64 k) = some (.ptr r i 0) := by
    subst hk
    simp [evIndexSl, hr, hi]
    omega
  have ld : evLoad false 1 A (.ptr r i 0) = some (.str s) := by
    simp [evLoad, hr, he]
  have b3 : evBin .neq (.int .i64 e) (.int .i64 e) = some (.bool false) := by rw [evNeq, decide_eq_false (by simp)]
  obtain ⟨k1, hk1⟩ : ∃ k1, k1 = k + 1 := ⟨_, rfl⟩
  rw [← hk1] at b2 ⊢
  obtain ⟨F, hF⟩ : ∃ F, F = AV.agg [.int .i64 a, .int .i64 b, .int .i64 c, .int .i64 d, .str t] := ⟨_, rfl⟩
  have st1 : evStore 5 (A ++ [Ent.row 5 false [.agg [.int .i64 0, .int .i64 0, .int .i64 0, .int .i64 0, .str []]]]) (.ptr A.length 0 0) F = some (A ++ [Ent.row 5 false [F]]) := by
    rw [hF]
    simp [evStore]
  obtain ⟨B, hB⟩ : ∃ B, B = A ++ [Ent.row 5 false [F]] := ⟨_, rfl⟩
  have st2 : evStore 5 (B ++ [Ent.row 5 false [.agg [.int .i64 0, .int .i64 0, .int .i64 0, .int .i64 0, .str []]]]) (.ptr B.length 0 0) F = some (B ++ [Ent.row 5 false [F]]) := by
    rw [hF]
    simp [evStore]
  obtain ⟨C, hC⟩ : ∃ C, C = B ++ [Ent.row 5 false [F]] := ⟨_, rfl⟩
  have hCA : C = A ++ [Ent.row 5 false [F], Ent.row 5 false [F]] := by rw [hC, hB]; simp
  have l1 : evLoad true 5 C (.ptr A.length 0 0) = some F := by
    have : C[A.length]? = some (.row 5 false [F]) := by rw [hCA]; simp
    simp only [evLoad, this]
    rw [hF]
    rfl
  have l2 : evLoad true 5 C (.ptr B.length 0 0) = some F := by
    have : C[B.length]? = some (.row 5 false [F]) := by rw [hC]; simp
    simp only [evLoad, this]
    rw [hF]
    rfl
  have q : evEqAgg true [(0, 1), (1, 1), (2, 1), (3, 1), (4, 2)] F F = some (.bool false) := by
    rw [hF]
    simp [evEqAgg, eqOffs, eqK]
  rw [← hF] at m1 m2
  rw [← hB] at st1
  rw [← hC] at st2
  refine ⟨[Ent.row 5 false [F], Ent.row 5 false [F]], ?_⟩
  rw [← hCA]
  simp [lp4x0, b1, b2, b3, ix, ld, m1, m2, st1, st2, l1, l2, q, -evBin, -evIndexSl, -evLoad, -evStore, -evEqAgg]
set_option maxRecDepth 100000 in
set_option maxHeartbeats 16000000 in
theorem ev4 (f : FrS) (s : Bytes) : evP (envOf GW fsF) 300 mf4 1 [frA f, .str s] = some (.bool true) := by
  obtain ⟨fr, to, seq, ack, body⟩ := f
  obtain ⟨bd, hbd⟩ : ∃ bd, bd = cut 1100 body := ⟨_, rfl⟩
  have sc := slice_cut 1100 body
  have mc := min_cut1100 body
  rw [← hbd] at sc
  obtain ⟨n3, hn3⟩ : ∃ n3, n3 = cutN 1100 body := ⟨_, rfl⟩
  rw [← hn3] at sc mc
  obtain ⟨s1, hs1⟩ : ∃ s1, s1 = cut 100 s := ⟨_, rfl⟩
  have sc2 := slice_cut 100 s
  have mc2 := min_cut100 s
  have ls1 := cut_length 100 s
  rw [← hs1] at sc2 ls1
  obtain ⟨n4, hn4⟩ : ∃ n4, n4 = cutN 100 s := ⟨_, rfl⟩
  rw [← hn4] at sc2 mc2
  have m34 := M34_eq ⟨fr, to, seq, ack, bd⟩
  have m35 := M35_eq ⟨fr, to, seq, ack, bd⟩
  have m30 := M30_eq ⟨fr, to, seq, ack, bd⟩
  have m31 := M31_eq ⟨fr, to, seq, ack, bd⟩
  obtain ⟨t, e, ht, hen⟩ : ∃ (t : Bytes) (e : Int), t.length ≤ 2000 ∧ encA ⟨fr, to, seq, ack, bd⟩ = .tup [.str t, .int .i64 e] := by
    unfold encA
    by_cases hv : okF ⟨fr, to, seq, ack, bd⟩
    · exact ⟨_, _, encF_len hv, if_pos hv⟩
    · exact ⟨[], 260, by simp, if_neg hv⟩
  rw [hen] at m30 m31
  obtain ⟨v, hv⟩ : ∃ v, v = decide (okF ⟨fr, to, seq, ack, bd⟩) := ⟨_, rfl⟩
  rw [← hv] at m34 m35
  have e2 : frA ⟨fr, to, seq, ack, bd⟩ = .agg [.int .i64 fr, .int .i64 to, .int .i64 seq, .int .i64 ack, .str bd] := rfl
  have e3 : frA ⟨fr, to, seq, ack, body⟩ = .agg [.int .i64 fr, .int .i64 to, .int .i64 seq, .int .i64 ack, .str body] := rfl
  rw [e2] at m34 m35 m30 m31
  -- the four strings
  have cat := evCat (a := t) (b := s1) (by omega)
  have lcat : (t ++ s1).length ≤ 1000000 := by simp; omega
  obtain ⟨ts, hts⟩ : ∃ ts, ts = t ++ s1 := ⟨_, rfl⟩
  rw [← hts] at cat lcat
  have b1 := evSub (a := (t.length : Int)) (b := 1) (by omega)
  obtain ⟨k, hk⟩ : ∃ k : Nat, k = t.length - 1 := ⟨_, rfl⟩
  have mx : evMin2 true (.int .i64 ((t.length : Int) - 1)) (.int .i64 0) = some (.int .i64 (k : Int)) := by
    unfold evMin2
    simp
    omega
  have sl := slice_take t k (by omega)
  obtain ⟨u, hu⟩ : ∃ u, u = t.take k := ⟨_, rfl⟩
  have lu : u.length ≤ 1000000 := by rw [hu, List.length_take]; omega
  rw [← hu] at sl
  obtain ⟨w, hw⟩ : ∃ w, w = (t.length : Int) - 1 := ⟨_, rfl⟩
  rw [← hw] at b1 mx
  obtain ⟨es, hes⟩ : ∃ es, es = [AV.str s1, .str t, .str ts, .str u] := ⟨_, rfl⟩
  obtain ⟨F, hF⟩ : ∃ F, F = AV.agg [.int .i64 fr, .int .i64 to, .int .i64 seq, .int .i64 ack, .str bd] := ⟨_, rfl⟩
  obtain ⟨A, hA⟩ : ∃ A, A = [Ent.row 5 false [F], .row 1 false es] := ⟨_, rfl⟩
  have hr : ∀ X, (A ++ X)[1]? = some (.row 1 false es) := fun X => by rw [hA]; rfl
  have hr0 : A[1]? = some (.row 1 false es) := by rw [hA]; rfl
  obtain ⟨X0, r0⟩ := round4 (v2 := .ptr 0 0 0) (v4 := .bool true) (v5 := .str t) (v6 := .int .i64 e) (v7 := .str t) (v8 := .int .i64 e) (k := 0) (i := 0) hr0 (by rw [hes]; rfl) (by omega) (by omega : s1.length ≤ 1000000) rfl
  obtain ⟨X1, r1⟩ := round4 (v2 := .ptr 0 0 0) (v4 := .bool true) (v5 := .str t) (v6 := .int .i64 e) (v7 := .str t) (v8 := .int .i64 e) (k := 1) (i := 1) (hr X0) (by rw [hes]; rfl) (by omega) (by omega : t.length ≤ 1000000) rfl
  rw [List.append_assoc] at r1
  obtain ⟨X2, r2⟩ := round4 (v2 := .ptr 0 0 0) (v4 := .bool true) (v5 := .str t) (v6 := .int .i64 e) (v7 := .str t) (v8 := .int .i64 e) (k := 2) (i := 2) (hr (X0 ++ X1)) (by rw [hes]; rfl) (by omega) lcat rfl
  rw [List.append_assoc A] at r2
  obtain ⟨X3, r3⟩ := round4 (v2 := .ptr 0 0 0) (v4 := .bool true) (v5 := .str t) (v6 := .int .i64 e) (v7 := .str t) (v8 := .int .i64 e) (k := 3) (i := 3) (hr (X0 ++ X1 ++ X2)) (by rw [hes]; rfl) (by omega) lu rfl
  rw [List.append_assoc A] at r3
  have lp : iter (evC (envOf GW fsF) 300 lp4x0) mask4x0 300 (st4x0 (.ptr 0 0 0) (.bool true) (.str t) (.int .i64 e) (.str t) (.int .i64 e) (.sl 1 0 4) (.int .i64 4) (.int .i64 0)) A =
      some (.exit 0 ((st4x0 (.ptr 0 0 0) (.bool true) (.str t) (.int .i64 e) (.str t) (.int .i64 e) (.sl 1 0 4) (.int .i64 4) (.int .i64 4)).set 17 (.bool false)) (A ++ (X0 ++ X1 ++ X2 ++ X3))) := by
    rw [iter_succ, cl4x0, r0]
    simp only
    rw [iter_succ, cl4x0]
    rw [show (0 : Int) + 1 = 1 from rfl, r1]
    simp only
    rw [iter_succ, cl4x0]
    rw [show (1 : Int) + 1 = 2 from rfl, r2]
    simp only
    rw [iter_succ, cl4x0]
    rw [show (2 : Int) + 1 = 3 from rfl, r3]
    simp only
    rw [iter_succ, cl4x0]
    rw [show (3 : Int) + 1 = 4 from rfl]
    simp [lp4x0]
  have ld : evLoad true 5 (A ++ (X0 ++ X1 ++ X2 ++ X3)) (.ptr 0 0 0) = some F := by
    have : (A ++ (X0 ++ X1 ++ X2 ++ X3))[0]? = some (.row 5 false [F]) := by rw [hA]; rfl
    simp only [evLoad, this]
    rw [hF]
    rfl
  obtain ⟨Z, hZ⟩ : ∃ Z, Z = A ++ (X0 ++ X1 ++ X2 ++ X3) := ⟨_, rfl⟩
  rw [← hZ] at lp ld
  have q1 : evBin .eql (.str t) (.str t) = some (.bool true) := by rw [evEqlStr, decide_eq_true rfl]
  have q2 : evBin .eql (.int .i64 e) (.int .i64 e) = some (.bool true) := by rw [evEql, decide_eq_true rfl]
  have bs : evBuildSlice 1 [.str s1, .str t, .str ts, .str u] [Ent.row 5 false [F]] = some (.sl 1 0 4, A) := by
    rw [hA, hes]
    simp [evBuildSlice]
  have st0 : evStore 1 [Ent.row 5 false [.agg [.int .i64 fr, .int .i64 to, .int .i64 seq, .int .i64 ack, .str body]]] (.ptr 0 0 4) (.str bd) = some [Ent.row 5 false [F]] := by
    rw [hF]
    simp [evStore]
  have ld0 : evLoad true 5 [Ent.row 5 false [F]] (.ptr 0 0 0) = some F := by
    rw [hF]
    rfl
  have hz : frz Z 4 F = F := by rw [hF]; simp
  have hz0 : frz [Ent.row 5 false [F]] 4 F = F := by rw [hF]; simp
  rw [← hF] at m30 m31 m34 m35
  rw [e3, evP_run _ _ rfl]
  have ldb : evLoad false 1 [Ent.row 5 false [.agg [.int .i64 fr, .int .i64 to, .int .i64 seq, .int .i64 ack, .str body]]] (.ptr 0 0 4) = some (.str body) := by
    rfl
  simp [mf4, sc, mc, sc2, mc2, m30, m31, m34, m35, cat, b1, mx, sl, bs, st0, ld0, ldb, go4x0 lp, ld, q1, q2, hz, hz0, -evMin2, -evSliceStr, -evBin, -evBuildSlice, -evStore, -evLoad]
theorem ev4L (args : List AV) (h : LawArgs Try.prog 8 Try.f4.params.toList args) : ∃ fuel, evP (envOf GW fsF) fuel mf4 1 args = some (.bool true) := by
  rw [Try.params4] at h
  obtain ⟨a, r, rfl, h0, h⟩ := h.cons
  obtain ⟨b, r, rfl, h1, h⟩ := h.cons
  obtain rfl := h.nil
  obtain ⟨f, rfl, hf, _⟩ := fr_arg (n := 6) h0
  obtain ⟨s, rfl, _⟩ := TA.str Try.underlying9 h1
  exact ⟨300, ev4 f s⟩
end Go.Proofs.Ytfidjdlmmcaplaa
