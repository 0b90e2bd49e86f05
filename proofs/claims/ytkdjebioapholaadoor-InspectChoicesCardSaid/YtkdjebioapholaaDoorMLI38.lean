/-
  Inspect: the law Choices, run.
-/
import Derived.Test.YtkdjebioapholaaDoorMLI36
namespace Go.Proofs.YtkdjebioapholaaDoor
open Go

theorem good_one {z : Int} (h : 1 ≤ z ∧ z ≤ 1000000) : Good [z] := by
  refine ⟨by simp, fun i hi => ?_⟩
  obtain rfl : i = 0 := by simp at hi; omega
  exact ⟨h.1, h.2, fun h => absurd h (by omega)⟩
/-- a choice decides the first i open wafers, each alone -/
noncomputable def allTo (W : List Int) (T : List (List Int)) (ch : List Int) (i : Nat) : Bool := decL (W.take i) T ch
theorem allTo_succ {W : List Int} {T : List (List Int)} {ch : List Int} {i : Nat} (hi : i < W.length) : allTo W T ch (i + 1) = (allTo W T ch i && decL [W[i]] T ch) := by
  unfold allTo decL
  rw [List.take_succ_eq_append_getElem hi, Bool.eq_iff_iff, Bool.and_eq_true, decide_eq_true_eq, decide_eq_true_eq, decide_eq_true_eq]
  constructor
  · intro h
    exact ⟨fun w hw => h w (List.mem_append_left _ hw), fun w hw => h w (List.mem_append_right _ hw)⟩
  · rintro ⟨h1, h2⟩ w hw
    rcases List.mem_append.1 hw with h | h
    · exact h1 w h
    · exact h2 w h

theorem bounds_nat {n i j : Nat} (h1 : i ≤ j) (h2 : j ≤ n) : evBounds n (some (.int .i64 (i : Int))) (some (.int .i64 (j : Int))) = some (i, j) := by
  simp [evBounds, hiB, loB, h1, h2]
set_option maxRecDepth 100000 in
theorem round9 (fuel : Nat) (v3 v5 : AV) {w l c : AV} {W ch : List Int} {T : List (List Int)} (hw : SlA 1 (intsA W) w) (hW : ∀ z ∈ W, 1 ≤ z ∧ z ≤ 1000000) (hl : testsOf l = some T) (hT : GoodT T) (hc : intsOf c = some ch) (hch : Chosen T.length ch) (hm : W.length ≤ 100) {i : Nat} (hi : i < W.length) :
    run (envOf GI fsL) fuel [.code lp9x0] (st9x0 v3 v5 l w c (.bool (allTo W T ch i)) (.int .i64 (i : Int))) [] =
      some (.normal (st9x0 v3 v5 l w c (.bool (allTo W T ch (i + 1))) (.int .i64 ((i + 1 : Nat) : Int))) []) := by
  have hwl := hw.len
  simp only [intsA, List.length_map] at hwl
  have hWi := hW _ (List.getElem_mem hi)
  have sl : evSliceSl 1 [] (some (.int .i64 (i : Int))) (some (.int .i64 ((i + 1 : Nat) : Int))) w = some (.fs 1 [.int .i64 W[i]]) := by
    rcases hw with ⟨_, h⟩ | rfl
    · simp [intsA] at h; rw [h] at hi; cases hi
    · have e : evBounds (intsA W).length (some (.int .i64 (i : Int))) (some (.int .i64 ((i + 1 : Nat) : Int))) = some (i, i + 1) := by
        have hlen : (intsA W).length = W.length := by simp [intsA]
        rw [hlen]
        exact bounds_nat (by omega) (by omega)
      simp only [evSliceSl, if_true, e, Option.map_some]
      congr 2
      rw [Nat.add_sub_cancel_left]
      apply List.ext_getElem
      · simp [intsA]; omega
      · intro j h1 h2
        obtain rfl : j = 0 := by simp at h2; omega
        simp [intsA]
  have ho : intsOf (.fs 1 [.int .i64 W[i]]) = some [W[i]] := by
    refine intsOf_of (xs := [W[i]]) (.inr rfl) (by simp) (fun z hz => ?_)
    rw [List.mem_singleton.1 hz]; unfold inI; omega
  have m := m20_dec ho hl hc (good_one hWi) hT hch
  have f1 := intsOf_frz hc
  have f3 := testsOf_frz hl
  have b1 := lt_nat i W.length .i64
  rw [decide_eq_true hi] at b1
  have b4 := add1_nat i (by omega)
  rw [allTo_succ hi]
  obtain ⟨a, ha⟩ : ∃ a, a = allTo W T ch i := ⟨_, rfl⟩
  obtain ⟨d, hd⟩ : ∃ d, d = decL [W[i]] T ch := ⟨_, rfl⟩
  rw [← ha, ← hd]
  rw [← hd] at m
  obtain ⟨z, hz⟩ : ∃ z, z = W[i] := ⟨_, rfl⟩
  rw [← hz] at sl m
  obtain ⟨i1, hi1⟩ : ∃ i1, i1 = i + 1 := ⟨_, rfl⟩
  rw [← hi1] at b4 sl ⊢
  cases d with
  | true => simp [lp9x0, hwl, b1, b4, sl, m, f1, f3, frz, -evBin, -evLenSl, -evSliceSl]
  | false => simp [lp9x0, hwl, b1, b4, sl, m, f1, f3, frz, -evBin, -evLenSl, -evSliceSl]

theorem not_chosen_big {n : Nat} {ch : List Int} {b : Int} (h : b < 0 ∨ (n : Int) ≤ b) : ¬ Chosen n (ch ++ [b]) := fun hc => by
  have := hc ch.length (by simp)
  rw [List.getElem_append_right (Nat.le_refl _)] at this
  simp at this
  omega
theorem not_chosen_twice {n : Nat} {ch : List Int} (h : 0 < ch.length) : ¬ Chosen n (ch ++ [ch[0]]) := fun hc => by
  have h1 := (chosen_asc n _).1 hc
  cases ch with
  | nil => cases h
  | cons x r =>
    simp only [List.cons_append, List.getElem_cons_zero] at h1
    have := h1.2.2.ge x (by simp)
    omega

set_option maxRecDepth 100000 in
set_option maxHeartbeats 1000000 in
theorem ev9 {x : AV} {xs : List Int} (hx : SlA 1 (xs.map (.int .i64)) x) (hr : ∀ z ∈ xs, inI z) (n set bad : Int) (hn : inI n) (hs : inI set) (hb : inI bad) :
    evP (envOf GI fsL) 50 mf9 1 [x, .int .i64 n, .int .i64 set, .int .i64 bad] = some (.bool true) := by
  have m1 := m13 (A := []) hx hr rfl
  have m2 := M14_eq hn
  have hL := tests_len xs
  have m3 := M24_eq hs (n := (tests xs).length) (by omega)
  have hl := tests_of xs
  have hw := waf_of n
  have g1 := waf_good n
  have g2 := tests_good xs
  have hWr : ∀ z ∈ waf n, 1 ≤ z ∧ z ≤ 1000000 := fun z hz => by
    have := (waf_asc n).ge z hz
    omega
  have hWl := waf_len n
  have hc := cho_chosen set (tests xs).length
  obtain ⟨W, hW⟩ : ∃ W, W = waf n := ⟨_, rfl⟩
  obtain ⟨T, hT⟩ : ∃ T, T = tests xs := ⟨_, rfl⟩
  rw [← hW] at m2 hw g1 hWr hWl
  rw [← hT] at m1 m3 hL hl g2 hc
  obtain ⟨ch, hch⟩ : ∃ ch, ch = cho set T.length := ⟨_, rfl⟩
  rw [← hch] at m3 hc
  have hci := (chosen_of (by omega) hc).1
  obtain ⟨hcl, hcr⟩ := chosen_in (by omega) hc
  have m4 := m20_dec hw hl hci g1 g2 hc
  have hws := slA_holds 1 (intsA W)
  have hcs := slA_holds 1 (intsA ch)
  have hcn := hcs.len
  simp only [intsA, List.length_map] at hcn
  rw [show List.map (AV.int .i64) ch = intsA ch from rfl] at hcn
  have hcsrc := hcs.src (A := [.row 1 false []])
  have hcsrc2 : ∀ B, srcElems 1 B (slA 1 (intsA ch)) = some (intsA ch) := fun B => hcs.src
  have hll := (testsOf_len hl).1
  have f1 := intsOf_frz hw
  have f3 := testsOf_frz hl
  have f5 := intsOf_frz hci
  have hlp : iter (evC (envOf GI fsL) 50 lp9x0) mask9x0 50 (st9x0 (.int .i64 bad) (.bool true) (testsA T) (slA 1 (intsA W)) (slA 1 (intsA ch)) (.bool true) (.int .i64 0)) [] =
      some (.exit 0 ((st9x0 (.int .i64 bad) (.bool true) (testsA T) (slA 1 (intsA W)) (slA 1 (intsA ch)) (.bool (decL W T ch)) (.int .i64 (W.length : Int))).set 13 (.bool false)) []) := by
    have hwn := hws.len
    simp only [intsA, List.length_map] at hwn
    rw [show List.map (AV.int .i64) W = intsA W from rfl] at hwn
    have h := iter_up (E := envOf GI fsL) (fuel := 50) (a := lp9x0) (mask := mask9x0) (fun i => st9x0 (.int .i64 bad) (.bool true) (testsA T) (slA 1 (intsA W)) (slA 1 (intsA ch)) (.bool (allTo W T ch i)) (.int .i64 (i : Int))) (fun _ => []) W.length
      (o := .exit 0 ((st9x0 (.int .i64 bad) (.bool true) (testsA T) (slA 1 (intsA W)) (slA 1 (intsA ch)) (.bool (decL W T ch)) (.int .i64 (W.length : Int))).set 13 (.bool false)) [])
      (fun _ => cl9x0) (fun _ _ h => by cases h) (fun i hi => round9 50 _ _ hws hWr hl g2 hci hc (by omega) hi) (by
        have e : allTo W T ch W.length = decL W T ch := by unfold allTo; rw [List.take_length]
        rw [e]
        obtain ⟨w, hw'⟩ : ∃ w, w = slA 1 (intsA W) := ⟨_, rfl⟩
        rw [← hw'] at hwn ⊢
        simp [lp9x0, hwn, -evLenSl]) (show W.length < 50 by omega)
    have e : allTo W T ch 0 = true := by simp [allTo, decL]
    rw [e] at h
    exact h
  -- the number that is none
  obtain ⟨b, hbn, hbi, hrunb⟩ : ∃ b : Int, (b < 0 ∨ (T.length : Int) ≤ b) ∧ inI b ∧ ((evBin .geq (.int .i64 bad) (.int .i64 0) = some (.bool true) ∧ evBin .lss (.int .i64 bad) (.int .i64 (T.length : Int)) = some (.bool true) ∧ b = (T.length : Int)) ∨
      (evBin .geq (.int .i64 bad) (.int .i64 0) = some (.bool true) ∧ evBin .lss (.int .i64 bad) (.int .i64 (T.length : Int)) = some (.bool false) ∧ b = bad) ∨ (evBin .geq (.int .i64 bad) (.int .i64 0) = some (.bool false) ∧ b = bad)) := by
    have d1 : evBin .geq (.int .i64 bad) (.int .i64 0) = some (.bool (decide (0 ≤ bad))) := by simp [evBin]
    have d2 : evBin .lss (.int .i64 bad) (.int .i64 (T.length : Int)) = some (.bool (decide (bad < (T.length : Int)))) := by simp [evBin]
    rw [d1, d2]
    by_cases e1 : 0 ≤ bad
    · by_cases e2 : bad < (T.length : Int)
      · exact ⟨_, .inr (Int.le_refl _), by unfold inI; omega, .inl ⟨by rw [decide_eq_true e1], by rw [decide_eq_true e2], rfl⟩⟩
      · exact ⟨bad, by omega, hb, .inr (.inl ⟨by rw [decide_eq_true e1], by rw [decide_eq_false e2], rfl⟩)⟩
    · exact ⟨bad, by omega, hb, .inr (.inr ⟨by rw [decide_eq_false e1], rfl⟩)⟩
  -- what appending makes of the choice
  have hil : (intsA ch).length = ch.length := by simp [intsA]
  have a1 : ∀ A : Arena, evAppend 1 8 (A ++ [.row 1 false []]) (.sl A.length 0 0) (slA 1 (intsA ch)) = some (.sl A.length 0 ch.length, A ++ [.row 1 true (intsA ch)]) := fun A => by
    have h1 : ch.length * 8 ≤ 140737488355328 := by omega
    simp [evAppend, hcsrc2, hil, h1]
  have a2 : ∀ (A : Arena) (y : Int), evAppend 1 8 (A ++ [.row 1 true (intsA ch)]) (.sl A.length 0 ch.length) (.fs 1 [.int .i64 y]) = some (.sl A.length 0 (ch.length + 1), A ++ [.row 1 true (intsA (ch ++ [y]))]) := fun A y => by
    have h1 : (ch.length + 1) * 8 ≤ 140737488355328 := by omega
    have e : intsA (ch ++ [y]) = intsA ch ++ [.int .i64 y] := by simp [intsA]
    rw [e]
    simp [evAppend, hil, h1]
  have hbadL : ∀ y : Int, inI y → ¬ Chosen T.length (ch ++ [y]) → M20 [slA 1 (intsA W), testsA T, .fs 1 (intsA (ch ++ [y]))] = some (.bool false) := fun y hy hny => by
    refine m20_bad hw hl (ch := ch ++ [y]) (intsOf_of (.inr rfl) (by simp; omega) fun z hz => ?_) (by omega) (fun hd => hny hd.2.2.1)
    rcases List.mem_append.1 hz with h | h
    · exact hcr z h
    · rw [List.mem_singleton.1 h]; exact hy
  have m5 := hbadL b hbi (not_chosen_big hbn)
  have zz : ∀ (B : Arena) (y : Int), List.take (ch.length + 1) (List.map (frz B 3) (intsA (ch ++ [y]))) = intsA (ch ++ [y]) := fun B y => by
    rw [frz_intsA, List.take_of_length_le (by simp [intsA])]
  have c1 : evBin .gtr (.int .i64 (ch.length : Int)) (.int .i64 0) = some (.bool (decide (0 < ch.length))) := by simp [evBin]
  have a10 := a1 []
  have a20 := a2 [] b
  have a11 := a1 [.row 1 true (intsA (ch ++ [b]))]
  have a21 := fun y => a2 [.row 1 true (intsA (ch ++ [b]))] y
  simp only [List.nil_append, List.length_nil, List.length_singleton, List.singleton_append] at a10 a20 a11 a21
  have zb := fun B => zz B b
  obtain ⟨rb, hrb⟩ : ∃ rb, rb = intsA (ch ++ [b]) := ⟨_, rfl⟩
  rw [← hrb] at a20 a11 m5
  simp only [← hrb] at a21 zb
  obtain ⟨al, hal⟩ : ∃ al, al = decL W T ch := ⟨_, rfl⟩
  rw [← hal] at m4 hlp
  by_cases h0 : 0 < ch.length
  · rw [decide_eq_true h0] at c1
    have hy := hbadL ch[0] (hcr _ (List.getElem_mem h0)) (not_chosen_twice h0)
    have x1 : ∀ A, evIndexSl 1 A (slA 1 (intsA ch)) (.int .i64 0) = some (.fp [.int .i64 ch[0]]) := fun A => hcs.int (A := A) (i := 0) _ _ (List.getElem?_eq_getElem h0) .i64
    have a21 := a21 ch[0]
    have zy := fun B => zz B ch[0]
    obtain ⟨ry, hry⟩ : ∃ ry, ry = intsA (ch ++ [ch[0]]) := ⟨_, rfl⟩
    rw [← hry] at a21 hy
    simp only [← hry] at zy
    obtain ⟨y, hy0⟩ : ∃ y, y = ch[0] := ⟨_, rfl⟩
    simp only [← hy0] at x1 a21
    obtain ⟨cn, hcn'⟩ : ∃ cn, cn = ch.length := ⟨_, rfl⟩
    rw [← hcn'] at a10 a20 a11 a21 c1 hcn
    simp only [← hcn'] at zb zy
    obtain ⟨cA, hcA⟩ : ∃ cA, cA = intsA ch := ⟨_, rfl⟩
    have ec : slA 1 (intsA ch) = .fs 1 (intsA ch) := by
      cases ch with
      | nil => cases h0
      | cons _ _ => rfl
    rw [ec] at a10 a11 m3 m4 hlp hcn
    simp only [ec] at x1
    rw [← hcA] at a10 a20 a11 a21 m3 m4 hlp hcn
    simp only [← hcA] at x1
    obtain ⟨w, hw'⟩ : ∃ w, w = slA 1 (intsA W) := ⟨_, rfl⟩
    rw [← hw'] at m2 m4 hlp m5 hy
    simp only [← hw'] at f1
    obtain ⟨l, hl'⟩ : ∃ l, l = testsA T := ⟨_, rfl⟩
    rw [← hl'] at m1 m4 hlp m5 hy hll
    simp only [← hl'] at f3
    rw [evP_run _ _ rfl]
    rcases hrunb with ⟨w1, w2, e⟩ | ⟨w1, w2, e⟩ | ⟨w1, e⟩
    · rw [e] at a20
      simp [mf9, m1, m2, m3, m4, m5, hy, hll, hcn, f1, f3, go9x0 hlp, w1, w2, a10, a20, a11, a21, zb, zy, c1, x1, frz, -evBin, -evLenSl, -evIndexSl]
    · rw [e] at a20
      simp [mf9, m1, m2, m3, m4, m5, hy, hll, hcn, f1, f3, go9x0 hlp, w1, w2, a10, a20, a11, a21, zb, zy, c1, x1, frz, -evBin, -evLenSl, -evIndexSl]
    · rw [e] at a20
      simp [mf9, m1, m2, m3, m4, m5, hy, hll, hcn, f1, f3, go9x0 hlp, w1, a10, a20, a11, a21, zb, zy, c1, x1, frz, -evBin, -evLenSl, -evIndexSl]
  · rw [decide_eq_false h0] at c1
    obtain ⟨cn, hcn'⟩ : ∃ cn, cn = ch.length := ⟨_, rfl⟩
    rw [← hcn'] at a10 a20 c1 hcn
    simp only [← hcn'] at zb
    obtain ⟨cA, hcA⟩ : ∃ cA, cA = intsA ch := ⟨_, rfl⟩
    rw [← hcA] at a10 a20 m3 m4 hlp hcn
    simp only [← hcA] at f5
    obtain ⟨c, hc'⟩ : ∃ c, c = slA 1 cA := ⟨_, rfl⟩
    rw [← hc'] at a10 m3 m4 hlp hcn
    simp only [← hc'] at f5
    obtain ⟨w, hw'⟩ : ∃ w, w = slA 1 (intsA W) := ⟨_, rfl⟩
    rw [← hw'] at m2 m4 hlp m5
    simp only [← hw'] at f1
    obtain ⟨l, hl'⟩ : ∃ l, l = testsA T := ⟨_, rfl⟩
    rw [← hl'] at m1 m4 hlp m5 hll
    simp only [← hl'] at f3
    rw [evP_run _ _ rfl]
    rcases hrunb with ⟨w1, w2, e⟩ | ⟨w1, w2, e⟩ | ⟨w1, e⟩
    · rw [e] at a20
      simp [mf9, m1, m2, m3, m4, m5, hll, hcn, f1, f3, f5, go9x0 hlp, w1, w2, a10, a20, zb, c1, frz, -evBin, -evLenSl, -evIndexSl]
    · rw [e] at a20
      simp [mf9, m1, m2, m3, m4, m5, hll, hcn, f1, f3, f5, go9x0 hlp, w1, w2, a10, a20, zb, c1, frz, -evBin, -evLenSl, -evIndexSl]
    · rw [e] at a20
      simp [mf9, m1, m2, m3, m4, m5, hll, hcn, f1, f3, f5, go9x0 hlp, w1, a10, a20, zb, c1, frz, -evBin, -evLenSl, -evIndexSl]

theorem ev9L (args : List AV) (h : LawArgs Tryd.prog 8 Tryd.f9.params.toList args) : ∃ fuel, evP (envOf GI fsL) fuel mf9 1 args = some (.bool true) := by
  rw [Tryd.params9] at h
  obtain ⟨a, r, rfl, h0, h⟩ := h.cons
  obtain ⟨b, r, rfl, h1, h⟩ := h.cons
  obtain ⟨c, r, rfl, h2, h⟩ := h.cons
  obtain ⟨d, r, rfl, h3, h⟩ := h.cons
  obtain rfl := h.nil
  obtain ⟨xs, hx, _, hr⟩ := TA.ints Tryd.underlying23 Tryd.underlying3 (by kernel_rfl) h0
  obtain ⟨n, rfl, hn⟩ := TA.i64 Tryd.underlying3 h1
  obtain ⟨s, rfl, hs⟩ := TA.i64 Tryd.underlying3 h2
  obtain ⟨t, rfl, ht⟩ := TA.i64 Tryd.underlying3 h3
  exact ⟨50, ev9 hx hr n s t hn hs ht⟩
end Go.Proofs.YtkdjebioapholaaDoor
