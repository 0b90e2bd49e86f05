/-
  Inspect: the law Fewest, run.
-/
import Derived.Test.YtkdjebioapholaaDoorM05
namespace Go.Proofs.YtkdjebioapholaaDoor
open Go

set_option maxRecDepth 100000 in
theorem round4 (E : Env) (fuel : Nat) (A : Arena) {b o : AV} {best other : List Int} (hb : SlA 1 (intsA best) b) (ho : SlA 1 (intsA other) o) (hm : best.length ≤ 100) {i : Nat} (hi : i < best.length) (hj : i < other.length) :
    run E fuel [.code lp4x0] (st4x0 (.bool true) b o (.int .i64 (i : Int))) A =
      if best[i] = other[i] then some (.normal (st4x0 (.bool true) b o (.int .i64 ((i + 1 : Nat) : Int))) A)
      else some (.ret [.undef, .undef, .undef, .bool (decide (best[i] < other[i])), .bool true, .undef, .undef, b, .undef, o, .undef, .int .i64 (i : Int), .undef, .undef, .undef, .undef, .bool true, .bool true] A) := by
  have hl := hb.len
  simp only [intsA, List.length_map] at hl
  have x1 := hb.int (A := A) _ _ (List.getElem?_eq_getElem hi) .i64
  have x2 := ho.int (A := A) _ _ (List.getElem?_eq_getElem hj) .i64
  have b1 := lt_nat i best.length .i64
  rw [decide_eq_true hi] at b1
  have b2 : evBin .neq (.int .i64 other[i]) (.int .i64 best[i]) = some (.bool (!decide (other[i] = best[i]))) := by simp [evBin]
  have b3 : evBin .lss (.int .i64 best[i]) (.int .i64 other[i]) = some (.bool (decide (best[i] < other[i]))) := by simp [evBin]
  have b4 := add1_nat i (by omega)
  obtain ⟨p, hp⟩ : ∃ p, p = best[i] := ⟨_, rfl⟩
  obtain ⟨q, hq⟩ : ∃ q, q = other[i] := ⟨_, rfl⟩
  rw [← hp] at x1 b2 b3 ⊢
  rw [← hq] at x2 b2 b3 ⊢
  obtain ⟨d, hd⟩ : ∃ d, d = decide (p < q) := ⟨_, rfl⟩
  rw [← hd] at b3 ⊢
  obtain ⟨i1, hi1⟩ : ∃ i1, i1 = i + 1 := ⟨_, rfl⟩
  rw [← hi1] at b4 ⊢
  by_cases h : p = q
  · rw [decide_eq_true h.symm] at b2
    rw [if_pos h]
    simp [lp4x0, hl, x1, x2, b1, b2, b4, -evBin, -evIndexSl, -evLenSl]
  · rw [decide_eq_false (fun h' => h h'.symm)] at b2
    rw [if_neg h]
    simp [lp4x0, hl, x1, x2, b1, b2, b3, -evBin, -evIndexSl, -evLenSl]

theorem len_nilS : evLenSl .nilS = some (.int .i64 0) := rfl
theorem eql_00 : evBin .eql (.int .i64 0) (.int .i64 0) = some (.bool true) := rfl
theorem pow_le (n k : Nat) (h : n ≤ k) : 2 ^ n ≤ 2 ^ k := Nat.pow_le_pow_right (by omega) h
theorem sub1_nat (x : Nat) (h1 : 0 < x) (h2 : x ≤ 2 ^ 62) : evBin .sub (.int .i64 (x : Int)) (.int .i64 1) = some (.int .i64 ((x - 1 : Nat) : Int)) := by
  simp only [evBin]; rw [if_pos trivial, wrapI (by unfold inI; omega)]; congr 2; omega

set_option maxRecDepth 100000 in
theorem ev4 {x : AV} {xs : List Int} (hx : SlA 1 (xs.map (.int .i64)) x) (hr : ∀ z ∈ xs, inI z) (n set : Int) (hn : inI n) (hs : inI set) :
    evP (envOf GI fsL) 50 mf4 1 [x, .int .i64 n, .int .i64 set] = some (.bool true) := by
  have m1 := m13 (A := []) hx hr rfl
  have m2 := M14_eq hn
  have hL := tests_len xs
  have m3 := M24_eq hs (n := (tests xs).length) (by omega)
  have hl := tests_of xs
  have hw := waf_of n
  have g1 := waf_good n
  have g2 := tests_good xs
  have hc := cho_chosen set (tests xs).length
  have ho := (chosen_of (by omega) hc).1
  have m4 := m20_dec hw hl ho g1 g2 hc
  obtain ⟨W, hW⟩ : ∃ W, W = waf n := ⟨_, rfl⟩
  obtain ⟨T, hT⟩ : ∃ T, T = tests xs := ⟨_, rfl⟩
  rw [← hW] at m2 hw g1 m4
  rw [← hT] at m1 m3 hL hl g2 hc ho m4
  obtain ⟨other, hO⟩ : ∃ other, other = cho set T.length := ⟨_, rfl⟩
  rw [← hO] at m3 hc ho m4
  have hos := slA_holds 1 (intsA other)
  have hol := len_slA 1 (intsA other)
  have hll := (testsOf_len hl).1
  have f1 := intsOf_frz hw
  have f2 := intsOf_noRef hw
  have f3 := testsOf_frz hl
  have f4 := testsOf_noRef hl
  have f5 := intsOf_frz ho
  have f6 := intsOf_noRef ho
  simp only [intsA, List.length_map] at hol
  rw [show List.map (AV.int .i64) other = intsA other from rfl] at hol
  have all_ : ∀ (c : Int), inI c → ∃ ch : List Int, Chosen T.length ch ∧ M24 [.int .i64 c, .int .i64 (T.length : Int)] = some (slA 1 (intsA ch)) := fun c hc => ⟨_, cho_chosen c T.length, M24_eq hc (by omega)⟩
  obtain ⟨w, hw'⟩ : ∃ w, w = slA 1 (intsA W) := ⟨_, rfl⟩
  obtain ⟨l, hl'⟩ : ∃ l, l = testsA T := ⟨_, rfl⟩
  obtain ⟨o, ho'⟩ : ∃ o, o = slA 1 (intsA other) := ⟨_, rfl⟩
  rw [← hw'] at m2 hw m4 f1 f2
  rw [← hl'] at m1 hl m4 hll f3 f4
  rw [← ho'] at m3 ho m4 hos hol f5 f6
  rw [evP_run _ _ rfl]
  cases hF : fewest W T with
  | none =>
    have m5 := m15_none hw hl g1 g2 hF
    rw [fewest_none hF _ hc] at m4
    have p1 := Nat.two_pow_pos T.length
    have p2 := pow_le T.length 10 (by omega)
    have b1 := shl_i64 T.length (by omega)
    have b2 := sub1_nat _ p1 (by omega)
    obtain ⟨ch, hch, m6⟩ := all_ (((2 ^ T.length - 1 : Nat)) : Int) (by unfold inI; omega)
    have hci := (chosen_of (by omega) hch).1
    have m7 := m20_dec hw hl hci g1 g2 hch
    rw [fewest_none hF _ hch] at m7
    have f7 := intsOf_frz hci
    have f8 := intsOf_noRef hci
    obtain ⟨P, hP⟩ : ∃ P, P = 2 ^ T.length := ⟨_, rfl⟩
    rw [← hP] at b1 b2 m6
    obtain ⟨P1, hP1⟩ : ∃ P1, P1 = P - 1 := ⟨_, rfl⟩
    rw [← hP1] at b2 m6
    obtain ⟨c', hc'⟩ : ∃ c', c' = slA 1 (intsA ch) := ⟨_, rfl⟩
    rw [← hc'] at m6 m7 f7 f8
    simp [mf4, m1, m2, m3, m4, m5, m6, m7, hll, f1, f2, f3, f4, f5, f6, f7, f8, b1, b2, len_nilS, eql_00, -evBin, -evLenSl]
  | some best =>
    have m5 := m15_some hw hl g1 g2 hF
    obtain ⟨k1, k2, k3⟩ := fewest_some hF
    have hbi := (chosen_of (by omega) k1).2
    have m6 := m20_dec hw hl hbi g1 g2 k1
    rw [k2] at m6
    have hbl := (chosen_in (by omega) k1).1
    have f7 := intsOf_frz hbi
    have f8 := intsOf_noRef hbi
    have hbs : SlA 1 (intsA best) (.fs 1 (intsA best)) := .inr rfl
    have hbn := hbs.len
    simp only [intsA, List.length_map] at hbn
    rw [show List.map (AV.int .i64) best = intsA best from rfl] at hbn
    obtain ⟨b, hb'⟩ : ∃ b, b = AV.fs 1 (intsA best) := ⟨_, rfl⟩
    rw [← hb'] at m5 m6 hbi f7 f8 hbs hbn
    by_cases hd : decL W T other = true
    rotate_left
    · rw [show decL W T other = false by simpa using hd] at m4
      simp [mf4, m1, m2, m3, m4, m5, m6, hll, f1, f2, f3, f4, f5, f6, f7, f8, -evBin, -evLenSl]
    rw [hd] at m4
    have c1 : evBin .gtr (.int .i64 (other.length : Int)) (.int .i64 (best.length : Int)) = some (.bool (decide (best.length < other.length))) := by simp [evBin]
    by_cases h1 : best.length < other.length
    · rw [decide_eq_true h1] at c1
      simp [mf4, m1, m2, m3, m4, m5, m6, hll, hol, hbn, f1, f2, f3, f4, f5, f6, f7, f8, c1, -evBin, -evLenSl]
    rw [decide_eq_false h1] at c1
    have hk := k3 other hc hd
    have hle : best.length ≤ other.length := by
      rcases hk with e | e | e
      · rw [e]; exact Nat.le_refl _
      · omega
      · omega
    have heq : best.length = other.length := by omega
    have c2 := lt_nat other.length best.length .i64
    rw [decide_eq_false (by omega)] at c2
    rcases iter_search (E := envOf GI fsL) (fuel := 50) (a := lp4x0) (mask := mask4x0) (fun i => st4x0 (.bool true) b o (.int .i64 (i : Int))) (fun _ => []) best.length (fun i => best.getD i 0 ≠ other.getD i 0)
      (oF := fun i => .ret [.undef, .undef, .undef, .bool (decide (best.getD i 0 < other.getD i 0)), .bool true, .undef, .undef, b, .undef, o, .undef, .int .i64 (i : Int), .undef, .undef, .undef, .undef, .bool true, .bool true] []) (oE := .exit 0 ((st4x0 (.bool true) b o (.int .i64 (best.length : Int))).set 16 (.bool false)) [])
      (fun _ => cl4x0) (fun _ _ _ h => by cases h) (fun _ _ h => by cases h)
      (fun i hi hp => by
        have hi2 : i < other.length := by omega
        rw [round4 _ _ [] hbs hos (by omega) hi hi2]
        simp only [List.getD_eq_getElem?_getD, List.getElem?_eq_getElem hi, List.getElem?_eq_getElem hi2, Option.getD_some, ne_eq, Classical.not_not] at hp
        exact if_pos hp)
      (fun i hi hp => by
        have hi2 : i < other.length := by omega
        rw [round4 _ _ [] hbs hos (by omega) hi hi2]
        simp only [List.getD_eq_getElem?_getD, List.getElem?_eq_getElem hi, List.getElem?_eq_getElem hi2, Option.getD_some, ne_eq] at hp ⊢
        exact if_neg hp)
      (by simp [lp4x0, hbn, -evLenSl]) (show best.length < 50 by omega) with ⟨i, hi, hp, hj, lp⟩ | ⟨hp, lp⟩
    · have lp : iter (evC (envOf GI fsL) 50 lp4x0) mask4x0 50 (st4x0 (.bool true) b o (.int .i64 0)) [] = _ := lp
      have hi2 : i < other.length := by omega
      have hlt : best.getD i 0 < other.getD i 0 := by
        simp only [List.getD_eq_getElem?_getD, List.getElem?_eq_getElem hi, List.getElem?_eq_getElem hi2, Option.getD_some, ne_eq] at hp ⊢
        have hlx : lexL best other := by
          rcases hk with e | e | e
          · exact absurd (by simp only [e]) hp
          · omega
          · exact e.2
        refine (lex_eq hi hi2 (fun j hj' => ?_) hp).1 hlx
        have := hj j hj'
        have h1 : j < best.length := by omega
        have h2 : j < other.length := by omega
        simpa only [List.getD_eq_getElem?_getD, List.getElem?_eq_getElem h1, List.getElem?_eq_getElem h2, Option.getD_some, ne_eq, Classical.not_not] using this
      rw [decide_eq_true hlt] at lp
      simp [mf4, m1, m2, m3, m4, m5, m6, hll, hol, hbn, f1, f2, f3, f4, f5, f6, f7, f8, c1, c2, go4x0 lp, -evBin, -evLenSl]
    · have lp : iter (evC (envOf GI fsL) 50 lp4x0) mask4x0 50 (st4x0 (.bool true) b o (.int .i64 0)) [] = _ := lp
      simp [mf4, m1, m2, m3, m4, m5, m6, hll, hol, hbn, f1, f2, f3, f4, f5, f6, f7, f8, c1, c2, go4x0 lp, -evBin, -evLenSl]

theorem ev4L (args : List AV) (h : LawArgs Tryd.prog 8 Tryd.f4.params.toList args) : ∃ fuel, evP (envOf GI fsL) fuel mf4 1 args = some (.bool true) := by
  rw [Tryd.params4] at h
  obtain ⟨a, r, rfl, h0, h⟩ := h.cons
  obtain ⟨b, r, rfl, h1, h⟩ := h.cons
  obtain ⟨c, r, rfl, h2, h⟩ := h.cons
  obtain rfl := h.nil
  obtain ⟨xs, hx, _, hr⟩ := TA.ints Tryd.underlying23 Tryd.underlying3 (by kernel_rfl) h0
  obtain ⟨n, rfl, hn⟩ := TA.i64 Tryd.underlying3 h1
  obtain ⟨s, rfl, hs⟩ := TA.i64 Tryd.underlying3 h2
  exact ⟨50, ev4 hx hr n s hn hs⟩
end Go.Proofs.YtkdjebioapholaaDoor
