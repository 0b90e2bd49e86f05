/-
  Inspect: the law More, run.
-/
import Derived.Test.YtkdjebioapholaaDoorMLI34
namespace Go.Proofs.YtkdjebioapholaaDoor
open Go

theorem fewest_le {W W' : List Int} {T T' : List (List Int)} (h : ∀ ch, Chosen T.length ch → decL W T ch = true → Chosen T'.length ch ∧ decL W' T' ch = true) {a : List Int} (ha : fewest W T = some a) : ∃ b, fewest W' T' = some b ∧ b.length ≤ a.length := by
  obtain ⟨h1, h2, _⟩ := fewest_some ha
  obtain ⟨k1, k2⟩ := h a h1 h2
  cases hb : fewest W' T' with
  | none => rw [fewest_none hb a k1] at k2; cases k2
  | some b =>
    refine ⟨b, rfl, ?_⟩
    rcases (fewest_some hb).2.2 a k1 k2 with e | e | e
    · rw [e]; exact Nat.le_refl _
    · omega
    · omega
theorem decL_mono {W W' : List Int} (h : ∀ w ∈ W, w ∈ W') (T : List (List Int)) {ch : List Int} (hd : decL W' T ch = true) : decL W T ch = true := by
  unfold decL at hd ⊢
  rw [decide_eq_true_eq] at hd ⊢
  exact fun w hw => hd w (h w hw)
theorem chosen_mono {n m : Nat} (h : n ≤ m) {ch : List Int} (hc : Chosen n ch) : Chosen m ch := fun i hi => by
  have := hc i hi
  exact ⟨this.1, by omega, this.2.2⟩
theorem decL_wide (W : List Int) (T T' : List (List Int)) {ch : List Int} (hc : Chosen T.length ch) (hd : decL W T ch = true) : decL W (T ++ T') ch = true := by
  unfold decL at hd ⊢
  rw [decide_eq_true_eq] at hd ⊢
  intro w hw
  obtain ⟨k, hk, hm⟩ := hd w hw
  refine ⟨k, hk, ?_⟩
  obtain ⟨j, hj, rfl⟩ := List.mem_iff_getElem.1 hk
  have := hc j hj
  rw [List.getD_eq_getElem?_getD] at hm ⊢
  rw [List.getElem?_append_left (by omega)]
  exact hm
theorem waf_nat {m : Nat} (h : m < 4096) : waf (m : Int) = wafN m 12 := by
  unfold waf pick
  rw [if_neg (by omega), show (4096 : Int) = ((4096 : Nat) : Int) from rfl, ← Int.ofNat_tmod, Nat.mod_eq_of_lt h, Int.toNat_natCast]
theorem waf_or {a b : Nat} : ∀ w ∈ wafN a 12, w ∈ wafN (a ||| b) 12 := fun w hw => by
  unfold wafN at hw ⊢
  rw [bitsL_mem] at hw ⊢
  obtain ⟨k, h1, h2, h3⟩ := hw
  refine ⟨k, h1, ?_, h3⟩
  have e : ∀ y : Nat, (y / 2 ^ k % 2 = 1) ↔ y.testBit k = true := fun y => by rw [Nat.testBit_eq_decide_div_mod_eq, decide_eq_true_eq]
  rw [e] at h2 ⊢
  rw [Nat.testBit_or, h2]; rfl
theorem tests_wide (xs : List Int) (t : Int) (h : xs.length ≤ 9) : tests (xs ++ [t]) = tests xs ++ [waf t] := by
  unfold tests
  rw [List.take_of_length_le (by simp; omega), List.take_of_length_le (by omega)]
  simp

theorem cut_ints {x : AV} {xs : List Int} (hx : SlA 1 (xs.map (.int .i64)) x) (n : Nat) : ∃ x', SlA 1 ((xs.take n).map (.int .i64)) x' ∧ ∀ A, evSliceSl 1 A none (some (.int .i64 ((min xs.length n : Nat) : Int))) x = some x' := by
  rcases hx with ⟨rfl, h⟩ | rfl
  · have : xs = [] := by simpa using h
    subst this
    exact ⟨.nilS, .inl ⟨rfl, by simp⟩, fun A => by simp [evSliceSl, evBounds, hiB, loB]⟩
  · refine ⟨.fs 1 ((xs.take n).map (.int .i64)), .inr rfl, fun A => ?_⟩
    rw [slice_to A (by simp; omega)]
    congr 2
    rw [List.map_take, List.take_eq_take_iff]
    simp; omega
theorem minL_nat (a b : Nat) : evMinL false (.int .i64 (a : Int)) [.int .i64 (b : Int)] = some (.int .i64 ((min a b : Nat) : Int)) := by
  have := min2_nat a b .i64 .i64
  simp only [evMinL]
  rw [this]

set_option maxRecDepth 100000 in
theorem ev7 {x : AV} {xs : List Int} (hx : SlA 1 (xs.map (.int .i64)) x) (hr : ∀ z ∈ xs, inI z) (n more test : Int) (hn : inI n) (hm : inI more) (ht : inI test) :
    evP (envOf GI fsL) 50 mf7 1 [x, .int .i64 n, .int .i64 more, .int .i64 test] = some (.bool true) := by
  have hxl := hx.len
  simp only [List.length_map] at hxl
  have b0 := minL_nat xs.length 9
  rw [show ((9 : Nat) : Int) = 9 from rfl] at b0
  obtain ⟨x', hx', s0⟩ := cut_ints hx 9
  obtain ⟨c, hc⟩ : ∃ c, c = min xs.length 9 := ⟨_, rfl⟩
  rw [← hc] at b0 s0
  obtain ⟨ys, hys⟩ : ∃ ys, ys = xs.take 9 := ⟨_, rfl⟩
  have hry : ∀ z ∈ ys, inI z := fun z hz => hr z (List.mem_of_mem_take (hys ▸ hz))
  have hyl : ys.length ≤ 9 := by rw [hys]; simp; omega
  rw [← hys] at hx'
  have m1 := m13 (A := []) hx' hry rfl
  -- the tests, with a further one
  have src := hx'.src (A := [.row 1 false []])
  have a1 : evAppend 1 8 [.row 1 false []] (.sl 0 0 0) x' = some (.sl 0 0 ys.length, [.row 1 true (intsA ys)]) := by
    have : ys.length * 8 ≤ 140737488355328 := by omega
    simp [evAppend, src, intsA, this]
  have a2 : evAppend 1 8 [.row 1 true (intsA ys)] (.sl 0 0 ys.length) (.fs 1 [.int .i64 test]) = some (.sl 0 0 (ys ++ [test]).length, [.row 1 true (intsA (ys ++ [test]))]) := by
    have : (ys.length + 1) * 8 ≤ 140737488355328 := by omega
    simp [evAppend, intsA, this]
  have hnr : ([Ent.row 1 true (intsA (ys ++ [test]))] : Arena).all (entNoRef 4) = true := by
    simp [entNoRef, intsA, noRefB]
  have m2 := M13_eq (holds_arena (A := [.row 1 true (intsA (ys ++ [test]))]) (id := 0) (off := 0) (xs := ys ++ [test]) rfl (by rw [List.drop_zero, List.take_of_length_le (by simp [intsA])])) (fun z hz => by
    rcases List.mem_append.1 hz with h | h
    · exact hry z h
    · have : z = test := by simpa using h
      rw [this]; exact ht) hnr
  have e2 : (((ys ++ [test]).take 10).map waf) = tests ys ++ [waf test] := tests_wide ys test hyl
  rw [e2] at m2
  obtain ⟨p, hp, hp4⟩ := pick_nat n 4096 (by omega)
  obtain ⟨q, hq, hq4⟩ := pick_nat more 4096 (by omega)
  have m3 := M25_eq hn (n := 4096) (by omega)
  have m4 := M25_eq hm (n := 4096) (by omega)
  rw [show ((4096 : Nat) : Int) = 4096 from rfl] at hp hq
  rw [hp] at m3
  rw [hq] at m4
  have b1 := or_i64 p q (by omega) (by omega)
  have hpq : p ||| q < 2 ^ 12 := Nat.or_lt_two_pow (by omega) (by omega)
  have m5 := M14_eq (c := (p : Int)) (by unfold inI; omega)
  have m6 := M14_eq (c := ((p ||| q : Nat) : Int)) (by unfold inI; omega)
  have w1 := waf_of (p : Int)
  have w2 := waf_of ((p ||| q : Nat) : Int)
  have g1 := waf_good (p : Int)
  have g2 := waf_good ((p ||| q : Nat) : Int)
  have hsub : ∀ w ∈ waf (p : Int), w ∈ waf ((p ||| q : Nat) : Int) := by
    rw [waf_nat hp4, waf_nat (by omega)]; exact waf_or
  have t1 := tests_of ys
  have g3 := tests_good ys
  have hL := tests_len ys
  have t2 := tests_of (ys ++ [test])
  have g4 := tests_good (ys ++ [test])
  rw [tests_wide ys test hyl] at t2 g4
  obtain ⟨T, hT⟩ : ∃ T, T = tests ys := ⟨_, rfl⟩
  rw [← hT] at m1 m2 t1 g3 hL t2 g4
  obtain ⟨T2, hT2⟩ : ∃ T2, T2 = T ++ [waf test] := ⟨_, rfl⟩
  rw [← hT2] at m2 t2 g4
  have hwide : ∀ (W ch : List Int), Chosen T.length ch → decL W T ch = true → Chosen T2.length ch ∧ decL W T2 ch = true := fun W ch h1 h2 => by
    rw [hT2]
    exact ⟨chosen_mono (by simp) h1, decL_wide W T _ h1 h2⟩
  obtain ⟨W1, hW1⟩ : ∃ W1, W1 = waf (p : Int) := ⟨_, rfl⟩
  obtain ⟨W2, hW2⟩ : ∃ W2, W2 = waf ((p ||| q : Nat) : Int) := ⟨_, rfl⟩
  rw [← hW1] at m5 w1 g1 hsub
  rw [← hW2] at m6 w2 g2 hsub
  obtain ⟨o, ho⟩ : ∃ o, o = p ||| q := ⟨_, rfl⟩
  rw [← ho] at b1 m6
  have f1 := intsOf_frz w1
  have f2 := intsOf_frz w2
  have f3 := testsOf_frz t1
  have f4 := testsOf_frz t2
  obtain ⟨w, hw'⟩ : ∃ w, w = slA 1 (intsA W1) := ⟨_, rfl⟩
  obtain ⟨v, hv'⟩ : ∃ v, v = slA 1 (intsA W2) := ⟨_, rfl⟩
  obtain ⟨l, hl'⟩ : ∃ l, l = testsA T := ⟨_, rfl⟩
  obtain ⟨k, hk'⟩ : ∃ k, k = testsA T2 := ⟨_, rfl⟩
  rw [← hw'] at m5 w1 f1
  rw [← hv'] at m6 w2 f2
  rw [← hl'] at m1 t1 f3
  rw [← hk'] at m2 t2 f4
  obtain ⟨rA, hrA⟩ : ∃ rA, rA = intsA (ys ++ [test]) := ⟨_, rfl⟩
  rw [← hrA] at a2 m2
  obtain ⟨n2, hn2⟩ : ∃ n2, n2 = (ys ++ [test]).length := ⟨_, rfl⟩
  rw [← hn2] at a2 m2
  obtain ⟨yA, hyA⟩ : ∃ yA, yA = intsA ys := ⟨_, rfl⟩
  rw [← hyA] at a1 a2
  have blen : ∀ b : List Int, b.length ≤ 11 → evLenSl (.fs 1 (intsA b)) = some (.int .i64 (b.length : Int)) := fun b _ => by simp [evLenSl, intsA]
  have leq : ∀ a b : Nat, evBin .leq (.int .i64 (a : Int)) (.int .i64 (b : Int)) = some (.bool (decide (a ≤ b))) := fun a b => by simp [evBin]
  rw [evP_run _ _ rfl]
  cases hA : fewest W1 T with
  | none =>
    have n1 := m15_none w1 t1 g1 g3 hA
    have hB : fewest W2 T = none := by
      cases hB : fewest W2 T with
      | none => rfl
      | some a =>
        obtain ⟨b, hb, _⟩ := fewest_le (W' := W1) (T' := T) (fun ch h1 h2 => ⟨h1, decL_mono hsub T h2⟩) hB
        rw [hA] at hb; cases hb
    have n2 := m15_none w2 t1 g2 g3 hB
    have n3 : ∃ r b, M15 [w, k] = some (.tup [r, .bool b]) := by
      cases hC : fewest W1 T2 with
      | none => exact ⟨_, _, m15_none w1 t2 g1 g4 hC⟩
      | some b => exact ⟨_, _, m15_some w1 t2 g1 g4 hC⟩
    obtain ⟨r, b, n3⟩ := n3
    simp [mf7, hxl, b0, s0, m1, a1, a2, m2, m3, m4, m5, m6, b1, f1, f2, f3, f4, n1, n2, n3, -evBin, -evLenSl, -evSliceSl, -evMinL]
  | some a =>
    have n1 := m15_some w1 t1 g1 g3 hA
    have la := (chosen_in (by omega) (fewest_some hA).1).1
    obtain ⟨c, hC, hca⟩ := fewest_le (W' := W1) (T' := T2) (hwide W1) hA
    have n3 := m15_some w1 t2 g1 g4 hC
    have l1 := blen a (by omega)
    have l3 := blen c (by omega)
    have q3 := leq c.length a.length
    rw [decide_eq_true hca] at q3
    obtain ⟨aA', haA⟩ : ∃ x, x = intsA a := ⟨_, rfl⟩
    obtain ⟨cA', hcA⟩ : ∃ x, x = intsA c := ⟨_, rfl⟩
    rw [← haA] at n1 l1
    rw [← hcA] at n3 l3
    cases hB : fewest W2 T with
    | none =>
      have n2 := m15_none w2 t1 g2 g3 hB
      simp [mf7, hxl, b0, s0, m1, a1, a2, m2, m3, m4, m5, m6, b1, f1, f2, f3, f4, n1, n2, n3, l1, l3, q3, -evBin, -evLenSl, -evSliceSl, -evMinL]
    | some b =>
      have n2 := m15_some w2 t1 g2 g3 hB
      have lb := (chosen_in (by omega) (fewest_some hB).1).1
      obtain ⟨a', ha', hab⟩ := fewest_le (W' := W1) (T' := T) (fun ch h1 h2 => ⟨h1, decL_mono hsub T h2⟩) hB
      rw [hA] at ha'
      obtain rfl := Option.some.inj ha'
      have l2 := blen b (by omega)
      have q2 := leq a.length b.length
      rw [decide_eq_true hab] at q2
      obtain ⟨bA', hbA⟩ : ∃ x, x = intsA b := ⟨_, rfl⟩
      rw [← hbA] at n2 l2
      simp [mf7, hxl, b0, s0, m1, a1, a2, m2, m3, m4, m5, m6, b1, f1, f2, f3, f4, n1, n2, n3, l1, l2, l3, q2, q3, -evBin, -evLenSl, -evSliceSl, -evMinL]

theorem ev7L (args : List AV) (h : LawArgs Tryd.prog 8 Tryd.f7.params.toList args) : ∃ fuel, evP (envOf GI fsL) fuel mf7 1 args = some (.bool true) := by
  rw [Tryd.params7] at h
  obtain ⟨a, r, rfl, h0, h⟩ := h.cons
  obtain ⟨b, r, rfl, h1, h⟩ := h.cons
  obtain ⟨c, r, rfl, h2, h⟩ := h.cons
  obtain ⟨d, r, rfl, h3, h⟩ := h.cons
  obtain rfl := h.nil
  obtain ⟨xs, hx, _, hr⟩ := TA.ints Tryd.underlying23 Tryd.underlying3 (by kernel_rfl) h0
  obtain ⟨n, rfl, hn⟩ := TA.i64 Tryd.underlying3 h1
  obtain ⟨s, rfl, hs⟩ := TA.i64 Tryd.underlying3 h2
  obtain ⟨t, rfl, ht⟩ := TA.i64 Tryd.underlying3 h3
  exact ⟨50, ev7 hx hr n s t hn hs ht⟩
end Go.Proofs.YtkdjebioapholaaDoor
