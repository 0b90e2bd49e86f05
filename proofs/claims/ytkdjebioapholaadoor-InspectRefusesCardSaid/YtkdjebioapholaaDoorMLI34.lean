/-
  Inspect: the law Needed, run.
-/
import Derived.Test.YtkdjebioapholaaDoorMLI33
namespace Go.Proofs.YtkdjebioapholaaDoor
open Go

/-- a choice without one of its tests -/
theorem asc_sub {n : Int} : ∀ {l m : List Int} {i : Int}, AscFrom i n l → m.Sublist l → AscFrom i n m
  | _, _, _, _, .slnil => trivial
  | _ :: _, _, _, ⟨h1, h2, h3⟩, .cons _ h => (asc_sub h3 h).mono (by omega)
  | _ :: _, _ :: _, _, ⟨h1, h2, h3⟩, .cons_cons _ h => ⟨h1, h2, asc_sub h3 h⟩
theorem less_sub (l : List Int) (k : Nat) : (l.take k ++ l.drop (k + 1)).Sublist l := by
  conv => rhs; rw [← List.take_append_drop k l]
  refine List.Sublist.append (List.Sublist.refl _) ?_
  rw [← List.drop_drop]
  exact List.drop_sublist _ _

theorem needed {W : List Int} {T : List (List Int)} {best : List Int} (h : fewest W T = some best) {k : Nat} (hk : k < best.length) :
    Chosen T.length (best.take k ++ best.drop (k + 1)) ∧ decL W T (best.take k ++ best.drop (k + 1)) = false := by
  obtain ⟨k1, k2, k3⟩ := fewest_some h
  have hc : Chosen T.length (best.take k ++ best.drop (k + 1)) := (chosen_asc _ _).2 (asc_sub ((chosen_asc _ _).1 k1) (less_sub best k))
  refine ⟨hc, ?_⟩
  cases hd : decL W T (best.take k ++ best.drop (k + 1)) with
  | false => rfl
  | true =>
    have hl : (best.take k ++ best.drop (k + 1)).length + 1 = best.length := by simp; omega
    rcases k3 _ hc hd with e | e
    · rw [e] at hl; omega
    · rcases e with e | e <;> omega

theorem slice_to {es : List AV} {k : Nat} (A : Arena) (h : k ≤ es.length) : evSliceSl 1 A none (some (.int .i64 (k : Int))) (.fs 1 es) = some (.fs 1 (es.take k)) := by
  have e : evBounds es.length none (some (.int .i64 (k : Int))) = some (0, k) := by simp [evBounds, hiB, loB, h]
  simp only [evSliceSl, if_true, e, Option.map_some, List.drop_zero, Nat.sub_zero]
theorem slice_from {es : List AV} {k : Nat} (A : Arena) (h : k ≤ es.length) : evSliceSl 1 A (some (.int .i64 (k : Int))) none (.fs 1 es) = some (.fs 1 (es.drop k)) := by
  have e : evBounds es.length (some (.int .i64 (k : Int))) none = some (k, es.length) := by simp [evBounds, hiB, loB, h]
  simp only [evSliceSl, if_true, e, Option.map_some]
  rw [List.take_of_length_le (by simp)]

set_option maxRecDepth 100000 in
theorem ev5 {x : AV} {xs : List Int} (hx : SlA 1 (xs.map (.int .i64)) x) (hr : ∀ z ∈ xs, inI z) (n which : Int) (hn : inI n) (hs : inI which) :
    evP (envOf GI fsL) 50 mf5 1 [x, .int .i64 n, .int .i64 which] = some (.bool true) := by
  have m1 := m13 (A := []) hx hr rfl
  have m2 := M14_eq hn
  have hL := tests_len xs
  have hl := tests_of xs
  have hw := waf_of n
  have g1 := waf_good n
  have g2 := tests_good xs
  obtain ⟨W, hW⟩ : ∃ W, W = waf n := ⟨_, rfl⟩
  obtain ⟨T, hT⟩ : ∃ T, T = tests xs := ⟨_, rfl⟩
  rw [← hW] at m2 hw g1
  rw [← hT] at m1 hL hl g2
  have hwl : evLenSl (slA 1 (intsA W)) = some (.int .i64 (W.length : Int)) := by rw [len_slA]; simp [intsA]
  have hll := (testsOf_len hl).1
  have f1 := intsOf_frz hw
  have f2 := intsOf_noRef hw
  have f3 := testsOf_frz hl
  have f4 := testsOf_noRef hl
  obtain ⟨w, hw'⟩ : ∃ w, w = slA 1 (intsA W) := ⟨_, rfl⟩
  obtain ⟨l, hl'⟩ : ∃ l, l = testsA T := ⟨_, rfl⟩
  rw [← hw'] at m2 hw f1 f2 hwl
  rw [← hl'] at m1 hl hll f3 f4
  rw [evP_run _ _ rfl]
  cases hF : fewest W T with
  | none =>
    have m5 := m15_none hw hl g1 g2 hF
    have hW0 : 0 < W.length := by
      rcases Nat.eq_zero_or_pos W.length with h | h
      · rw [List.length_eq_zero_iff] at h
        have := fewest_none hF [] (fun i hi => by cases hi)
        rw [h] at this
        simp [decL] at this
      · exact h
    have b1 : evBin .gtr (.int .i64 (W.length : Int)) (.int .i64 0) = some (.bool true) := by
      simp only [evBin]; rw [if_pos trivial, decide_eq_true (by omega)]
    simp [mf5, m1, m2, m5, hwl, f1, f2, f3, f4, b1, len_nilS, eql_00, -evBin, -evLenSl]
  | some best =>
    have m5 := m15_some hw hl g1 g2 hF
    obtain ⟨k1, k2, k3⟩ := fewest_some hF
    have hbi := (chosen_of (by omega) k1).2
    have hbl := (chosen_in (by omega) k1).1
    have hbs : SlA 1 (intsA best) (.fs 1 (intsA best)) := .inr rfl
    have hbn := hbs.len
    simp only [intsA, List.length_map] at hbn
    rw [show List.map (AV.int .i64) best = intsA best from rfl] at hbn
    have c0 : evBin .eql (.int .i64 (best.length : Int)) (.int .i64 0) = some (.bool (decide (best.length = 0))) := by simp [evBin]
    by_cases h0 : best.length = 0
    · rw [decide_eq_true h0] at c0
      simp [mf5, m1, m2, m5, hbn, f1, f2, f3, f4, c0, -evBin, -evLenSl]
    · rw [decide_eq_false h0] at c0
      obtain ⟨k, hk, hlt⟩ := pick_nat which best.length (by omega)
      have m6 := M25_eq hs (n := (best.length : Int)) (by omega)
      rw [hk] at m6
      obtain ⟨hc, hd⟩ := needed hF hlt
      have hci := (chosen_of (by omega) hc).2
      have m7 := m20_dec hw hl hci g1 g2 hc
      rw [hd] at m7
      have b1 := add1_nat k (by omega)
      have s1 : ∀ A, evSliceSl 1 A none (some (.int .i64 (k : Int))) (.fs 1 (intsA best)) = some (.fs 1 (intsA (best.take k))) := fun A => by
        rw [slice_to A (by simp [intsA]; omega)]; simp [intsA, List.map_take]
      have s2 : ∀ A, evSliceSl 1 A (some (.int .i64 ((k + 1 : Nat) : Int))) none (.fs 1 (intsA best)) = some (.fs 1 (intsA (best.drop (k + 1)))) := fun A => by
        rw [slice_from A (by simp [intsA]; omega)]; simp [intsA, List.map_drop]
      obtain ⟨p, hp⟩ : ∃ p, p = best.take k := ⟨_, rfl⟩
      obtain ⟨q, hq⟩ : ∃ q, q = best.drop (k + 1) := ⟨_, rfl⟩
      have hpl : p.length ≤ 10 := by rw [hp]; simp; omega
      have hql : q.length ≤ 10 := by rw [hq]; simp; omega
      rw [← hp] at s1 m7
      rw [← hq] at s2 m7
      have a1 : evAppend 1 8 [.row 1 false []] (.sl 0 0 0) (.fs 1 (intsA p)) = some (.sl 0 0 p.length, [.row 1 true (intsA p)]) := by
        have : p.length * 8 ≤ 140737488355328 := by omega
        simp [evAppend, intsA, this]
      have a2 : evAppend 1 8 [.row 1 true (intsA p)] (.sl 0 0 p.length) (.fs 1 (intsA q)) = some (.sl 0 0 (p.length + q.length), [.row 1 true (intsA (p ++ q))]) := by
        have : (p.length + q.length) * 8 ≤ 140737488355328 := by omega
        simp [evAppend, intsA, this]
      have z1 : List.take (p.length + q.length) (List.map (frz [.row 1 true (intsA (p ++ q))] 3) (intsA (p ++ q))) = intsA (p ++ q) := by
        rw [frz_intsA, List.take_of_length_le (by simp [intsA])]
      obtain ⟨k', hk'⟩ : ∃ k', k' = k + 1 := ⟨_, rfl⟩
      rw [← hk'] at b1 s2
      obtain ⟨r, hr'⟩ : ∃ r, r = p ++ q := ⟨_, rfl⟩
      rw [← hr'] at a2 z1 m7
      obtain ⟨bA, hbA⟩ : ∃ bA, bA = intsA best := ⟨_, rfl⟩
      rw [← hbA] at m5 hbn s1 s2
      obtain ⟨pA, hpA⟩ : ∃ pA, pA = intsA p := ⟨_, rfl⟩
      rw [← hpA] at s1 a1 a2
      obtain ⟨qA, hqA⟩ : ∃ qA, qA = intsA q := ⟨_, rfl⟩
      rw [← hqA] at s2 a2
      obtain ⟨rA, hrA⟩ : ∃ rA, rA = intsA r := ⟨_, rfl⟩
      rw [← hrA] at a2 z1 m7
      obtain ⟨n2, hn2⟩ : ∃ n2, n2 = p.length + q.length := ⟨_, rfl⟩
      rw [← hn2] at a2 z1
      simp [mf5, m1, m2, m5, m6, m7, hbn, f1, f2, f3, f4, c0, b1, s1, s2, a1, a2, z1, -evBin, -evLenSl, -evSliceSl]

theorem ev5L (args : List AV) (h : LawArgs Tryd.prog 8 Tryd.f5.params.toList args) : ∃ fuel, evP (envOf GI fsL) fuel mf5 1 args = some (.bool true) := by
  rw [Tryd.params5] at h
  obtain ⟨a, r, rfl, h0, h⟩ := h.cons
  obtain ⟨b, r, rfl, h1, h⟩ := h.cons
  obtain ⟨c, r, rfl, h2, h⟩ := h.cons
  obtain rfl := h.nil
  obtain ⟨xs, hx, _, hr⟩ := TA.ints Tryd.underlying23 Tryd.underlying3 (by kernel_rfl) h0
  obtain ⟨n, rfl, hn⟩ := TA.i64 Tryd.underlying3 h1
  obtain ⟨s, rfl, hs⟩ := TA.i64 Tryd.underlying3 h2
  exact ⟨50, ev5 hx hr n s hn hs⟩
end Go.Proofs.YtkdjebioapholaaDoor
