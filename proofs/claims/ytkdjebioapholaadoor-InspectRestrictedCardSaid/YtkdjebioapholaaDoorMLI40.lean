/-
  Inspect: the law MatchesReference, run.
-/
import Derived.Test.YtkdjebioapholaaDoorMLI36
namespace Go.Proofs.YtkdjebioapholaaDoor
open Go

/-- what both answer to the same wafers, tests and choice -/
structure Both (w l c : AV) : Prop where
  few : ∃ ra rb o, M15 [w, l] = some (.tup [ra, .bool o]) ∧ M16 [w, l] = some (.tup [rb, .bool o]) ∧ (∀ A n, frz A n ra = ra) ∧ (∀ A n, frz A n rb = rb) ∧ M19 [ra, rb] = some (.bool true)
  valid : ∃ b, M17 [l] = some (.bool b)
  dec : ∃ b, M20 [w, l, c] = some (.bool b) ∧ M21 [w, l, c] = some (.bool b)
  bound : ∃ r, M22 [w, l] = some r ∧ M23 [w, l] = some r ∧ (∀ A n, frz A n r = r) ∧ M19 [r, r] = some (.bool true)

theorem bndS_in {m : Int → Nat} {W : List Int} (h : ∀ z ∈ W, inI z) : ∀ i, ∀ z ∈ (bndS m W i).2, inI z
  | 0, z, hz => by cases hz
  | i + 1, z, hz => by
    simp only [bndS] at hz
    split at hz
    · rcases List.mem_append.1 hz with hz | hz
      · exact bndS_in h i z hz
      · rw [List.mem_singleton.1 hz]
        by_cases hi : i < W.length
        · rw [show W.getD i 0 = W[i] by simp [hi]]; exact h _ (List.getElem_mem hi)
        · rw [show W.getD i 0 = 0 by simp [hi]]; unfold inI; omega
    · exact bndS_in h i z hz
theorem bnd_in {W : List Int} {T : List (List Int)} (h : ∀ z ∈ W, inI z) : ∀ z ∈ bnd W T, inI z := bndS_in h _
theorem m19_same {a b : AV} {xs : List Int} (ha : intsOf a = some xs) (hb : intsOf b = some xs) : M19 [a, b] = some (.bool true) := by
  simp [M19, ha, hb]
open Classical in
theorem both {w l c : AV} {W ch : List Int} {T : List (List Int)} (hw : intsOf w = some W) (hl : testsOf l = some T) (hc : intsOf c = some ch) (hT : T.length ≤ 17) (hW : W.length ≤ 1000) (hWi : ∀ z ∈ W, inI z) : Both w l c := by
  have hn : intsOf .nilS = some [] := rfl
  refine ⟨?_, ⟨_, by simp only [M17, hl, Option.map_some]; rfl⟩, ⟨decide (Dec W T ch), ?_, ?_⟩, ?_⟩
  · by_cases hg : Good W ∧ GoodT T
    · cases hF : fewest W T with
      | none =>
        refine ⟨.nilS, .fs 1 [], false, m15_none hw hl hg.1 hg.2 hF, ?_, intsOf_frz hn, fun A n => by cases n <;> rfl, m19_same hn (intsOf_of (.inr rfl) (by simp) (by simp))⟩
        simp only [M16, hw, hl, fewR2]
        rw [if_pos hg, hF]; rfl
      | some best =>
        obtain ⟨h1, h2⟩ := chosen_of (by omega) (fewest_some hF).1
        refine ⟨.fs 1 (intsA best), slA 1 (intsA best), true, m15_some hw hl hg.1 hg.2 hF, ?_, intsOf_frz h2, intsOf_frz h1, m19_same h2 h1⟩
        simp only [M16, hw, hl, fewR2]
        rw [if_pos hg, hF]; rfl
    · refine ⟨.nilS, .nilS, false, m15_bad hw hl hg, ?_, intsOf_frz hn, intsOf_frz hn, m19_same hn hn⟩
      simp only [M16, hw, hl, fewR2]
      rw [if_neg hg]
  · rw [m20_eq hw hl hc hT]
  · simp only [M21, hw, hl, hc]
  · by_cases hg : Good W ∧ GoodT T
    · have hbi : intsOf (slA 1 (intsA (bnd W T))) = some (bnd W T) := by
        have h1 := (bndS_lt (m := fun w => maskTo T w T.length) (fun w => Nat.lt_of_lt_of_le (maskTo_lt T w _) (Nat.pow_le_pow_right (by omega) hT)) W W.length).2
        exact intsOf_slA (by unfold bnd; omega) (bnd_in hWi)
      refine ⟨slA 1 (intsA (bnd W T)), m22_good hw hl hg.1 hg.2, ?_, intsOf_frz hbi, m19_same hbi hbi⟩
      simp only [M23, hw, hl]
      rw [if_pos hg]
    · refine ⟨.nilS, m22_bad hw hl hW hg, ?_, intsOf_frz hn, m19_same hn hn⟩
      simp only [M23, hw, hl]
      rw [if_neg hg]

set_option maxRecDepth 100000 in
set_option maxHeartbeats 1000000 in
theorem ev3 {raw o c x : AV} {ts : List (List Int)} {os cs xs : List Int} (hraw : testsOf raw = some ts) (ho : SlA 1 (os.map (.int .i64)) o) (hor : ∀ z ∈ os, inI z) (hc : SlA 1 (cs.map (.int .i64)) c) (hcr : ∀ z ∈ cs, inI z) (hx : SlA 1 (xs.map (.int .i64)) x) (hr : ∀ z ∈ xs, inI z) (n : Int) (hn : inI n) :
    evP (envOf GI fsL) 50 mf3 1 [raw, o, c, x, .int .i64 n] = some (.bool true) := by
  have hol := ho.len
  have hcl := hc.len
  simp only [List.length_map] at hol hcl
  have b0 := minL_nat os.length 20
  have b1 := minL_nat cs.length 20
  rw [show ((20 : Nat) : Int) = 20 from rfl] at b0 b1
  obtain ⟨o', ho', s0⟩ := cut_ints ho 20
  obtain ⟨c', hc', s1⟩ := cut_ints hc 20
  have hoi : intsOf o' = some (os.take 20) := intsOf_of ho' (by simp; omega) fun z hz => hor z (List.mem_of_mem_take hz)
  have hci : intsOf c' = some (cs.take 20) := intsOf_of hc' (by simp; omega) fun z hz => hcr z (List.mem_of_mem_take hz)
  obtain ⟨r, m12, hrt⟩ := M12_eq hraw
  have m13' := m13 (A := []) hx hr rfl
  have m14 := M14_eq hn
  have hTl := tests_len xs
  have hl2 := tests_of xs
  have hw2 := waf_of n
  have B1 := both hoi hrt hci (by simp [fewT]; omega) (by simp; omega) (fun z hz => hor z (List.mem_of_mem_take hz))
  have B2 := both hw2 hl2 hci (by omega) (by have := waf_len n; omega) (waf_in n)
  have q1 := testsOf_frz hrt
  have q2 := testsOf_noRef hrt
  have q3 := testsOf_frz hl2
  have q4 := testsOf_noRef hl2
  have q5 := intsOf_frz hoi
  have q6 := intsOf_noRef hoi
  have q7 := intsOf_frz hw2
  have q8 := intsOf_noRef hw2
  have q9 := intsOf_frz hci
  have q10 := intsOf_noRef hci
  have q11 := testsOf_frz hraw
  have q12 := testsOf_noRef hraw
  obtain ⟨l, hl⟩ : ∃ l, l = testsA (tests xs) := ⟨_, rfl⟩
  obtain ⟨w, hw⟩ : ∃ w, w = slA 1 (intsA (waf n)) := ⟨_, rfl⟩
  rw [← hl] at m13' B2 q3 q4
  rw [← hw] at m14 B2 q7 q8
  obtain ⟨c1, hc1⟩ : ∃ c, c = min os.length 20 := ⟨_, rfl⟩
  obtain ⟨c2, hc2⟩ : ∃ c, c = min cs.length 20 := ⟨_, rfl⟩
  rw [← hc1] at b0 s0
  rw [← hc2] at b1 s1
  have wr1 : IntKind.i64.wrap 1 = 1 := wrapI (by unfold inI; omega)
  have wr2 : IntKind.i64.wrap 2 = 2 := wrapI (by unfold inI; omega)
  have r1 : run (envOf GI fsL) 50 [.code lp3x0] (st3x0 raw o' c' x (.int .i64 n) (.bool true) (.int .i64 0)) [] = some (.normal (st3x0 raw o' c' x (.int .i64 n) (.bool true) (.int .i64 1)) []) := by
    obtain ⟨⟨ra, rb, ok, e1, e2, e3, e4, e5⟩, ⟨vb, e6⟩, ⟨db, e7, e8⟩, ⟨rr, e9, e10, e11, e12⟩⟩ := B1
    simp [lp3x0, m12, q1, q2, q5, q6, q9, q10, q11, q12, e1, e2, e3, e4, e5, e6, e7, e8, e9, e10, e11, e12, wr1, wr2]
  have r2 : run (envOf GI fsL) 50 [.code lp3x0] (st3x0 raw o' c' x (.int .i64 n) (.bool true) (.int .i64 1)) [] = some (.normal (st3x0 raw o' c' x (.int .i64 n) (.bool true) (.int .i64 2)) []) := by
    obtain ⟨⟨ra, rb, ok, e1, e2, e3, e4, e5⟩, ⟨vb, e6⟩, ⟨db, e7, e8⟩, ⟨rr, e9, e10, e11, e12⟩⟩ := B2
    simp [lp3x0, m12, m13', m14, q1, q2, q3, q4, q5, q6, q7, q8, q9, q10, q11, q12, e1, e2, e3, e4, e5, e6, e7, e8, e9, e10, e11, e12, wr1, wr2]
  have lp : iter (evC (envOf GI fsL) 50 lp3x0) mask3x0 50 (st3x0 raw o' c' x (.int .i64 n) (.bool true) (.int .i64 0)) [] = some (.exit 0 ((st3x0 raw o' c' x (.int .i64 n) (.bool true) (.int .i64 2)).set 14 (.bool false)) []) := by
    rw [iter_succ, cl3x0, r1]
    show iter _ _ 49 _ _ = _
    rw [iter_succ, cl3x0, r2]
    show iter _ _ 48 _ _ = _
    rw [iter_succ, cl3x0]
    simp [lp3x0]
  rw [evP_run _ _ rfl]
  simp [mf3, hol, hcl, b0, b1, s0, s1, go3x0 lp, -evLenSl, -evSliceSl, -evMinL]

theorem all_some {α : Type} {f : AV → Option α} : ∀ {es : List AV}, (∀ x ∈ es, ∃ y, f x = some y) → ∃ ys, allOf f es = some ys
  | [], _ => ⟨[], rfl⟩
  | x :: r, h => by
    obtain ⟨y, hy⟩ := h x (by simp)
    obtain ⟨ys, hys⟩ := all_some (es := r) fun z hz => h z (by simp [hz])
    exact ⟨y :: ys, by simp only [allOf, hy, hys]⟩
theorem tests_arg {raw : AV} {n : Nat} (h : TA Tryd.prog (n + 3) 22 raw) : ∃ ts, testsOf raw = some ts := by
  obtain ⟨es, h1, h2, h3⟩ := TA.sl Tryd.underlying22 h
  rw [show Tryd.prog.cellsOf 39 = 1 by kernel_rfl] at h1
  have h4 : ∀ x ∈ es, ∃ y, testOf x = some y := fun x hx => by
    obtain ⟨ls, rfl, hc, hl⟩ := TA.agg (show aggT Tryd.prog 39 = true by kernel_rfl) (h3 x hx)
    have hc' := hc
    simp only [TC, Tryd.underlying39] at hc'
    obtain ⟨a, b, e, ha, hal, hb⟩ := hc'
    simp only [TCs] at hb
    subst hb
    rw [List.append_nil] at e
    subst e
    have h1 : Tryd.prog.cellsOf 23 = 1 := by kernel_rfl
    have hal' : ls.length = 1 := by rw [← h1]; exact hal
    obtain ⟨s, rfl⟩ : ∃ s, ls = [s] := by
      match ls, hal' with
      | [s], _ => exact ⟨s, rfl⟩
    have hs : TA Tryd.prog (n + 1) 23 s := by
      refine ⟨[s], ha, hal, ?_⟩
      simp [wholeA, aggT_false Tryd.underlying23 rfl]
    obtain ⟨xs, hx, hxl, hr⟩ := TA.ints Tryd.underlying23 Tryd.underlying3 (by kernel_rfl) hs
    exact ⟨xs, intsOf_of hx hxl hr⟩
  obtain ⟨ys, hy⟩ := all_some h4
  refine ⟨ys, ?_⟩
  unfold testsOf
  rcases h1 with ⟨rfl, rfl⟩ | rfl
  · injection hy with hy; subst hy; rfl
  · simp only [listOf]
    rw [if_pos h2]; exact hy

theorem ev3L (args : List AV) (h : LawArgs Tryd.prog 8 Tryd.f3.params.toList args) : ∃ fuel, evP (envOf GI fsL) fuel mf3 1 args = some (.bool true) := by
  rw [Tryd.params3] at h
  obtain ⟨a, r, rfl, h0, h⟩ := h.cons
  obtain ⟨b, r, rfl, h1, h⟩ := h.cons
  obtain ⟨c, r, rfl, h2, h⟩ := h.cons
  obtain ⟨d, r, rfl, h3, h⟩ := h.cons
  obtain ⟨e, r, rfl, h4, h⟩ := h.cons
  obtain rfl := h.nil
  obtain ⟨ts, hts⟩ := tests_arg (n := 5) h0
  obtain ⟨os, ho, _, hor⟩ := TA.ints Tryd.underlying23 Tryd.underlying3 (by kernel_rfl) h1
  obtain ⟨cs, hc, _, hcr⟩ := TA.ints Tryd.underlying23 Tryd.underlying3 (by kernel_rfl) h2
  obtain ⟨xs, hx, _, hr⟩ := TA.ints Tryd.underlying23 Tryd.underlying3 (by kernel_rfl) h3
  obtain ⟨n, rfl, hn⟩ := TA.i64 Tryd.underlying3 h4
  exact ⟨50, ev3 hts ho hor hc hcr hx hr n hn⟩
end Go.Proofs.YtkdjebioapholaaDoor
