/-
  Inspect: the law Bound, whole.
-/
import Derived.Test.YtkdjebioapholaaDoorMLI35
namespace Go.Proofs.YtkdjebioapholaaDoor
open Go

set_option maxRecDepth 100000 in
theorem ev6 {x : AV} {xs : List Int} (hx : SlA 1 (xs.map (.int .i64)) x) (hr : ∀ z ∈ xs, inI z) (n set : Int) (hn : inI n) (hs : inI set) :
    evP (envOf GI fsL) 50 mf6 1 [x, .int .i64 n, .int .i64 set] = some (.bool true) := by
  have m1 := m13 (A := []) hx hr rfl
  have m2 := M14_eq hn
  have hL := tests_len xs
  have m3 := M24_eq hs (n := (tests xs).length) (by omega)
  have hl := tests_of xs
  have hw := waf_of n
  have g1 := waf_good n
  have g2 := tests_good xs
  have hWl := waf_len n
  have hWa := waf_asc n
  have hTa : ∀ t ∈ tests xs, AscFrom 1 13 t ∧ t.length ≤ 12 := fun t ht => by
    obtain ⟨y, _, rfl⟩ := List.mem_map.1 ht
    exact ⟨waf_asc y, waf_len y⟩
  have hc := cho_chosen set (tests xs).length
  have ho := (chosen_of (by omega) hc).1
  have m4 := m20_dec hw hl ho g1 g2 hc
  have m5 := m22_good hw hl g1 g2
  obtain ⟨W, hW⟩ : ∃ W, W = waf n := ⟨_, rfl⟩
  obtain ⟨T, hT⟩ : ∃ T, T = tests xs := ⟨_, rfl⟩
  rw [← hW] at m2 hw g1 m4 m5 hWl hWa
  rw [← hT] at m1 m3 hL hl g2 hc ho m4 m5 hTa
  obtain ⟨ch, hO⟩ : ∃ ch, ch = cho set T.length := ⟨_, rfl⟩
  rw [← hO] at m3 hc ho m4
  have hsub := bnd_sub W T
  have hBa : AscFrom 1 13 (bnd W T) := asc_sub hWa hsub
  have hBl : (bnd W T).length ≤ 12 := Nat.le_trans hsub.length_le hWl
  have hBc : ∀ k (hk : k < T.length) i, i ≤ (bnd W T).length → cB T[k] (bnd W T) i ≤ 1 := fun k hk i hi => by
    refine (cB_le (hTa _ (List.getElem_mem hk)).1 ?_ i hi).1
    refine (bnd_apart W T).imp fun {a b} h => ?_
    rintro ⟨h1, h2⟩
    exact h k ⟨(mask_has T a hk).2 h1, (mask_has T b hk).2 h2⟩
  have hble : ∀ c, Chosen T.length c → decL W T c = true → (bnd W T).length ≤ c.length := fun c h1 h2 => bnd_le h1 h2
  have hsubm : ∀ z ∈ bnd W T, z ∈ W := fun z hz => hsub.subset hz
  obtain ⟨B, hB⟩ : ∃ B, B = bnd W T := ⟨_, rfl⟩
  rw [← hB] at m5 hBa hBl
  simp only [← hB] at hBc hble hsubm
  have hws := slA_holds 1 (intsA W)
  have hbs := slA_holds 1 (intsA B)
  have hcs := slA_holds 1 (intsA ch)
  have hbn := hbs.len
  simp only [intsA, List.length_map] at hbn
  rw [show List.map (AV.int .i64) B = intsA B from rfl] at hbn
  have hcn := hcs.len
  simp only [intsA, List.length_map] at hcn
  rw [show List.map (AV.int .i64) ch = intsA ch from rfl] at hcn
  have hll := (testsOf_len hl).1
  have f1 := intsOf_frz hw
  have f3 := testsOf_frz hl
  have f5 := intsOf_frz ho
  have f2 := intsOf_noRef hw
  have f4 := testsOf_noRef hl
  obtain ⟨w, hw'⟩ : ∃ w, w = slA 1 (intsA W) := ⟨_, rfl⟩
  obtain ⟨l, hl'⟩ : ∃ l, l = testsA T := ⟨_, rfl⟩
  obtain ⟨c, hc'⟩ : ∃ c, c = slA 1 (intsA ch) := ⟨_, rfl⟩
  obtain ⟨b, hb'⟩ : ∃ b, b = slA 1 (intsA B) := ⟨_, rfl⟩
  rw [← hw'] at m2 hw m4 m5 f1 f2 hws
  rw [← hl'] at m1 hl m4 m5 hll f3 f4
  rw [← hc'] at m3 ho m4 hcs hcn f5
  rw [← hb'] at m5 hbs hbn
  have lpa : iter (evC (envOf GI fsL) 50 lp6x1) mask6x1 50 (st6x1 (.int .i64 set) (.bool true) l w b (.int .i64 0)) [] =
      some (.exit 0 ((st6x1 (.int .i64 set) (.bool true) l w b (.int .i64 (B.length : Int))).set 18 (.bool false)) []) := by
    have h := iter_up (E := envOf GI fsL) (fuel := 50) (a := lp6x1) (mask := mask6x1) (fun i => st6x1 (.int .i64 set) (.bool true) l w b (.int .i64 (i : Int))) (fun _ => []) B.length
      (o := .exit 0 ((st6x1 (.int .i64 set) (.bool true) l w b (.int .i64 (B.length : Int))).set 18 (.bool false)) [])
      (fun _ => cl6x1) (fun _ _ h => by cases h) (fun i hi => round6b _ hws hbs (by omega) (by omega) hsubm hBa hi) (by simp [lp6x1, hbn, -evLenSl]) (show B.length < 50 by omega)
    exact h
  have lpb : iter (evC (envOf GI fsL) 50 lp6x4) mask6x4 50 (st6x4 (.int .i64 set) (.bool true) l w b (.int .i64 0)) [] =
      some (.exit 4 ((st6x4 (.int .i64 set) (.bool true) l w b (.int .i64 (T.length : Int))).set 21 (.bool false)) []) := by
    have h := iter_up (E := envOf GI fsL) (fuel := 50) (a := lp6x4) (mask := mask6x4) (fun k => st6x4 (.int .i64 set) (.bool true) l w b (.int .i64 (k : Int))) (fun _ => []) T.length
      (o := .exit 4 ((st6x4 (.int .i64 set) (.bool true) l w b (.int .i64 (T.length : Int))).set 21 (.bool false)) [])
      (fun _ => cl6x4) (fun _ _ h => by cases h) (fun k hk => round6e _ hl hbs hk (by have := (hTa _ (List.getElem_mem hk)).2; omega) (by omega) (by omega) (hBc k hk)) (by simp [lp6x4, hll, -evLenSl]) (show T.length < 50 by omega)
    exact h
  have geq : ∀ p q : Nat, q ≤ p → evBin .geq (.int .i64 (p : Int)) (.int .i64 (q : Int)) = some (.bool true) := fun p q h => by
    simp only [evBin]; rw [if_pos trivial, decide_eq_true (by omega)]
  rw [evP_run _ _ rfl]
  cases hF : fewest W T with
  | none =>
    have m6 := m15_none hw hl g1 g2 hF
    rw [fewest_none hF _ hc] at m4
    simp [mf6, m1, m2, m3, m4, m5, m6, hll, hbn, hcn, f1, f2, f3, f4, f5, go6x1 lpa, go6x4 lpb, -evBin, -evLenSl]
  | some best =>
    have m6 := m15_some hw hl g1 g2 hF
    obtain ⟨k1, k2, k3⟩ := fewest_some hF
    have q1 := geq _ _ (hble best k1 k2)
    have hbl : evLenSl (.fs 1 (intsA best)) = some (.int .i64 (best.length : Int)) := by simp [evLenSl, intsA]
    obtain ⟨bb, hbb⟩ : ∃ bb, bb = intsA best := ⟨_, rfl⟩
    rw [← hbb] at m6 hbl
    by_cases hd : decL W T ch = true
    · have q2 := geq _ _ (hble ch hc hd)
      rw [hd] at m4
      simp [mf6, m1, m2, m3, m4, m5, m6, hll, hbn, hcn, hbl, q1, q2, f1, f2, f3, f4, f5, go6x1 lpa, go6x4 lpb, -evBin, -evLenSl]
    · rw [show decL W T ch = false by simpa using hd] at m4
      simp [mf6, m1, m2, m3, m4, m5, m6, hll, hbn, hcn, hbl, q1, f1, f2, f3, f4, f5, go6x1 lpa, go6x4 lpb, -evBin, -evLenSl]

theorem ev6L (args : List AV) (h : LawArgs Tryd.prog 8 Tryd.f6.params.toList args) : ∃ fuel, evP (envOf GI fsL) fuel mf6 1 args = some (.bool true) := by
  rw [Tryd.params6] at h
  obtain ⟨a, r, rfl, h0, h⟩ := h.cons
  obtain ⟨b, r, rfl, h1, h⟩ := h.cons
  obtain ⟨c, r, rfl, h2, h⟩ := h.cons
  obtain rfl := h.nil
  obtain ⟨xs, hx, _, hr⟩ := TA.ints Tryd.underlying23 Tryd.underlying3 (by kernel_rfl) h0
  obtain ⟨n, rfl, hn⟩ := TA.i64 Tryd.underlying3 h1
  obtain ⟨s, rfl, hs⟩ := TA.i64 Tryd.underlying3 h2
  exact ⟨50, ev6 hx hr n s hn hs⟩
end Go.Proofs.YtkdjebioapholaaDoor
