/-
  What the proof is built on (R18 to R18b).
-/
import Derived.Test.YtfplfkcgjdkdaaaDoorA05
/-
  Ratio: RatioOrder (7), RatioCommutes (8).
-/
namespace Go.Proofs.YtfplfkcgjdkdaaaDoor
namespace Rat0
open Go

theorem resN : resA none = .tup [.agg [.int .i64 0, .int .i64 0], .int .i64 30] := rfl
theorem resS (a : Q) : resA (some a) = .tup [.agg [.int .i64 a.n, .int .i64 a.d], .int .i64 0] := rfl
theorem ok0 : evBin .neq (.int .i64 0) (.int .i64 0) = some (.bool false) := by simp [evBin]
theorem ok30 : evBin .neq (.int .i64 30) (.int .i64 0) = some (.bool true) := by simp [evBin]
theorem is0 : evBin .eql (.int .i64 0) (.int .i64 0) = some (.bool true) := by simp [evBin]
theorem is30 : evBin .eql (.int .i64 30) (.int .i64 0) = some (.bool false) := by simp [evBin]
theorem cmp_wrap (a b : Q) : IntKind.i64.wrap (cmpQ a b) = cmpQ a b := by
  refine wrapI ?_
  unfold cmpQ inI
  split
  · split
    · omega
    · split <;> omega
  · omega
set_option maxRecDepth 100000 in
set_option maxHeartbeats 8000000 in
theorem ev7 {x y z : Q} (hx : InQ x) (hy : InQ y) (hz : InQ z) : evP EX 0 mf7 1 [six x y z] = some (.bool true) := by
  rw [evP_run _ _ rfl]
  rcases M23_eq hx hy hz with ⟨a, b, c, m⟩ | ⟨a, b, c, oa, ob, oc, _, m⟩
  · unfold six at m ⊢
    simp [mf7, M12_eq, m]
  · have m1 := M21_eq oa.inQ ob.inQ
    have m2 := M21_eq ob.inQ oc.inQ
    have m3 := M21_eq oa.inQ oc.inQ
    have m4 := M21_eq ob.inQ oa.inQ
    have m5 := M25_eq ob.inQ oa.inQ
    have e := eqQ false a b
    have w := cmp_wrap a b
    have t1 := cmp_trans oa ob oc
    have t2 := cmp_trans_lt oa ob oc
    have z0 := cmp_zero oa ob
    have sg := fun d => sub_sign (a := a) (b := b) (d := d)
    rw [cmp_neg ob oa] at m4
    rw [show decide (a = b) = decide (cmpQ a b = 0) by rw [Bool.eq_iff_iff]; simp [z0]] at e
    obtain ⟨A, hA⟩ : ∃ A, A = cmpQ a b := ⟨_, rfl⟩
    obtain ⟨B, hB⟩ : ∃ A, A = cmpQ b c := ⟨_, rfl⟩
    obtain ⟨C, hC⟩ : ∃ A, A = cmpQ a c := ⟨_, rfl⟩
    rw [← hA] at m1 m4 e w t1 t2 sg
    rw [← hB] at m2 t1 t2
    rw [← hC] at m3 t1 t2
    clear hA hB hC z0
    have w' : IntKind.i64.wrap (- -A) = A := by rw [Int.neg_neg]; exact w
    have b1 : evBin .neq (.int .i64 A) (.int .i64 A) = some (.bool false) := by rw [evNeq]; simp
    have b2 := evEql A 0
    have b3 := evLeq A 0
    have b4 := evLeq B 0
    have b5 := evGtr C 0
    have b6 := evLss A 0
    have b7 := evGeq C 0
    unfold qA at m1 m2 m3 m4 m5
    unfold six at m ⊢
    simp only [Bool.false_eq_true, if_false] at e
    have fin : ∀ (pA pL pB pC pD pE : Bool), decide (A = 0) = pA → decide (A ≤ 0) = pL → decide (B ≤ 0) = pB → decide (0 < C) = pC → decide (0 ≤ C) = pD → decide (A < 0) = pE → ((pA = false ∧ pL = false ∧ pE = false) ∨ (pA = true ∧ pL = true ∧ pE = false ∧ pB = false) ∨ (pA = true ∧ pL = true ∧ pE = false ∧ pB = true ∧ pC = false) ∨ (pA = false ∧ pL = true ∧ pE = true ∧ pB = false) ∨ (pA = false ∧ pL = true ∧ pE = true ∧ pB = true ∧ pC = false ∧ pD = false)) → (∀ d, subQ b a = some d → decide (0 < d.n) = pE ∧ decide (d.n = 0) = pA) →
        (match run EX 0 [.code mf7.mc] ([.agg [.int .i64 x.n, .int .i64 x.d, .int .i64 y.n, .int .i64 y.d, .int .i64 z.n, .int .i64 z.d]] ++ List.replicate (mf7.len - mf7.n) .undef) [] with
        | some (.normal σ A') => (evRes A' σ mf7.res).map fun l => frz A' 1 (pack l)
        | some (.ret σ A') => (evRes A' σ mf7.res).map fun l => frz A' 1 (pack l)
        | _ => none) = some (.bool true) := by
      intro pA pL pB pC pD pE h1 h2 h3 h4 h5 h6 q q3
      rw [h1] at e b2
      rw [h2] at b3
      rw [h3] at b4
      rw [h4] at b5
      rw [h5] at b7
      rw [h6] at b6
      cases hs : subQ b a with
      | none =>
        rw [hs, resN] at m5
        clear h1 h2 h3 h4 h5 h6 t1 t2 sg q3
        rcases q with ⟨rfl, rfl, rfl⟩ | ⟨rfl, rfl, rfl, rfl⟩ | ⟨rfl, rfl, rfl, rfl, rfl⟩ | ⟨rfl, rfl, rfl, rfl⟩ | ⟨rfl, rfl, rfl, rfl, rfl, rfl⟩ <;> simp [mf7, M12_eq, m, m1, m2, m3, m4, m5, e, b1, b2, b3, b4, b5, b6, b7, w, ok30, evIndexArr, ld0, ld2, ld4, -evBin, -evEqAgg]
      | some d =>
        rw [hs, resS] at m5
        obtain ⟨k1, k2⟩ := q3 d hs
        have b8 := evGtr d.n 0
        have b9 := evEql d.n 0
        rw [k1] at b8
        rw [k2] at b9
        clear h1 h2 h3 h4 h5 h6 t1 t2 sg q3
        rcases q with ⟨rfl, rfl, rfl⟩ | ⟨rfl, rfl, rfl, rfl⟩ | ⟨rfl, rfl, rfl, rfl, rfl⟩ | ⟨rfl, rfl, rfl, rfl⟩ | ⟨rfl, rfl, rfl, rfl, rfl, rfl⟩ <;> simp [mf7, M12_eq, m, m1, m2, m3, m4, m5, e, b1, b2, b3, b4, b5, b6, b7, b8, b9, w, ok0, evIndexArr, ld0, ld2, ld4, -evBin, -evEqAgg]
    refine fin _ _ _ _ _ _ rfl rfl rfl rfl rfl rfl ?_ ?_
    · by_cases h2 : B ≤ 0
      · rcases Int.lt_trichotomy A 0 with h1 | h1 | h1
        · have u := t2 h1 h2
          right; right; right; right
          simp; omega
        · have u := t1 (by omega) h2
          right; right; left
          simp; omega
        · left; simp; omega
      · rcases Int.lt_trichotomy A 0 with h1 | h1 | h1
        · right; right; right; left; simp; omega
        · right; left; simp; omega
        · left; simp; omega
    · intro d hd
      obtain ⟨s1, s2⟩ := sg d hd
      exact ⟨by rw [Bool.eq_iff_iff]; simp [s1], by rw [Bool.eq_iff_iff]; simp [s2]⟩
end Rat0
end Go.Proofs.YtfplfkcgjdkdaaaDoor
/-
  Ratio: RatioOrder (7), of all arguments.
-/
namespace Go.Proofs.YtfplfkcgjdkdaaaDoor
namespace Rat0
open Go

theorem ev7L (args : List AV) (h : LawArgs Tryd.prog 8 Tryd.f7.params.toList args) : ∃ fuel, evP EX fuel mf7 1 args = some (.bool true) := by
  rw [Tryd.params7] at h
  obtain ⟨a, r, rfl, h0, h⟩ := h.cons
  obtain rfl := h.nil
  obtain ⟨x, y, z, hx, hy, hz, rfl⟩ := arg_six (n := 5) h0
  exact ⟨0, ev7 hx hy hz⟩
end Rat0
end Go.Proofs.YtfplfkcgjdkdaaaDoor
