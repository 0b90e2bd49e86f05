/-
  Cycle: the law CycleOptimal, run.
-/
import Derived.Test.YtfmlfekcdbfioaaMLC25
namespace Go.Proofs.Ytfmlfekcdbfioaa
open Go

open Classical in
/-- Levels at a period that is refuted -/
theorem at_pos {n p : Int} {l : List CArc} {T : AV} (hT : T = slA 4 (l.map arcA)) (harg : arcsOf T = some l) (hR : Ready n l p) (hp : Pos l p) : ∃ C, (∀ h A, H14 h [.int .i64 n, T, .int .i64 p] A = some (.tup [.nilS, C, .bool false], A)) ∧ M21 [.int .i64 n, T, .int .i64 p, C] = some (.bool true) ∧ ∀ A k, frz A k C = C := by
  have hok : (lvM n l p).2.2 = false := by
    cases h : (lvM n l p).2.2 with
    | false => rfl
    | true => exact absurd hp ((lv_ok hR).1 h)
  obtain ⟨e1, e2, e3, e4⟩ := lv_cycle hR hok
  refine ⟨slA 1 (intsA (lvM n l p).2.1), fun h A => ?_, ?_, fun A k => frz_slA A k 1 _⟩
  · rw [H14_eq h (show frz A 4 T = T by rw [hT]; exact frz_slA A 4 4 _) harg n p, lvT_form, hok, e1]; rfl
  · rw [m21 harg (intsOf_sl (by omega) e4), decide_eq_true e2]
open Classical in
/-- Levels at a period that is possible -/
theorem at_no {n p : Int} {l : List CArc} {T : AV} (hT : T = slA 4 (l.map arcA)) (harg : arcsOf T = some l) (hR : Ready n l p) (hp : ¬ Pos l p) : ∃ S, (∀ h A, H14 h [.int .i64 n, T, .int .i64 p] A = some (.tup [S, .nilS, .bool true], A)) ∧ M19 [.int .i64 n, T, .int .i64 p, S] = some (.bool true) ∧ (∀ A k, frz A k S = S) ∧ S = slA 1 (intsA (lvM n l p).1) ∧ VerOk n l p (lvM n l p).1 := by
  have hok : (lvM n l p).2.2 = true := (lv_ok hR).2 hp
  obtain ⟨e1, e2, e3, e4⟩ := lv_starts hR hok
  have hin := ver_in e2
  refine ⟨slA 1 (intsA (lvM n l p).1), fun h A => ?_, ?_, fun A k => frz_slA A k 1 _, rfl, e2⟩
  · rw [H14_eq h (show frz A 4 T = T by rw [hT]; exact frz_slA A 4 4 _) harg n p, lvT_form, hok, e1]; rfl
  · rw [m19 harg (intsOf_sl (by omega) hin.2), decide_eq_true e2]
theorem sm_spec {n : Int} {l : List CArc} {lo hi : Int} (hR : Ready n l lo) (hhi : isPer hi) :
    (∃ r, smM n l lo hi = some r ∧ lo ≤ r ∧ r ≤ hi ∧ Ready n l r ∧ ¬ Pos l r ∧ ∀ q, lo ≤ q → q < r → Pos l q) ∨ (smM n l lo hi = none ∧ ∀ q, lo ≤ q → q ≤ hi → Pos l q) := by
  obtain ⟨m, rfl⟩ : ∃ m : Nat, n = (m : Int) := ⟨n.toNat, by have := hR.1.1; omega⟩
  have e : smM m l lo hi = smL m l hi (hi - lo + 2).toNat lo := by unfold smM; rw [if_pos hhi, Int.toNat_natCast]
  rw [e]
  by_cases hz : (hi - lo + 2).toNat = 0
  · right
    rw [hz]
    exact ⟨rfl, fun q h1 h2 => by omega⟩
  obtain ⟨h1, h2⟩ := smL_spec (n := m) (l := l) hhi (hi - lo + 2).toNat lo (by omega)
  cases hs : smL m l hi (hi - lo + 2).toNat lo with
  | none => exact .inr ⟨rfl, h2 hs hR⟩
  | some r =>
    obtain ⟨k1, k2, k3, k4, k5⟩ := h1 r hs
    exact .inl ⟨r, rfl, k1, k2, k3, k4, k5⟩
set_option maxRecDepth 100000 in
set_option maxHeartbeats 4000000 in
theorem ev9 {x : AV} {r : List R4} (hx : r4sOf x = some r) {n low high other : Int} (hn : inI n) (hlo : inI low) (hhi : inI high) (hot : inI other) : evP (envOf GC fsN) 50 mf9 1 [.int .i64 n, x, .int .i64 low, .int .i64 high, .int .i64 other] = some (.bool true) := by
  have p7 := pick_range n 7 (by omega)
  have pl := pick_range low 60 (by omega)
  have ph := pick_range high 100 (by omega)
  have m1 := M12_eq hn (show (0 : Int) < 7 by omega)
  have m2 := M12_eq hot (show (0 : Int) < 2 by omega)
  have m3 := M12_eq hlo (show (0 : Int) < 60 by omega)
  have m4 := M12_eq hhi (show (0 : Int) < 100 by omega)
  obtain ⟨n0, hn0⟩ : ∃ z, z = pick n 7 := ⟨_, rfl⟩
  obtain ⟨l0, hl0⟩ : ∃ z, z = pick low 60 := ⟨_, rfl⟩
  obtain ⟨h0, hh0⟩ : ∃ z, z = pick high 100 := ⟨_, rfl⟩
  obtain ⟨c0, hc0⟩ : ∃ z, z = pick other 2 := ⟨_, rfl⟩
  rw [← hn0] at p7 m1
  rw [← hl0] at pl m3
  rw [← hh0] at ph m4
  rw [← hc0] at m2
  have b1 := add1_pick p7
  have b2 := evEql c0 0
  have b3 := evSub (a := l0) (b := 20) (by omega)
  have b4 := evAdd (a := l0 - 20) (b := h0) (by omega)
  obtain ⟨n1, hn1⟩ : ∃ z : Nat, (z : Int) = 1 + n0 := ⟨(1 + n0).toNat, by omega⟩
  obtain ⟨lo, hlo1⟩ : ∃ z, z = l0 - 20 := ⟨_, rfl⟩
  obtain ⟨d, hd⟩ : ∃ z, z = decide (c0 = 0) := ⟨_, rfl⟩
  rw [← hn1] at b1
  rw [← hd] at b2
  rw [← hlo1] at b3 b4
  obtain ⟨hi, hhi1⟩ : ∃ z, z = lo + h0 := ⟨_, rfl⟩
  rw [← hhi1] at b4
  have hn32 : 1 ≤ (n1 : Int) ∧ (n1 : Int) ≤ 32 := by omega
  have m5 : M13 [x, .int .i64 (n1 : Int), .bool d] = some (slA 4 ((arcsD r n1 d).map arcA)) := by
    simp only [M13, hx, Option.map_some]; exact if_pos hn32.1
  have harg := arcsD_arg hn32 r d
  have hval := arcsD_valid hn32 r d
  obtain ⟨l, hl⟩ : ∃ l, l = arcsD r n1 d := ⟨_, rfl⟩
  rw [← hl] at m5 harg hval
  have hR : ∀ q, lo ≤ q → q ≤ hi → Ready n1 l q := fun q h1 h2 => ⟨hval, by unfold isPer; omega⟩
  have m6 : M23 [.int .i64 n1, slA 4 (l.map arcA), .int .i64 lo, .int .i64 hi] = some (smT (smM n1 l lo hi)) := by simp only [M23, harg, Option.map_some]
  have hfx : ∀ A, frz A 4 x = x := fun A => (r4sOf_some hx).1.frz 4
  have hfT : ∀ A k, frz A k (slA 4 (l.map arcA)) = slA 4 (l.map arcA) := fun A k => frz_slA A k 4 _
  obtain ⟨T, hT⟩ : ∃ T, T = slA 4 (l.map arcA) := ⟨_, rfl⟩
  rw [← hT] at m5 m6 harg hfT
  have i1 : isPer hi := by unfold isPer; omega
  rw [evP_run _ _ rfl]
  rcases sm_spec (hR lo (Int.le_refl _) (by omega)) i1 with ⟨q, e1, e2, e3, e4, e5, e6⟩ | ⟨e1, e2⟩
  · rw [e1] at m6
    simp only [smT, Option.getD_some, Option.isSome_some] at m6
    obtain ⟨S, s1, s2, s3, _⟩ := at_no hT harg e4 e5
    have b5 := evLss q lo
    rw [decide_eq_false (by omega)] at b5
    have b6 := evGtr q hi
    rw [decide_eq_false (by omega)] at b6
    have b7 := evEql q lo
    by_cases hql : q = lo
    · rw [decide_eq_true hql] at b7
      simp [mf9, m1, m2, m3, m4, m5, m6, b1, b2, b3, b4, b5, b6, b7, s1, s2, s3, hfx, hfT, frz_i, frz_b, scalarB, -frz, -evBin]
    rw [decide_eq_false hql] at b7
    have b8 := evSub (a := q) (b := 1) (by omega)
    have b9 := evSub (a := q) (b := lo) (by omega)
    have po := pick_range other (q - lo) (by omega)
    have m7 := M12_eq hot (show (0 : Int) < q - lo by omega)
    obtain ⟨o0, ho0⟩ : ∃ z, z = pick other (q - lo) := ⟨_, rfl⟩
    rw [← ho0] at po m7
    have b10 := evAdd (a := lo) (b := o0) (by omega)
    obtain ⟨C, c1, c2, c3⟩ := at_pos hT harg (hR (q - 1) (by omega) (by omega)) (e6 (q - 1) (by omega) (by omega))
    obtain ⟨D, d1, d2, d3⟩ := at_pos hT harg (hR (lo + o0) (by omega) (by omega)) (e6 (lo + o0) (by omega) (by omega))
    obtain ⟨q1, hq1⟩ : ∃ z, z = q - 1 := ⟨_, rfl⟩
    obtain ⟨q2, hq2⟩ : ∃ z, z = q - lo := ⟨_, rfl⟩
    obtain ⟨q3, hq3⟩ : ∃ z, z = lo + o0 := ⟨_, rfl⟩
    rw [← hq1] at b8 c1 c2
    rw [← hq2] at b9 m7
    rw [← hq3] at b10 d1 d2
    simp [mf9, m1, m2, m3, m4, m5, m6, m7, b1, b2, b3, b4, b5, b6, b7, b8, b9, b10, s1, s2, s3, c1, c2, c3, d1, d2, d3, hfx, hfT, frz_i, frz_b, scalarB, -frz, -evBin]
  · rw [e1] at m6
    simp only [smT, Option.getD_none, Option.isSome_none] at m6
    have b5 := evSub (a := hi) (b := lo) (by omega)
    have b6 := evAdd (a := hi - lo) (b := 1) (by omega)
    have po := pick_range other (hi - lo + 1) (by omega)
    have m7 := M12_eq hot (show (0 : Int) < hi - lo + 1 by omega)
    obtain ⟨o0, ho0⟩ : ∃ z, z = pick other (hi - lo + 1) := ⟨_, rfl⟩
    rw [← ho0] at po m7
    have b7 := evAdd (a := lo) (b := o0) (by omega)
    obtain ⟨C, c1, c2, c3⟩ := at_pos hT harg (hR (lo + o0) (by omega) (by omega)) (e2 (lo + o0) (by omega) (by omega))
    obtain ⟨q1, hq1⟩ : ∃ z, z = hi - lo := ⟨_, rfl⟩
    rw [← hq1] at b5 b6 m7
    obtain ⟨q2, hq2⟩ : ∃ z, z = q1 + 1 := ⟨_, rfl⟩
    obtain ⟨q3, hq3⟩ : ∃ z, z = lo + o0 := ⟨_, rfl⟩
    rw [← hq2] at b6 m7
    rw [← hq3] at b7 c1 c2
    have b8 := evEql 0 0
    rw [decide_eq_true rfl] at b8
    simp [mf9, m1, m2, m3, m4, m5, m6, m7, b1, b2, b3, b4, b5, b6, b7, b8, c1, c2, c3, hfx, hfT, frz_i, frz_b, scalarB, -frz, -evBin]
theorem ev9L (args : List AV) (h : LawArgs Try.prog 8 Try.f9.params.toList args) : ∃ fuel, evP (envOf GC fsN) fuel mf9 1 args = some (.bool true) := by
  rw [Try.params9] at h
  obtain ⟨a, r, rfl, h0, h⟩ := h.cons
  obtain ⟨b, r, rfl, h1, h⟩ := h.cons
  obtain ⟨c, r, rfl, h2, h⟩ := h.cons
  obtain ⟨d, r, rfl, h3, h⟩ := h.cons
  obtain ⟨e, r, rfl, h4, h⟩ := h.cons
  obtain rfl := h.nil
  obtain ⟨n, rfl, hn⟩ := TA.i64 Try.underlying3 h0
  obtain ⟨r, hr⟩ := r4s_arg (n := 5) h1
  obtain ⟨lo, rfl, hlo⟩ := TA.i64 Try.underlying3 h2
  obtain ⟨hi, rfl, hhi⟩ := TA.i64 Try.underlying3 h3
  obtain ⟨o, rfl, ho⟩ := TA.i64 Try.underlying3 h4
  exact ⟨50, ev9 hr hn hlo hhi ho⟩
end Go.Proofs.Ytfmlfekcdbfioaa
