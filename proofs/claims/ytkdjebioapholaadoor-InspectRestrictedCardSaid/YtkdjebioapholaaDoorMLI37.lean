/-
  Inspect: the law Restricted, plain and run.
-/
import Derived.Test.YtkdjebioapholaaDoorMLI40
namespace Go.Proofs.YtkdjebioapholaaDoor
open Go

/-! ### tests that say the same of the open wafers -/
structure Alike (W : List Int) (T T' : List (List Int)) : Prop where
  len : T.length = T'.length
  mem : ∀ w ∈ W, ∀ k, w ∈ T.getD k [] ↔ w ∈ T'.getD k []
section
variable {W : List Int} {T T' : List (List Int)} (h : Alike W T T')
include h
theorem Alike.dec : decL W T = decL W T' := by
  funext ch
  unfold decL
  rw [Bool.eq_iff_iff, decide_eq_true_eq, decide_eq_true_eq]
  constructor
  · intro h1 w hw
    obtain ⟨k, hk, hm⟩ := h1 w hw
    exact ⟨k, hk, (h.mem w hw _).1 hm⟩
  · intro h1 w hw
    obtain ⟨k, hk, hm⟩ := h1 w hw
    exact ⟨k, hk, (h.mem w hw _).2 hm⟩
theorem Alike.few : fewest W T = fewest W T' := by
  unfold fewest
  rw [h.dec, h.len]
theorem Alike.mask {w : Int} (hw : w ∈ W) : ∀ i, maskTo T w i = maskTo T' w i
  | 0 => rfl
  | i + 1 => by
    have ih := Alike.mask hw i
    unfold maskTo
    rw [ih]
    by_cases hm : w ∈ T.getD i []
    · rw [if_pos hm, if_pos ((h.mem w hw i).1 hm)]
    · rw [if_neg hm, if_neg (fun hm' => hm ((h.mem w hw i).2 hm'))]
theorem Alike.bnd : bnd W T = bnd W T' := by
  have key : ∀ i, i ≤ W.length → bndS (fun w => maskTo T w T.length) W i = bndS (fun w => maskTo T' w T'.length) W i := by
    intro i
    induction i with
    | zero => intro _; rfl
    | succ i ih =>
      intro hi
      have hi' : i < W.length := by omega
      have e : W.getD i 0 = W[i] := by simp [hi']
      simp only [bndS, e]
      rw [ih (by omega), h.mask (List.getElem_mem hi'), h.len]
  unfold Go.Proofs.YtkdjebioapholaaDoor.bnd
  rw [key _ (Nat.le_refl _)]
end

def cutI (n : Int) (x : Int) : Int := (((pick x 4096).toNat &&& (pick n 4096).toNat : Nat) : Int)
theorem cutI_lt (n x : Int) : ((pick x 4096).toNat &&& (pick n 4096).toNat) < 4096 := by
  have h1 := pick_range x 4096 (by omega)
  have h2 : (pick x 4096).toNat < 2 ^ 12 := by omega
  have := Nat.and_le_left (n := (pick x 4096).toNat) (m := (pick n 4096).toNat)
  omega
theorem waf_cut (n x : Int) (w : Int) (hw : w ∈ waf n) : w ∈ waf x ↔ w ∈ waf (cutI n x) := by
  have e : ∀ (y k : Nat), (y / 2 ^ k % 2 = 1) ↔ y.testBit k = true := fun y k => by rw [Nat.testBit_eq_decide_div_mod_eq, decide_eq_true_eq]
  unfold cutI
  rw [waf_nat (cutI_lt n x)]
  unfold waf wafN at *
  rw [bitsL_mem] at *
  obtain ⟨j, h1, h2, rfl⟩ := hw
  rw [bitsL_mem]
  constructor
  · rintro ⟨k, k1, k2, k3⟩
    obtain rfl : j = k := by omega
    refine ⟨j, h1, ?_, rfl⟩
    rw [e] at h2 k2 ⊢
    rw [Nat.testBit_and, h2, k2]; rfl
  · rintro ⟨k, k1, k2, k3⟩
    obtain rfl : j = k := by omega
    refine ⟨j, h1, ?_, rfl⟩
    rw [e] at k2 ⊢
    rw [Nat.testBit_and, Bool.and_eq_true] at k2
    exact k2.1
theorem alike (xs : List Int) (n : Int) : Alike (waf n) (tests xs) (tests (xs.map (cutI n))) := by
  refine ⟨by simp [tests], fun w hw k => ?_⟩
  unfold tests
  rw [← List.map_take, List.map_map, List.getD_eq_getElem?_getD, List.getD_eq_getElem?_getD, List.getElem?_map, List.getElem?_map]
  cases (xs.take 10)[k]? with
  | none => simp
  | some x => exact waf_cut n x w hw

theorem and_i64 (a b : Nat) (ha : a < 2 ^ 62) (hb : b < 2 ^ 62) : evBin .and (.int .i64 (a : Int)) (.int .i64 (b : Int)) = some (.int .i64 ((a &&& b : Nat) : Int)) := by
  have h1 : (BitVec.ofInt 64 (a : Int)).toNat = a := by simp; omega
  have h2 : (BitVec.ofInt 64 (b : Int)).toNat = b := by simp; omega
  have h3 : a &&& b ≤ a := Nat.and_le_left
  have : andI .i64 (a : Int) (b : Int) = ((a &&& b : Nat) : Int) := by
    unfold andI
    rw [show IntKind.i64.bits = 64 from rfl, BitVec.toNat_and, h1, h2, wrapI (by unfold inI; omega)]
  simp only [evBin]
  rw [if_pos trivial, this]

def yT (n : Int) (xs : List Int) (i : Nat) : List Int := (xs.take i).map (cutI n)
set_option maxRecDepth 100000 in
theorem round8 (fuel : Nat) {x : AV} {xs : List Int} (hx : SlA 1 (intsA xs) x) (hr : ∀ z ∈ xs, inI z) (n : Int) (hn : inI n) (hm : xs.length * 8 ≤ 140737488355328) {i : Nat} (hi : i < xs.length) :
    run (envOf GI fsL) fuel [.code lp8x0] (st8x0 x (.int .i64 n) (.bool true) (oA [] (intsA (yT n xs i))) (.int .i64 (i : Int))) (aA [] 1 (intsA (yT n xs i))) =
      some (.normal (st8x0 x (.int .i64 n) (.bool true) (oA [] (intsA (yT n xs (i + 1)))) (.int .i64 ((i + 1 : Nat) : Int))) (aA [] 1 (intsA (yT n xs (i + 1))))) := by
  have hl := hx.len
  simp only [intsA, List.length_map] at hl
  have x1 := fun A => hx.int (A := A) _ _ (List.getElem?_eq_getElem hi) .i64
  have b1 := lt_nat i xs.length .i64
  rw [decide_eq_true hi] at b1
  have b4 := add1_nat i (by omega)
  have m1 := M25_eq (hr xs[i] (List.getElem_mem hi)) (n := 4096) (by omega)
  have m2 := M25_eq hn (n := 4096) (by omega)
  have p1 := pick_range xs[i] 4096 (by omega)
  have p2 := pick_range n 4096 (by omega)
  obtain ⟨a, ha⟩ : ∃ a : Nat, a = (pick xs[i] 4096).toNat := ⟨_, rfl⟩
  obtain ⟨b, hb⟩ : ∃ b : Nat, b = (pick n 4096).toNat := ⟨_, rfl⟩
  have ea : pick xs[i] 4096 = (a : Int) := by omega
  have eb : pick n 4096 = (b : Int) := by omega
  have hc : cutI n xs[i] = ((a &&& b : Nat) : Int) := by unfold cutI; rw [← ha, ← hb]
  rw [ea] at m1
  rw [eb] at m2
  have b2 := and_i64 a b (by omega) (by omega)
  have ap := append1 (A := []) (esz := 1) (bytes := 8) (es := intsA (yT n xs i)) (.int .i64 ((a &&& b : Nat) : Int)) (by omega) (by omega) (by simp [intsA, yT]; omega)
  have e2 : intsA (yT n xs i) ++ [.int .i64 ((a &&& b : Nat) : Int)] = intsA (yT n xs (i + 1)) := by
    unfold yT
    rw [List.take_succ_eq_append_getElem hi, ← hc, List.map_append]; unfold intsA; rw [List.map_append]; rfl
  rw [e2] at ap
  obtain ⟨y, hy⟩ : ∃ y, y = xs[i] := ⟨_, rfl⟩
  simp only [← hy] at x1 m1
  obtain ⟨ab, hab⟩ : ∃ ab, ab = a &&& b := ⟨_, rfl⟩
  rw [← hab] at b2 ap
  obtain ⟨i1, hi1⟩ : ∃ i1, i1 = i + 1 := ⟨_, rfl⟩
  rw [← hi1] at b4 ap ⊢
  simp [lp8x0, hl, x1, b1, b2, b4, m1, m2, ap, -evBin, -evIndexSl, -evLenSl]

theorem noRef_ints (es : List Int) : (aA [] 1 (intsA es)).all (entNoRef 4) = true := by
  match es with
  | [] => rfl
  | [x] => rfl
  | x :: y :: r => simp [intsA, aA, entNoRef, noRefB]

set_option maxRecDepth 100000 in
theorem ev8 {x : AV} {xs : List Int} (hx : SlA 1 (xs.map (.int .i64)) x) (hr : ∀ z ∈ xs, inI z) (hm : xs.length * 8 ≤ 140737488355328) (n : Int) (hn : inI n) :
    evP (envOf GI fsL) (xs.length + 50) mf8 1 [x, .int .i64 n] = some (.bool true) := by
  have hl := hx.len
  simp only [List.length_map] at hl
  have al := alike xs n
  obtain ⟨ys, hys⟩ : ∃ ys, ys = xs.map (cutI n) := ⟨_, rfl⟩
  rw [← hys] at al
  have hyr : ∀ z ∈ ys, inI z := fun z hz => by
    rw [hys] at hz
    obtain ⟨y, _, rfl⟩ := List.mem_map.1 hz
    have := cutI_lt n y
    unfold cutI inI
    omega
  have lp : iter (evC (envOf GI fsL) (xs.length + 50) lp8x0) mask8x0 (xs.length + 50) (st8x0 x (.int .i64 n) (.bool true) .nilS (.int .i64 0)) [] =
      some (.exit 0 ((st8x0 x (.int .i64 n) (.bool true) (oA [] (intsA ys)) (.int .i64 (xs.length : Int))).set 11 (.bool false)) (aA [] 1 (intsA ys))) := by
    have h := iter_up (E := envOf GI fsL) (fuel := xs.length + 50) (a := lp8x0) (mask := mask8x0) (fun i => st8x0 x (.int .i64 n) (.bool true) (oA [] (intsA (yT n xs i))) (.int .i64 (i : Int))) (fun i => aA [] 1 (intsA (yT n xs i))) xs.length
      (o := .exit 0 ((st8x0 x (.int .i64 n) (.bool true) (oA [] (intsA ys)) (.int .i64 (xs.length : Int))).set 11 (.bool false)) (aA [] 1 (intsA ys)))
      (fun _ => cl8x0) (fun _ _ h => by cases h) (fun i hi => round8 (xs.length + 50) hx hr n hn hm hi) (by
        have e : yT n xs xs.length = ys := by unfold yT; rw [List.take_length, ← hys]
        rw [e]
        obtain ⟨o, ho⟩ : ∃ o, o = oA [] (intsA ys) := ⟨_, rfl⟩
        rw [← ho]
        simp [lp8x0, hl, -evLenSl]) (show xs.length < xs.length + 50 by omega)
    exact h
  have hnr := noRef_ints ys
  have m1 := m13 (A := aA [] 1 (intsA ys)) hx hr hnr
  have m2 := M13_eq (oA_holds (A := []) (esz := 1) (intsA ys)) hyr hnr
  have m2 : M13 [oA [] (intsA ys)] (aA [] 1 (intsA ys)) = some (testsA (tests ys), aA [] 1 (intsA ys)) := m2
  have m3 := M14_eq hn
  have hw := waf_of n
  have g1 := waf_good n
  have t1 := tests_of xs
  have t2 := tests_of ys
  have g2 := tests_good xs
  have g3 := tests_good ys
  have m4 := m22_good hw t1 g1 g2
  have m5 := m22_good hw t2 g1 g3
  rw [← al.bnd] at m5
  have hbl : (bnd (waf n) (tests xs)).length ≤ 1000 := by
    have h1 := (bndS_lt (m := fun w => maskTo (tests xs) w (tests xs).length) (fun w => Nat.lt_of_lt_of_le (maskTo_lt (tests xs) w _) (Nat.pow_le_pow_right (by omega) (by have := tests_len xs; omega))) (waf n) (waf n).length).2
    have := waf_len n
    unfold bnd; omega
  have hbi : intsOf (slA 1 (intsA (bnd (waf n) (tests xs)))) = some (bnd (waf n) (tests xs)) := intsOf_slA (by omega) (bnd_in (waf_in n))
  have m6 := m19_same hbi hbi
  have hn0 : intsOf .nilS = some [] := rfl
  obtain ⟨r, ok, m7, m8, m9, hr1⟩ : ∃ r ok, M15 [slA 1 (intsA (waf n)), testsA (tests xs)] = some (.tup [r, .bool ok]) ∧ M15 [slA 1 (intsA (waf n)), testsA (tests ys)] = some (.tup [r, .bool ok]) ∧ M19 [r, r] = some (.bool true) ∧ (∀ A n, frz A n r = r) := by
    cases hF : fewest (waf n) (tests xs) with
    | none => exact ⟨_, _, m15_none hw t1 g1 g2 hF, m15_none hw t2 g1 g3 (al.few ▸ hF), m19_same hn0 hn0, intsOf_frz hn0⟩
    | some best =>
      have hb := (chosen_of (by have := tests_len xs; omega) (fewest_some hF).1).2
      exact ⟨_, _, m15_some hw t1 g1 g2 hF, m15_some hw t2 g1 g3 (al.few ▸ hF), m19_same hb hb, intsOf_frz hb⟩
  have f1 := intsOf_frz hw
  have f2 := testsOf_frz t1
  have f3 := testsOf_frz t2
  have f4 := intsOf_frz hbi
  obtain ⟨w, hw'⟩ : ∃ w, w = slA 1 (intsA (waf n)) := ⟨_, rfl⟩
  obtain ⟨l, hl'⟩ : ∃ l, l = testsA (tests xs) := ⟨_, rfl⟩
  obtain ⟨k, hk'⟩ : ∃ k, k = testsA (tests ys) := ⟨_, rfl⟩
  obtain ⟨bd, hbd⟩ : ∃ bd, bd = slA 1 (intsA (bnd (waf n) (tests xs))) := ⟨_, rfl⟩
  rw [← hw'] at m3 m4 m5 m7 m8 f1
  rw [← hl'] at m1 m4 m7 f2
  rw [← hk'] at m2 m5 m8 f3
  rw [← hbd] at m4 m5 m6 f4
  obtain ⟨o, ho⟩ : ∃ o, o = oA [] (intsA ys) := ⟨_, rfl⟩
  obtain ⟨Z, hZ⟩ : ∃ Z, Z = aA [] 1 (intsA ys) := ⟨_, rfl⟩
  rw [← ho, ← hZ] at lp m2
  rw [← hZ] at m1
  rw [evP_run _ _ rfl]
  simp [mf8, m1, m2, m3, m4, m5, m6, m7, m8, m9, hr1, f1, f2, f3, f4, go8x0 lp]

theorem ev8L (args : List AV) (h : LawArgs Tryd.prog 8 Tryd.f8.params.toList args) (hq : ∀ s es, args[0]? = some (.fs s es) → es.length * 8 ≤ 140737488355328) : ∃ fuel, evP (envOf GI fsL) fuel mf8 1 args = some (.bool true) := by
  rw [Tryd.params8] at h
  obtain ⟨a, r, rfl, h0, h⟩ := h.cons
  obtain ⟨b, r, rfl, h1, h⟩ := h.cons
  obtain rfl := h.nil
  obtain ⟨xs, hx, _, hr⟩ := TA.ints Tryd.underlying23 Tryd.underlying3 (by kernel_rfl) h0
  obtain ⟨n, rfl, hn⟩ := TA.i64 Tryd.underlying3 h1
  refine ⟨xs.length + 50, ev8 hx hr ?_ n hn⟩
  rcases hx with ⟨_, h⟩ | rfl
  · have : xs = [] := by simpa using h
    subst this; simp
  · have := hq 1 _ rfl
    simpa using this
end Go.Proofs.YtkdjebioapholaaDoor
