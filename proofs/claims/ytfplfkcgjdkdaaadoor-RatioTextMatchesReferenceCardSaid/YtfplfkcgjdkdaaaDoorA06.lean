/-
  What the proof is built on (R24a to R24).
-/
import Derived.Test.YtfplfkcgjdkdaaaDoorA05
/-
  Ratio: the reference's digits and texts (60, 40, 15).
-/
namespace Go.Proofs.YtfplfkcgjdkdaaaDoor
namespace Rat0
open Go

def dg (k : Nat) : UInt8 := UInt8.ofNat (48 + k % 10)
def txtF : Nat → Nat → List UInt8 → List UInt8
  | 0, _, s => s
  | m + 1, k, s => if k > 0 ∨ s = [] then txtF m (k / 10) (dg k :: s) else s
theorem dec_eq (u : Nat) : Lib.decDigits u = if u < 10 then [dg u] else Lib.decDigits (u / 10) ++ [dg u] := by
  rw [Lib.decDigits]
  split
  · rename_i h
    rw [dg, Nat.mod_eq_of_lt h]
  · rfl
theorem txtF_zero (m : Nat) (s : List UInt8) (hs : s ≠ []) : txtF m 0 s = s := by
  cases m with
  | zero => rfl
  | succ m =>
    unfold txtF
    rw [if_neg (by simp [hs])]
theorem txtF_dec : ∀ (m k : Nat) (s : List UInt8), k < 10 ^ (m + 1) → (k > 0 ∨ s = []) → txtF (m + 1) k s = Lib.decDigits k ++ s
  | m, k, s, hk, h => by
    unfold txtF
    rw [if_pos h, dec_eq]
    by_cases h10 : k < 10
    · rw [if_pos h10, show k / 10 = 0 by omega, txtF_zero _ _ (by simp)]; rfl
    · rw [if_neg h10]
      cases m with
      | zero => simp at hk; omega
      | succ m =>
        rw [txtF_dec m (k / 10) (dg k :: s) (by rw [Nat.pow_succ] at hk; omega) (.inl (by omega))]
        simp
theorem evEqlS (s t : List UInt8) : evBin .eql (.str s) (.str t) = some (.bool (decide (s = t))) := by
  simp only [evBin, Option.some.injEq, AV.bool.injEq]
  rw [Bool.eq_iff_iff]; simp
set_option maxRecDepth 100000 in
theorem round60 (E : Env) (fuel : Nat) (A : Arena) {k : Nat} (hk : k < 1000000000000000000) {s : List UInt8} (hs : s.length ≤ 100) (h : k > 0 ∨ s = []) :
    ∃ B, run E fuel [.code lp60x0] (st60x0 (.int .i64 (k : Int)) (.str s)) A = some (.normal (st60x0 (.int .i64 ((k / 10 : Nat) : Int)) (.str (dg k :: s))) B) := by
  obtain ⟨z, hz⟩ : ∃ z, z = k % 10 := ⟨_, rfl⟩
  obtain ⟨q, hq⟩ : ∃ q, q = k / 10 := ⟨_, rfl⟩
  have b1 := evGtr (k : Int) 0
  have b2 := evEqlS s []
  have b3 : evBin .rem (.int .i64 (k : Int)) (.int .i64 10) = some (.int .i64 (z : Int)) := by
    have : (k : Int).tmod 10 = (z : Int) := by rw [Int.tmod_eq_emod_of_nonneg (by omega)]; omega
    simp only [evBin]; rw [if_pos trivial, if_neg (by decide), this]
  have b4 : evBin .quo (.int .i64 (k : Int)) (.int .i64 10) = some (.int .i64 (q : Int)) := by
    have : (k : Int).tdiv 10 = (q : Int) := by rw [Int.tdiv_eq_ediv_of_nonneg (by omega)]; omega
    simp only [evBin]; rw [if_pos trivial, if_neg (by decide), this, wrapI (by unfold inI; omega)]
  have b5 := evAdd (x := 48) (y := (z : Int)) (by unfold inI; omega)
  have b6 : evConvInt .u8 (.int .i64 (48 + (z : Int))) = some (.int .u8 (48 + (z : Int))) := by
    simp only [evConvInt]
    rw [wrapU8 (by omega)]
  have b7 : evBuildSlice 1 [.int .u8 (48 + (z : Int))] A = some (.sl A.length 0 1, A ++ [.row 1 false [.int .u8 (48 + (z : Int))]]) := by
    simp [evBuildSlice]
  have b8 : evToStr (A ++ [.row 1 false [.int .u8 (48 + (z : Int))]]) (.sl A.length 0 1) = some (.str [dg k]) := by
    have e : (48 + (z : Int)).toNat = 48 + k % 10 := by omega
    have h1 : srcElems 1 (A ++ [.row 1 false [.int .u8 (48 + (z : Int))]]) (.sl A.length 0 1) = some [.int .u8 (48 + (z : Int))] := by simp [srcElems]
    simp only [evToStr, h1, u8s, Option.map_some, List.map_cons, List.map_nil, e, dg]
  have b9 : evBin .add (.str [dg k]) (.str s) = some (.str (dg k :: s)) := by
    simp only [evBin]
    exact if_pos (by simp; omega)
  obtain ⟨w, hw⟩ : ∃ w, w = 48 + (z : Int) := ⟨_, rfl⟩
  rw [← hw] at b5 b6 b7 b8
  obtain ⟨B, hB⟩ : ∃ B, B = A ++ [Ent.row 1 false [.int .u8 w]] := ⟨_, rfl⟩
  rw [← hB] at b7 b8
  rw [← hq]
  refine ⟨B, ?_⟩
  by_cases h0 : s = []
  · rw [decide_eq_true h0] at b2
    simp [lp60x0, b2, b3, b4, b5, b6, b7, b8, b9, -evBin, -evConvInt, -evBuildSlice]
  · rw [decide_eq_false h0] at b2
    rw [decide_eq_true (show 0 < (k : Int) by have := h.resolve_right h0; omega)] at b1
    simp [lp60x0, b1, b2, b3, b4, b5, b6, b7, b8, b9, -evBin, -evConvInt, -evBuildSlice]
theorem loop60 (E : Env) (fuel : Nat) : ∀ (m k : Nat) (s : List UInt8) (A : Arena) (n : Nat), k < 10 ^ m → m ≤ 18 → (k > 0 ∨ s = [] → 0 < m) → s.length + m ≤ 50 → m < n → ∃ B, iter (evC E fuel lp60x0) mask60x0 n (st60x0 (.int .i64 (k : Int)) (.str s)) A = some (.exit 0 ((st60x0 (.int .i64 0) (.str (txtF m k s))).set 4 (.bool false)) B)
  | m, k, s, A, 0, _, _, _, _, h => by omega
  | m, k, s, A, n + 1, hk, hm, h0, hs, hn => by
    rw [iter_succ, cl60x0]
    by_cases hc : k > 0 ∨ s = []
    · obtain ⟨m, rfl⟩ : ∃ j, m = j + 1 := ⟨m - 1, by have := h0 hc; omega⟩
      have hk18 : k < 1000000000000000000 := Nat.lt_of_lt_of_le hk (show 10 ^ (m + 1) ≤ 10 ^ 18 from Nat.pow_le_pow_right (by omega) hm)
      obtain ⟨B, r⟩ := round60 E fuel A hk18 (by omega) hc
      rw [r]
      unfold txtF
      rw [if_pos hc]
      have hk2 : k / 10 < 10 ^ m := by
        rw [Nat.pow_succ] at hk
        exact (Nat.div_lt_iff_lt_mul (by omega)).2 hk
      obtain ⟨C, r2⟩ := loop60 E fuel m (k / 10) (dg k :: s) B n hk2 (by omega) (fun h => by
        rcases h with h | h
        · rcases Nat.eq_zero_or_pos m with h' | h'
          · rw [h'] at hk2; simp at hk2; omega
          · exact h'
        · cases h) (by simp; omega) (by omega)
      exact ⟨C, r2⟩
    · have hk0 : k = 0 := by omega
      subst hk0
      have hs2 : s ≠ [] := fun h => hc (.inr h)
      have b2 := evEqlS s []
      rw [decide_eq_false hs2] at b2
      have b1 : evBin .gtr (.int .i64 0) (.int .i64 0) = some (.bool false) := rfl
      rw [txtF_zero _ _ hs2]
      rw [show ((0 : Nat) : Int) = 0 from rfl]
      exact ⟨A, by simp [lp60x0, b1, b2, -evBin]⟩
noncomputable def M60a : PModel := fun args => evP (envOf GR []) 300 mf60 4 args
theorem spec60a : PureSpec Tryd.prog GR 60 M60a := PureSpec.of_ev (E := envOf GR []) (envOf_sound lookM_nil) rfl at60 comp60 4 fun _ _ h => ⟨300, h⟩
theorem run60 (E : Env) {k : Nat} (hk : k < 1000000000000000000) : evP E 300 mf60 4 [.int .i64 (k : Int)] = some (.str (Lib.decDigits k)) := by
  obtain ⟨B, lp⟩ := loop60 E 300 18 k [] [] 300 hk (by omega) (fun _ => by omega) (by simp) (by omega)
  rw [txtF_dec 17 k [] hk (.inr rfl), List.append_nil] at lp
  have b0 : evBin .lss (.int .i64 (k : Int)) (.int .i64 0) = some (.bool false) := by rw [evLss]; simp
  rw [evP_run _ _ rfl]
  generalize (k : Int) = K at *
  simp [mf60, go60x0 lp, b0, -evBin]
theorem M60a_eq {k : Nat} (hk : k < 1000000000000000000) : M60a [.int .i64 (k : Int)] = some (.str (Lib.decDigits k)) := run60 _ hk
noncomputable def fs60 : List (FuncId × HModel) := [(60, pureH 4 M60a)]
@[simp] theorem fs60_60 : lookM fs60 60 = some (pureH 4 M60a) := rfl
noncomputable def M60 : PModel := fun args => evP (envOf GR fs60) 300 mf60 4 args
theorem spec60 : PureSpec Tryd.prog GR 60 M60 := PureSpec.of_ev (E := envOf GR fs60) (envOf_sound (lookM_cons (FnSpecY.of_pure spec60a 4) lookM_nil)) rfl at60 comp60 4 fun _ _ h => ⟨300, h⟩
theorem dec_len : ∀ (m k : Nat), k < 10 ^ (m + 1) → (Lib.decDigits k).length ≤ m + 1
  | m, k, hk => by
    rw [dec_eq]
    by_cases h : k < 10
    · rw [if_pos h]; simp
    · rw [if_neg h]
      cases m with
      | zero => simp at hk; omega
      | succ m =>
        have := dec_len m (k / 10) (by rw [Nat.pow_succ] at hk; omega)
        simp; omega
theorem M60_eq {n : Int} (hn : -lim ≤ n ∧ n ≤ lim) : M60 [.int .i64 n] = some (.str (Lib.itoa n)) := by
  unfold lim at hn
  unfold Lib.itoa
  by_cases h : n < 0
  · rw [if_pos h]
    have b0 : evBin .lss (.int .i64 n) (.int .i64 0) = some (.bool true) := by rw [evLss]; simp [h]
    have b1 : evUn .neg (.int .i64 n) = some (.int .i64 (n.natAbs : Int)) := by
      simp [evUn, wrapI (a := -n) (by unfold inI; omega)]; omega
    have m := M60a_eq (k := n.natAbs) (by omega)
    have hl := dec_len 10 n.natAbs (by omega)
    have b2 : evBin .add (.str [45]) (.str (Lib.decDigits n.natAbs)) = some (.str (45 :: Lib.decDigits n.natAbs)) := by
      simp only [evBin]
      exact if_pos (by simp; omega)
    unfold M60
    rw [evP_run _ _ rfl]
    generalize Lib.decDigits n.natAbs = D at *
    generalize (n.natAbs : Int) = K at *
    simp [mf60, b0, b1, b2, m, -evBin, -evUn]
  · rw [if_neg h]
    have := run60 (envOf GR fs60) (k := n.toNat) (by omega)
    rw [show ((n.toNat : Nat) : Int) = n by omega] at this
    exact this

/-! ### a fraction's text -/
noncomputable def fs40 : List (FuncId × HModel) := [(60, pureH 4 M60)]
@[simp] theorem fs40_60 : lookM fs40 60 = some (pureH 4 M60) := rfl
noncomputable def M40 : PModel := fun args => evP (envOf GR fs40) 0 mf40 4 args
theorem spec40 : PureSpec Tryd.prog GR 40 M40 := PureSpec.of_ev (E := envOf GR fs40) (envOf_sound (lookM_cons (FnSpecY.of_pure spec60 4) lookM_nil)) rfl at40 comp40 4 fun _ _ h => ⟨0, h⟩
theorem M40_eq {a : Q} (ok : Ok a) : M40 [qA a] = some (.str (text a)) := by
  have hq := ok.inQ
  obtain ⟨h1, h2, h3, h4, h5⟩ := ok
  have m1 := M60_eq (n := a.n) ⟨h3, h4⟩
  have m2 := M60_eq (n := a.d) ⟨by unfold lim at *; omega, h2⟩
  have e := evEql a.d 1
  have l1 := itoa_len hq.1
  have l2 := itoa_len hq.2
  unfold M40
  rw [evP_run _ _ rfl]
  unfold text
  by_cases h : a.d = 1
  · rw [decide_eq_true h] at e
    rw [if_neg (by omega), List.append_nil]
    simp [mf40, qA, e, m1, -evBin]
  · rw [decide_eq_false h] at e
    rw [if_pos (by omega)]
    have b1 : evBin .add (.str (Lib.itoa a.n)) (.str [47]) = some (.str (Lib.itoa a.n ++ [47])) := by
      simp only [evBin]
      exact if_pos (by simp; omega)
    have b2 : evBin .add (.str (Lib.itoa a.n ++ [47])) (.str (Lib.itoa a.d)) = some (.str (Lib.itoa a.n ++ 47 :: Lib.itoa a.d)) := by
      simp only [evBin]
      rw [if_pos (by simp; omega)]
      simp
    simp [mf40, qA, e, m1, m2, b1, b2, -evBin]

/-! ### the reference's Print -/
noncomputable def fs15 : List (FuncId × HModel) := [(35, pureH 4 M35), (40, pureH 4 M40)]
@[simp] theorem fs15_35 : lookM fs15 35 = some (pureH 4 M35) := rfl
@[simp] theorem fs15_40 : lookM fs15 40 = some (pureH 4 M40) := rfl
noncomputable def M15 : PModel := fun args => evP (envOf GR fs15) 0 mf15 4 args
theorem spec15 : PureSpec Tryd.prog GR 15 M15 := PureSpec.of_ev (E := envOf GR fs15) (envOf_sound (lookM_cons (FnSpecY.of_pure spec35 4) (lookM_cons (FnSpecY.of_pure spec40 4) lookM_nil))) rfl at15 comp15 4 fun _ _ h => ⟨0, h⟩
theorem M15_eq {a : Q} (h : InQ a) : M15 [qA a] = some (printA a) := by
  have m1 := M35_eq h
  unfold M15 printA
  rw [evP_run _ _ rfl]
  by_cases ok : Ok a
  · rw [decide_eq_true ok] at m1
    have m2 := M40_eq ok
    rw [if_pos ok]
    unfold qA at m1 m2
    simp [mf15, qA, m1, m2]
  · rw [decide_eq_false ok] at m1
    rw [if_neg ok]
    unfold qA at m1
    simp [mf15, qA, m1]
end Rat0
end Go.Proofs.YtfplfkcgjdkdaaaDoor
/-
  Ratio: the reference's Parse (44, 17).
-/
namespace Go.Proofs.YtfplfkcgjdkdaaaDoor
namespace Rat0
open Go

/-! ### read -/
def rdS (n : Nat) (b : UInt8) : Nat := if 48 ≤ b.toNat ∧ b.toNat ≤ 57 then 10 * n + (b.toNat - 48) else n
def rdF : Nat → List UInt8 → Nat
  | n, [] => n
  | n, b :: r => rdF (rdS n b) r
def rd (s : List UInt8) : Int := if s.head? = some 45 then -(rdF 0 s : Int) else (rdF 0 s : Int)
theorem rdS_bd {n k : Nat} (b : UInt8) (h : n < 10 ^ k) : rdS n b < 10 ^ (k + 1) := by
  rw [Nat.pow_succ]
  unfold rdS
  split <;> omega
theorem rdF_bd : ∀ (s : List UInt8) (n k : Nat), n < 10 ^ k → rdF n s < 10 ^ (k + s.length)
  | [], _, _, h => h
  | b :: r, n, k, h => by
    have := rdF_bd r (rdS n b) (k + 1) (rdS_bd b h)
    rw [show k + 1 + r.length = k + (b :: r).length by simp; omega] at this
    exact this
theorem geqU8 (x y : Int) : evBin .geq (.int .u8 x) (.int .u8 y) = some (.bool (decide (y ≤ x))) := by simp [evBin]
theorem leqU8 (x y : Int) : evBin .leq (.int .u8 x) (.int .u8 y) = some (.bool (decide (x ≤ y))) := by simp [evBin]
theorem eqlU8 (x y : Int) : evBin .eql (.int .u8 x) (.int .u8 y) = some (.bool (decide (x = y))) := by simp [evBin]
theorem ixS {s : List UInt8} {i : Nat} (h : i < s.length) : evIndexStr (.str s) (.int .i64 (i : Int)) = some (.int .u8 ((s[i].toNat : Nat) : Int)) := by
  simp [evIndexStr, List.getElem?_eq_getElem h]
set_option maxRecDepth 100000 in
theorem round44 (E : Env) (fuel : Nat) (A : Arena) {s : List UInt8} {i n : Nat} (hi : i < s.length) (hs : s.length ≤ 15) (hn : n < 1000000000000000) :
    run E fuel [.code lp44x0] (st44x0 (.str s) (.int .i64 (n : Int)) (.int .i64 (i : Int))) A = some (.normal (st44x0 (.str s) (.int .i64 ((rdS n s[i] : Nat) : Int)) (.int .i64 ((i + 1 : Nat) : Int))) A) := by
  have ls := lenS s
  have c0 := evLss (i : Int) (s.length : Int)
  rw [decide_eq_true (by omega)] at c0
  have ix := ixS hi
  have a1 := evAdd (x := (i : Int)) (y := 1) (by unfold inI; omega)
  rw [show (i : Int) + 1 = ((i + 1 : Nat) : Int) by omega] at a1
  have hb := s[i].toNat_lt
  unfold rdS
  generalize s[i].toNat = v at ix hb
  have g1 := geqU8 (v : Int) 48
  have g2 := leqU8 (v : Int) 57
  by_cases h1 : 48 ≤ v
  · rw [decide_eq_true (show (48 : Int) ≤ (v : Int) by omega)] at g1
    by_cases h2 : v ≤ 57
    · rw [decide_eq_true (show (v : Int) ≤ 57 by omega)] at g2
      rw [if_pos ⟨h1, h2⟩]
      have m1 := evMul (x := 10) (y := (n : Int)) (by unfold inI; omega)
      have s1 : evBin .sub (.int .u8 (v : Int)) (.int .u8 48) = some (.int .u8 ((v : Int) - 48)) := by
        simp only [evBin, if_true]; rw [wrapU8 (by omega)]
      have cv : evConvInt .i64 (.int .u8 ((v : Int) - 48)) = some (.int .i64 ((v : Int) - 48)) := by
        simp only [evConvInt]
        rw [wrapI (by unfold inI; omega)]
      have ad := evAdd (x := 10 * (n : Int)) (y := (v : Int) - 48) (by unfold inI; omega)
      rw [show 10 * (n : Int) + ((v : Int) - 48) = ((10 * n + (v - 48) : Nat) : Int) by omega] at ad
      generalize ((10 * n + (v - 48) : Nat) : Int) = R at *
      generalize (v : Int) - 48 = V1 at *
      generalize 10 * (n : Int) = N1 at *
      generalize (v : Int) = V at *
      generalize (n : Int) = N at *
      generalize ((i + 1 : Nat) : Int) = I1 at *
      generalize (i : Int) = I at *
      generalize (s.length : Int) = L at *
      simp [lp44x0, ls, c0, ix, g1, g2, m1, s1, cv, ad, a1, -evBin, -evConvInt, -evLenStr, -evIndexStr]
    · rw [decide_eq_false (show ¬ (v : Int) ≤ 57 by omega)] at g2
      rw [if_neg (by omega)]
      generalize (v : Int) = V at *
      generalize (n : Int) = N at *
      generalize ((i + 1 : Nat) : Int) = I1 at *
      generalize (i : Int) = I at *
      generalize (s.length : Int) = L at *
      simp [lp44x0, ls, c0, ix, g1, g2, a1, -evBin, -evConvInt, -evLenStr, -evIndexStr]
  · rw [decide_eq_false (show ¬ (48 : Int) ≤ (v : Int) by omega)] at g1
    rw [if_neg (by omega)]
    generalize (v : Int) = V at *
    generalize (n : Int) = N at *
    generalize ((i + 1 : Nat) : Int) = I1 at *
    generalize (i : Int) = I at *
    generalize (s.length : Int) = L at *
    simp [lp44x0, ls, c0, ix, g1, a1, -evBin, -evConvInt, -evLenStr, -evIndexStr]
theorem loop44 (E : Env) (fuel : Nat) (A : Arena) {s : List UInt8} (hs : s.length ≤ 15) : ∀ (c i n m : Nat), i + c = s.length → n < 10 ^ i → c < m →
    iter (evC E fuel lp44x0) mask44x0 m (st44x0 (.str s) (.int .i64 (n : Int)) (.int .i64 (i : Int))) A = some (.exit 0 ((st44x0 (.str s) (.int .i64 ((rdF n (s.drop i) : Nat) : Int)) (.int .i64 (s.length : Int))).set 4 (.bool false)) A)
  | 0, i, n, m, hi, _, hm => by
    obtain ⟨m, rfl⟩ : ∃ j, m = j + 1 := ⟨m - 1, by omega⟩
    obtain rfl : i = s.length := by omega
    rw [iter_succ, cl44x0, List.drop_length]
    show _ = some (Out.exit 0 ((st44x0 (.str s) (.int .i64 (n : Int)) (.int .i64 (s.length : Int))).set 4 (.bool false)) A)
    have ls := lenS s
    have c0 := evLss (s.length : Int) (s.length : Int)
    rw [decide_eq_false (by omega)] at c0
    generalize (s.length : Int) = L at *
    generalize (n : Int) = N at *
    simp [lp44x0, ls, c0, -evBin, -evLenStr]
  | c + 1, i, n, m, hi, hn, hm => by
    obtain ⟨m, rfl⟩ : ∃ j, m = j + 1 := ⟨m - 1, by omega⟩
    have hil : i < s.length := by omega
    have hn' : n < 1000000000000000 := Nat.lt_of_lt_of_le hn (show 10 ^ i ≤ 10 ^ 15 from Nat.pow_le_pow_right (by omega) (by omega))
    rw [iter_succ, cl44x0, round44 E fuel A hil hs hn', List.drop_eq_getElem_cons hil]
    exact loop44 E fuel A hs c (i + 1) (rdS n s[i]) m (by omega) (rdS_bd _ hn) (by omega)
noncomputable def M44 : PModel := fun args => evP (envOf GR []) 300 mf44 4 args
theorem spec44 : PureSpec Tryd.prog GR 44 M44 := PureSpec.of_ev (E := envOf GR []) (envOf_sound lookM_nil) rfl at44 comp44 4 fun _ _ h => ⟨300, h⟩
set_option maxRecDepth 100000 in
theorem M44_eq {s : List UInt8} (hs : s.length ≤ 15) : M44 [.str s] = some (.int .i64 (rd s)) := by
  have lp := loop44 (envOf GR []) 300 [] hs s.length 0 0 300 (by omega) (by decide) (by omega)
  have hb := rdF_bd s 0 0 (by decide)
  have hb2 : rdF 0 s < 1000000000000000 := Nat.lt_of_lt_of_le hb (show 10 ^ (0 + s.length) ≤ 10 ^ 15 from Nat.pow_le_pow_right (by omega) (by omega))
  rw [List.drop_zero, show ((0 : Nat) : Int) = 0 from rfl] at lp
  unfold M44 rd
  rw [evP_run _ _ rfl]
  have n1 := strNe s []
  cases s with
  | nil =>
    rw [show (!decide (([] : List UInt8) = [])) = false by decide] at n1
    simp only [rdF] at lp
    simp [mf44, go44x0 lp, n1, rdF, -evBin]
  | cons b r =>
    rw [show (!decide (b :: r = [])) = true by simp] at n1
    have ix := ixS (s := b :: r) (i := 0) (by simp)
    rw [show ((0 : Nat) : Int) = 0 from rfl, List.getElem_cons_zero] at ix
    have e1 := eqlU8 ((b.toNat : Nat) : Int) 45
    generalize rdF 0 (b :: r) = N at lp hb2
    generalize ((b :: r).length : Int) = L at lp
    by_cases h : b = 45
    · subst h
      rw [show (((45 : UInt8).toNat : Nat) : Int) = 45 by decide] at ix e1
      rw [decide_eq_true (show (45 : Int) = 45 from rfl)] at e1
      have ng : evUn .neg (.int .i64 (N : Int)) = some (.int .i64 (-(N : Int))) := by
        simp [evUn, wrapI (a := -(N : Int)) (by unfold inI; omega)]
      generalize (N : Int) = N' at *
      simp [mf44, go44x0 lp, n1, ix, e1, ng, -evBin, -evUn, -evIndexStr]
    · have hb : (b.toNat : Int) ≠ 45 := fun hh => h (UInt8.toNat_inj.1 (by rw [show (45 : UInt8).toNat = 45 by decide]; omega))
      rw [decide_eq_false hb] at e1
      have : ¬ (b :: r).head? = some 45 := by simpa using h
      rw [if_neg this]
      generalize (N : Int) = N' at *
      generalize ((b.toNat : Nat) : Int) = V at *
      simp [mf44, go44x0 lp, n1, ix, e1, -evBin, -evUn, -evIndexStr]

/-! ### the text read again -/
theorem rdF_append (l r : List UInt8) : ∀ n, rdF n (l ++ r) = rdF (rdF n l) r := by
  induction l with
  | nil => intro n; rfl
  | cons b l ih => intro n; exact ih _
theorem dg_toNat (u : Nat) : (dg u).toNat = 48 + u % 10 := by
  unfold dg
  simp only [UInt8.toNat_ofNat']; omega
theorem rdS_dg (n u : Nat) : rdS n (dg u) = 10 * n + u % 10 := by
  unfold rdS
  rw [dg_toNat, if_pos (by omega)]; omega
theorem rdF_dec (u : Nat) : rdF 0 (Lib.decDigits u) = u := by
  induction u using Nat.strongRecOn with
  | ind u ih =>
    rw [dec_eq]
    split
    · show rdS 0 (dg u) = u
      rw [rdS_dg]; omega
    · rw [rdF_append, ih (u / 10) (by omega)]
      show rdS (u / 10) (dg u) = u
      rw [rdS_dg]; omega
theorem dec_byte (u : Nat) : (∀ b ∈ Lib.decDigits u, 48 ≤ b.toNat ∧ b.toNat ≤ 57) ∧ Lib.decDigits u ≠ [] := by
  induction u using Nat.strongRecOn with
  | ind u ih =>
    rw [dec_eq]
    split
    · refine ⟨fun b hb => ?_, by simp⟩
      rw [List.mem_singleton] at hb
      rw [hb, dg_toNat]; omega
    · refine ⟨fun b hb => ?_, by simp⟩
      rcases List.mem_append.1 hb with hb | hb
      · exact (ih (u / 10) (by omega)).1 b hb
      · rw [List.mem_singleton] at hb
        rw [hb, dg_toNat]; omega
theorem head_dec (u : Nat) : (Lib.decDigits u).head? ≠ some 45 := by
  obtain ⟨h1, h2⟩ := dec_byte u
  intro h
  have := h1 45 (List.mem_of_head? h)
  have e : (45 : UInt8).toNat = 45 := by decide
  omega
theorem rd_itoa (n : Int) : rd (Lib.itoa n) = n := by
  unfold Lib.itoa rd
  by_cases h : n < 0
  · rw [if_pos h]
    have : rdF 0 (45 :: Lib.decDigits n.natAbs) = rdF 0 (Lib.decDigits n.natAbs) := rfl
    rw [this, rdF_dec]
    simp; omega
  · rw [if_neg h, if_neg (head_dec _), rdF_dec]; omega
theorem itoa_no47 (n : Int) : ∀ b ∈ Lib.itoa n, (b == 47) = false := by
  intro b hb
  have key : ∀ u, ∀ b ∈ Lib.decDigits u, (b == 47) = false := fun u b hb => by
    have := (dec_byte u).1 b hb
    have e : (47 : UInt8).toNat = 47 := by decide
    rw [beq_eq_false_iff_ne]
    rintro rfl
    omega
  unfold Lib.itoa at hb
  split at hb
  · rcases List.mem_cons.1 hb with rfl | hb
    · decide
    · exact key _ b hb
  · exact key _ b hb
theorem find_no : ∀ (l : List UInt8), (∀ b ∈ l, (b == 47) = false) → l.findIdx (· == 47) = l.length
  | [], _ => rfl
  | b :: l, h => by
    rw [List.findIdx_cons, h b (by simp), cond_false, find_no l fun x hx => h x (by simp [hx])]; rfl
theorem find_at : ∀ (l r : List UInt8), (∀ b ∈ l, (b == 47) = false) → (l ++ 47 :: r).findIdx (· == 47) = l.length
  | [], r, _ => by rw [List.nil_append, List.findIdx_cons]; rfl
  | b :: l, r, h => by
    rw [List.cons_append, List.findIdx_cons, h b (by simp), cond_false, find_at l r fun x hx => h x (by simp [hx])]; rfl
theorem itoa_len11 {n : Int} (h : -lim ≤ n ∧ n ≤ lim) : (Lib.itoa n).length ≤ 11 := by
  unfold lim at h
  unfold Lib.itoa
  split
  · have := dec_len 9 n.natAbs (by omega)
    simp; omega
  · have := dec_len 9 n.toNat (by omega)
    omega
theorem itoa_len10 {n : Int} (h : 0 ≤ n ∧ n ≤ lim) : (Lib.itoa n).length ≤ 10 := by
  unfold lim at h
  unfold Lib.itoa
  rw [if_neg (by omega)]
  have := dec_len 9 n.toNat (by omega)
  omega
theorem text_len22 {a : Q} (h : Ok a) : (text a).length ≤ 22 := by
  obtain ⟨h1, h2, h3, h4, h5⟩ := h
  have l1 := itoa_len11 ⟨h3, h4⟩
  have l2 := itoa_len10 (n := a.d) ⟨by omega, h2⟩
  unfold text
  split <;> simp only [List.length_append, List.length_cons, List.length_nil] <;> omega
def atI (s : List UInt8) : Nat := s.findIdx (· == 47)
def cutA1 (s : List UInt8) : List UInt8 := s.take (min (atI s) 11)
def cutA2 (s : List UInt8) : List UInt8 := (s.drop (atI s + 1)).take (min s.length (atI s + 12) - (atI s + 1))
def readQ (s : List UInt8) : Q := ⟨rd (cutA1 s), if atI s < s.length then rd (cutA2 s) else 1⟩
theorem read_text {b : Q} (ok : Ok b) : readQ (text b) = b := by
  obtain ⟨h1, h2, h3, h4, h5⟩ := ok
  have l1 := itoa_len11 ⟨h3, h4⟩
  have l2 := itoa_len10 (n := b.d) ⟨by omega, h2⟩
  unfold readQ
  by_cases h : 1 < b.d
  · have e : text b = Lib.itoa b.n ++ 47 :: Lib.itoa b.d := by unfold text; rw [if_pos h]
    have ea : atI (text b) = (Lib.itoa b.n).length := by rw [e]; exact find_at _ _ (itoa_no47 _)
    have e1 : cutA1 (text b) = Lib.itoa b.n := by
      unfold cutA1
      rw [ea, Nat.min_eq_left l1, e, List.take_left]
    have el : (text b).length = (Lib.itoa b.n).length + ((Lib.itoa b.d).length + 1) := by rw [e]; simp
    have e2 : cutA2 (text b) = Lib.itoa b.d := by
      unfold cutA2
      rw [ea, el, Nat.min_eq_left (by omega), e, List.drop_append]
      rw [List.drop_eq_nil_of_le (by omega), show (Lib.itoa b.n).length + 1 - (Lib.itoa b.n).length = 1 by omega]
      simp only [List.nil_append, List.drop_succ_cons, List.drop_zero]
      exact List.take_of_length_le (by omega)
    rw [e1, e2, rd_itoa, rd_itoa, if_pos (by rw [ea, el]; omega)]
  · have e : text b = Lib.itoa b.n := by unfold text; rw [if_neg h, List.append_nil]
    have ea : atI (text b) = (Lib.itoa b.n).length := by rw [e]; exact find_no _ (itoa_no47 _)
    have e1 : cutA1 (text b) = Lib.itoa b.n := by
      unfold cutA1
      rw [ea, Nat.min_eq_left l1, e, List.take_length]
    rw [e1, rd_itoa, if_neg (by rw [ea, e]; omega)]
    obtain ⟨n, d⟩ := b
    simp only at h1 h ⊢
    rw [show d = 1 by omega]
end Rat0
end Go.Proofs.YtfplfkcgjdkdaaaDoor
/-
  Ratio: the reference's Parse (17); RatioTextMatchesReference (3).
-/
namespace Go.Proofs.YtfplfkcgjdkdaaaDoor
namespace Rat0
open Go

/-! ### where the text is parted -/
def atF (s : List UInt8) (j : Nat) : Nat := j + (s.drop j).findIdx (· == 47)
theorem atF_len (s : List UInt8) : atF s s.length = s.length := by
  unfold atF
  rw [List.drop_length]; rfl
theorem atF_step {s : List UInt8} {j : Nat} (h : j < s.length) : atF s j = if s[j] = 47 then j else atF s (j + 1) := by
  unfold atF
  rw [List.drop_eq_getElem_cons h, List.findIdx_cons]
  by_cases h47 : s[j] = 47
  · rw [if_pos h47, h47]; rfl
  · rw [if_neg h47, beq_eq_false_iff_ne.2 h47, cond_false]; omega
theorem atF_le (s : List UInt8) (j : Nat) (h : j ≤ s.length) : atF s j ≤ s.length := by
  unfold atF
  have := List.findIdx_le_length (p := (· == (47 : UInt8))) (xs := s.drop j)
  rw [List.length_drop] at this
  omega
theorem evSubI {x y z : Int} (h : inI z) (e : x - y = z) : evBin .sub (.int .i64 x) (.int .i64 y) = some (.int .i64 z) := by
  subst e; exact evSub h
theorem loop17 (E : Env) (fuel : Nat) (A : Arena) {s : List UInt8} (p q : AV) (hs : s.length ≤ 22) : ∀ (j m : Nat), j ≤ s.length → j < m →
    iter (evC E fuel lp17x0) mask17x0 m (st17x0 (.str s) p q (.int .i64 ((atF s j : Nat) : Int)) (.int .i64 ((j : Int) - 1))) A = some (.exit 0 ((st17x0 (.str s) p q (.int .i64 ((atF s 0 : Nat) : Int)) (.int .i64 (-1))).set 8 (.bool false)) A)
  | 0, m, _, hm => by
    obtain ⟨m, rfl⟩ : ∃ j, m = j + 1 := ⟨m - 1, by omega⟩
    have c0 : evBin .geq (.int .i64 (-1)) (.int .i64 0) = some (.bool false) := rfl
    rw [iter_succ, cl17x0, show ((0 : Nat) : Int) - 1 = -1 from rfl]
    generalize ((atF s 0 : Nat) : Int) = T
    simp [lp17x0, c0, -evBin]
  | j + 1, m, hj, hm => by
    obtain ⟨m, rfl⟩ : ∃ j, m = j + 1 := ⟨m - 1, by omega⟩
    have ih := loop17 E fuel A p q hs j m (by omega) (by omega)
    have hjl : j < s.length := by omega
    rw [show ((j + 1 : Nat) : Int) - 1 = (j : Int) by omega]
    have c0 := evGeq (j : Int) 0
    rw [decide_eq_true (by omega)] at c0
    have ix := ixS hjl
    have e1 := eqlU8 ((s[j].toNat : Nat) : Int) 47
    have sb := evSubI (x := (j : Int)) (y := 1) (z := (j : Int) - 1) (by unfold inI; omega) rfl
    have hr : run E fuel [.code lp17x0] (st17x0 (.str s) p q (.int .i64 ((atF s (j + 1) : Nat) : Int)) (.int .i64 (j : Int))) A = some (.normal (st17x0 (.str s) p q (.int .i64 ((atF s j : Nat) : Int)) (.int .i64 ((j : Int) - 1))) A) := by
      rw [atF_step hjl]
      by_cases h : s[j] = 47
      · rw [if_pos h]
        rw [decide_eq_true (by rw [h]; decide)] at e1
        generalize ((s[j].toNat : Nat) : Int) = V at *
        generalize ((atF s (j + 1) : Nat) : Int) = T at *
        generalize (j : Int) - 1 = J1 at *
        generalize (j : Int) = J at *
        simp [lp17x0, c0, ix, e1, sb, -evBin, -evIndexStr]
      · rw [if_neg h]
        have hb : ((s[j].toNat : Nat) : Int) ≠ 47 := fun hh => h (UInt8.toNat_inj.1 (by rw [show (47 : UInt8).toNat = 47 by decide]; omega))
        rw [decide_eq_false hb] at e1
        generalize ((s[j].toNat : Nat) : Int) = V at *
        generalize ((atF s (j + 1) : Nat) : Int) = T at *
        generalize (j : Int) - 1 = J1 at *
        generalize (j : Int) = J at *
        simp [lp17x0, c0, ix, e1, sb, -evBin, -evIndexStr]
    rw [iter_succ, cl17x0, hr]
    exact ih
noncomputable def fs17 : List (FuncId × HModel) := [(44, pureH 4 M44), (35, pureH 4 M35), (40, pureH 4 M40)]
@[simp] theorem fs17_44 : lookM fs17 44 = some (pureH 4 M44) := rfl
@[simp] theorem fs17_35 : lookM fs17 35 = some (pureH 4 M35) := rfl
@[simp] theorem fs17_40 : lookM fs17 40 = some (pureH 4 M40) := rfl
noncomputable def M17 : PModel := fun args => evP (envOf GR fs17) 300 mf17 4 args
theorem spec17 : PureSpec Tryd.prog GR 17 M17 := PureSpec.of_ev (E := envOf GR fs17) (envOf_sound (lookM_cons (FnSpecY.of_pure spec44 4) (lookM_cons (FnSpecY.of_pure spec35 4) (lookM_cons (FnSpecY.of_pure spec40 4) lookM_nil)))) rfl at17 comp17 4 fun _ _ h => ⟨300, h⟩
theorem lo_nat (k : IntKind) (n : Nat) : loB (some (.int k (n : Int))) = some n := by simp [loB]
theorem sl_hi {s : List UInt8} {h : Nat} (hh : h ≤ s.length) : evSliceStr none (some (.int .i64 (h : Int))) (.str s) = some (.str (s.take h)) := by
  simp only [evSliceStr, evBounds, loB, hi_nat .i64 hh, if_pos (Nat.zero_le _), Option.map_some, List.drop_zero, Nat.sub_zero]
theorem sl_lohi {s : List UInt8} {l h : Nat} (hl : l ≤ h) (hh : h ≤ s.length) : evSliceStr (some (.int .i64 (l : Int))) (some (.int .i64 (h : Int))) (.str s) = some (.str ((s.drop l).take (h - l))) := by
  simp only [evSliceStr, evBounds, lo_nat, hi_nat .i64 hh, if_pos hl, Option.map_some]
theorem rd_in {s : List UInt8} (h : s.length ≤ 15) : inI (rd s) := by
  have hb := rdF_bd s 0 0 (by decide)
  have hb2 : rdF 0 s < 1000000000000000 := Nat.lt_of_lt_of_le hb (show 10 ^ (0 + s.length) ≤ 10 ^ 15 from Nat.pow_le_pow_right (by omega) (by omega))
  unfold rd inI
  split <;> omega
theorem parse_read (s : List UInt8) : parseQ s = if Ok (readQ s) ∧ text (readQ s) = s then some (readQ s) else none := by
  by_cases h : Ok (readQ s) ∧ text (readQ s) = s
  · rw [if_pos h]; exact parse_iff.2 h
  · rw [if_neg h]
    cases hp : parseQ s with
    | none => rfl
    | some b =>
      obtain ⟨ok, e⟩ := parse_iff.1 hp
      subst e
      rw [read_text ok] at h
      exact absurd ⟨ok, rfl⟩ h
set_option maxRecDepth 100000 in
set_option maxHeartbeats 8000000 in
theorem M17_eq (s : List UInt8) (hl : s.length ≤ 1000) : M17 [.str s] = some (resA (parseQ s)) := by
  have ls := lenS s
  have g0 := evGtr (s.length : Int) 22
  unfold M17
  rw [evP_run _ _ rfl]
  by_cases h22 : s.length ≤ 22
  · rw [decide_eq_false (by omega)] at g0
    have lp := loop17 (envOf GR fs17) 300 [.row 2 false [.agg [.int .i64 0, .int .i64 0]], .row 2 false [.agg [.int .i64 0, .int .i64 1]]] (.ptr 0 0 0) (.ptr 1 0 0) h22 s.length 300 (Nat.le_refl _) (by omega)
    rw [atF_len] at lp
    have sb := evSubI (x := (s.length : Int)) (y := 1) (z := (s.length : Int) - 1) (by unfold inI; omega) rfl
    have hat := atF_le s 0 (by omega)
    have e0 : atF s 0 = atI s := by unfold atF atI; rw [List.drop_zero, Nat.zero_add]
    rw [e0] at lp hat
    have mn : evMinL false (.int .i64 ((atI s : Nat) : Int)) [.int .i64 11] = some (.int .i64 ((min (atI s) 11 : Nat) : Int)) := by
      have := min2_nat (atI s) 11 .i64 .i64
      simp only [evMinL]
      rw [show (.int .i64 11 : AV) = .int .i64 ((11 : Nat) : Int) from rfl, this]
    have sl : evSliceStr none (some (.int .i64 ((min (atI s) 11 : Nat) : Int))) (.str s) = some (.str (cutA1 s)) := sl_hi (by omega)
    have l1 : (cutA1 s).length ≤ 15 := by unfold cutA1; simp; omega
    have l2 : (cutA2 s).length ≤ 15 := by unfold cutA2; simp; omega
    have m1 := M44_eq l1
    have m2 := M44_eq l2
    have lt := evLss ((atI s : Nat) : Int) (s.length : Int)
    have hq : InQ (readQ s) := by
      refine ⟨rd_in l1, ?_⟩
      unfold readQ
      simp only
      split
      · exact rd_in l2
      · unfold inI; omega
    have v := M35_eq hq
    rw [parse_read]
    have t : Ok (readQ s) → M40 [qA (readQ s)] = some (.str (text (readQ s))) := M40_eq
    have ne := strNe (text (readQ s)) s
    have a1 := evAdd (x := ((atI s : Nat) : Int)) (y := 1) (by unfold inI; omega)
    have a12 := evAdd (x := ((atI s : Nat) : Int)) (y := 12) (by unfold inI; omega)
    rw [show ((atI s : Nat) : Int) + 1 = ((atI s + 1 : Nat) : Int) by omega] at a1
    rw [show ((atI s : Nat) : Int) + 12 = ((atI s + 12 : Nat) : Int) by omega] at a12
    have mn2 : evMinL false (.int .i64 (s.length : Int)) [.int .i64 ((atI s + 12 : Nat) : Int)] = some (.int .i64 ((min s.length (atI s + 12) : Nat) : Int)) := by
      have := min2_nat s.length (atI s + 12) .i64 .i64
      simp only [evMinL]
      rw [this]
    have sl2 : atI s < s.length → evSliceStr (some (.int .i64 ((atI s + 1 : Nat) : Int))) (some (.int .i64 ((min s.length (atI s + 12) : Nat) : Int))) (.str s) = some (.str (cutA2 s)) := fun h => sl_lohi (by omega) (by omega)
    have en : (readQ s).n = rd (cutA1 s) := rfl
    have ed1 : atI s < s.length → (readQ s).d = rd (cutA2 s) := fun h => if_pos h
    have ed2 : ¬ atI s < s.length → (readQ s).d = 1 := fun h => if_neg h
    unfold qA at v t
    generalize text (readQ s) = tx at *
    generalize readQ s = r at *
    by_cases hat2 : atI s < s.length
    · rw [decide_eq_true (by omega)] at lt
      have sl2 := sl2 hat2
      rw [← en] at m1
      rw [← ed1 hat2] at m2
      generalize ((min s.length (atI s + 12) : Nat) : Int) = K1 at *
      generalize ((min (atI s) 11 : Nat) : Int) = K2 at *
      generalize ((atI s + 12 : Nat) : Int) = K3 at *
      generalize ((atI s + 1 : Nat) : Int) = K4 at *
      generalize ((atI s : Nat) : Int) = K5 at *
      generalize (s.length : Int) - 1 = K6 at *
      generalize (s.length : Int) = L at *
      generalize cutA1 s = C1 at *
      generalize cutA2 s = C2 at *
      by_cases ok : Ok r
      · rw [decide_eq_true ok] at v
        have t := t ok
        by_cases h : tx = s
        · rw [decide_eq_true h] at ne
          rw [if_pos ⟨ok, h⟩]
          simp [mf17, ls, g0, sb, go17x0 lp, mn, sl, m1, m2, lt, a1, a12, mn2, sl2, v, t, ne, resA, qA, -evBin, -evLenStr, -evSliceStr, -evMinL]
        · rw [decide_eq_false h] at ne
          rw [if_neg fun hh => h hh.2]
          simp [mf17, ls, g0, sb, go17x0 lp, mn, sl, m1, m2, lt, a1, a12, mn2, sl2, v, t, ne, resA, qA, -evBin, -evLenStr, -evSliceStr, -evMinL]
      · rw [decide_eq_false ok] at v
        rw [if_neg fun hh => ok hh.1]
        simp [mf17, ls, g0, sb, go17x0 lp, mn, sl, m1, m2, lt, a1, a12, mn2, sl2, v, resA, qA, -evBin, -evLenStr, -evSliceStr, -evMinL]
    · rw [decide_eq_false (by omega)] at lt
      rw [← en] at m1
      have ed := ed2 hat2
      rw [ed] at v t
      generalize ((min (atI s) 11 : Nat) : Int) = K2 at *
      generalize ((atI s : Nat) : Int) = K5 at *
      generalize (s.length : Int) - 1 = K6 at *
      generalize (s.length : Int) = L at *
      generalize cutA1 s = C1 at *
      by_cases ok : Ok r
      · rw [decide_eq_true ok] at v
        have t := t ok
        by_cases h : tx = s
        · rw [decide_eq_true h] at ne
          rw [if_pos ⟨ok, h⟩]
          simp [mf17, ls, g0, sb, go17x0 lp, mn, sl, m1, lt, v, t, ne, resA, qA, ed, -evBin, -evLenStr, -evSliceStr, -evMinL]
        · rw [decide_eq_false h] at ne
          rw [if_neg fun hh => h hh.2]
          simp [mf17, ls, g0, sb, go17x0 lp, mn, sl, m1, lt, v, t, ne, resA, qA, -evBin, -evLenStr, -evSliceStr, -evMinL]
      · rw [decide_eq_false ok] at v
        rw [if_neg fun hh => ok hh.1]
        simp [mf17, ls, g0, sb, go17x0 lp, mn, sl, m1, lt, v, resA, qA, -evBin, -evLenStr, -evSliceStr, -evMinL]
  · rw [decide_eq_true (by omega)] at g0
    have hn : parseQ s = none := by
      cases hp : parseQ s with
      | none => rfl
      | some b =>
        obtain ⟨ok, e⟩ := parse_iff.1 hp
        have := text_len22 ok
        rw [e] at this
        exact absurd this h22
    rw [hn]
    generalize (s.length : Int) = L at *
    simp [mf17, ls, g0, resA, qA, -evBin, -evLenStr]

/-! ### the law -/
noncomputable def fsT : List (FuncId × HModel) := (15, pureH 4 M15) :: (17, pureH 4 M17) :: fsX
@[simp] theorem fsT_15 : lookM fsT 15 = some (pureH 4 M15) := rfl
@[simp] theorem fsT_17 : lookM fsT 17 = some (pureH 4 M17) := rfl
@[simp] theorem fsT_12 : lookM fsT 12 = some (pureH 4 M12) := rfl
@[simp] theorem fsT_13 : lookM fsT 13 = some (pureH 4 M13) := rfl
@[simp] theorem fsT_14 : lookM fsT 14 = some (pureH 4 M14) := rfl
@[simp] theorem fsT_16 : lookM fsT 16 = some (pureH 4 M16) := rfl
theorem soundT : ∀ f M, lookM fsT f = some M → FnSpecY Tryd.prog GR f M := lookM_cons (FnSpecY.of_pure spec15 4) (lookM_cons (FnSpecY.of_pure spec17 4) soundX)
set_option maxRecDepth 100000 in
set_option maxHeartbeats 8000000 in
theorem ev3 {n d : Int} (hn : inI n) (hd : inI d) (s : List UInt8) : evP (envOf GR fsT) 0 mf3 1 [.int .i64 n, .int .i64 d, .str s] = some (.bool true) := by
  rw [evP_run _ _ rfl]
  have mn := min60 s
  have sl := cutS60 s
  have ln := lenS s
  have hlen := cut60_len s
  generalize ((min s.length 60 : Nat) : Int) = M at mn sl
  generalize cut60 s = s' at sl hlen
  generalize (s.length : Int) = L at mn ln
  have z := M14_eq n d
  have hq : InQ ⟨n, d⟩ := ⟨hn, hd⟩
  have p1 := M13_eq hq
  have p2 := M15_eq hq
  obtain ⟨t, e, ht, _⟩ := printA_form ⟨n, d⟩
  rw [ht] at p1 p2
  have q1 := M16_eq (s := s') (by omega)
  have q2 := M17_eq s' (by omega)
  rw [resA_eq] at q1 q2
  generalize (fstQ (parseQ s')).n = r1 at q1 q2
  generalize (fstQ (parseQ s')).d = r2 at q1 q2
  generalize errN (parseQ s') = r3 at q1 q2
  unfold qA at z p1 p2
  simp only at z p1 p2
  have e1 := evEqlS t t
  rw [decide_eq_true rfl] at e1
  simp [mf3, M12_eq, mn, sl, ln, z, p1, p2, q1, q2, e1, qzz, -evBin, -evMinL, -evSliceStr, -evLenStr]
theorem ev3L (args : List AV) (h : LawArgs Tryd.prog 8 Tryd.f3.params.toList args) : ∃ fuel, evP (envOf GR fsT) fuel mf3 1 args = some (.bool true) := by
  rw [Tryd.params3] at h
  obtain ⟨a, r, rfl, h0, h⟩ := h.cons
  obtain ⟨b, r, rfl, h1, h⟩ := h.cons
  obtain ⟨c, r, rfl, h2, h⟩ := h.cons
  obtain rfl := h.nil
  obtain ⟨n, rfl, hn⟩ := arg_i h0
  obtain ⟨d, rfl, hd⟩ := arg_i h1
  obtain ⟨s, rfl, _⟩ := TA.str Tryd.underlying9 h2
  exact ⟨0, ev3 hn hd s⟩
end Rat0
end Go.Proofs.YtfplfkcgjdkdaaaDoor
