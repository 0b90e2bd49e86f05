/-
  What the proof is built on (C19 to C23).
-/
import Derived.Test.YtfmlfekcdbfioaaM05
/-
  Cycle, plain: starts or a cycle; Smallest.
-/
namespace Go.Proofs.Ytfmlfekcdbfioaa
open Go

/-- a closed way whose length is greater than 0 -/
def Pos (l : List CArc) (p : Int) : Prop := ∃ (u : Int) (xs : List NArc), isNW l u xs u ∧ 0 < lenN p xs
theorem arcZ_num {l : List CArc} {x : NArc} (h : x ∈ num l) : arcZ l (x.2 : Int) = x.1 ∧ 0 ≤ (x.2 : Int) ∧ (x.2 : Int) ≤ (l.length : Int) - 1 := by
  obtain ⟨hi, he⟩ := num_mem h
  refine ⟨?_, by omega, by omega⟩
  unfold arcZ
  rw [Int.toNat_natCast, List.getD_eq_getElem?_getD, List.getElem?_eq_getElem hi]
  exact he
theorem exL_NW {p : Int} {l : List CArc} : ∀ {xs : List NArc} {u v s t : Int}, isNW l u xs v → exL p l (xs.map fun y => (y.2 : Int)) u s t = some (s + lenN p xs, t + tokN xs)
  | [], u, v, s, t, _ => by simp [exL, lenN, tokN]
  | x :: r, u, v, s, t, ⟨h1, h2, h3⟩ => by
    obtain ⟨e, _⟩ := arcZ_num h1
    simp only [List.map_cons, exL, e, if_pos h2]
    rw [exL_NW h3]
    simp only [lenN, tokN, List.map_cons, List.sum_cons]
    congr 2 <;> omega
theorem isNW_last {l : List CArc} : ∀ {xs : List NArc} {u v : Int} (h : xs ≠ []), isNW l u xs v → (xs.getLast h).1.t = v ∧ xs.getLast h ∈ num l
  | [x], u, v, _, ⟨h1, h2, h3⟩ => ⟨h3, h1⟩
  | x :: y :: r, u, v, _, ⟨h1, h2, h3⟩ => by
    rw [List.getLast_cons (by simp)]
    exact isNW_last (by simp) h3
theorem exM_cycle {p : Int} {l : List CArc} {u : Int} {xs : List NArc} (h : isNW l u xs u) (h1 : 1 ≤ xs.length) (h2 : xs.length ≤ 200) : exM p l (xs.map fun y => (y.2 : Int)) = some (lenN p xs, tokN xs) := by
  have hne : xs ≠ [] := fun e => by rw [e] at h1; simp at h1
  have hall : ∀ x ∈ xs, x ∈ num l := by
    have : ∀ {ys : List NArc} {a b : Int}, isNW l a ys b → ∀ x ∈ ys, x ∈ num l := by
      intro ys
      induction ys with
      | nil => intro _ _ _ x hx; cases hx
      | cons y r ih =>
        rintro a b ⟨k1, _, k3⟩ x hx
        rcases List.mem_cons.1 hx with rfl | hx
        · exact k1
        · exact ih k3 x hx
    exact this h
  unfold exM
  rw [if_pos ⟨by simpa using ⟨h1, h2⟩, fun x hx => by
    obtain ⟨y, hy, rfl⟩ := List.mem_map.1 hx
    exact (arcZ_num (hall y hy)).2⟩]
  obtain ⟨e1, e2⟩ := isNW_last hne h
  have : (xs.map fun y => (y.2 : Int)).getLastD 0 = ((xs.getLast hne).2 : Int) := by
    rw [List.getLastD_eq_getLast?, List.getLast?_map, List.getLast?_eq_some_getLast hne]; rfl
  rw [this, (arcZ_num e2).1, e1, exL_NW h]
  simp
theorem exL_some {p : Int} {l : List CArc} : ∀ {ys : List Int} {u s t : Int} {r : Int × Int}, inIdx l ys → exL p l ys u s t = some r → ∃ (v : Int) (xs : List NArc), ys = xs.map (fun y => (y.2 : Int)) ∧ isNW l u xs v ∧ r = (s + lenN p xs, t + tokN xs)
  | [], u, s, t, r, _, h => by
    simp only [exL, Option.some.injEq] at h
    exact ⟨u, [], rfl, rfl, by rw [← h]; simp [lenN, tokN]⟩
  | i :: ys, u, s, t, r, hi, h => by
    have hi0 := hi i (by simp)
    obtain ⟨j, hj, rfl, he⟩ := arcZ_at hi0
    simp only [exL] at h
    split at h
    · rename_i hf
      obtain ⟨v, xs, k1, k2, k3⟩ := exL_some (fun x hx => hi x (by simp [hx])) h
      rw [he] at hf k2 k3
      refine ⟨v, (l[j], j) :: xs, by simp [k1], ⟨List.mem_of_getElem? (num_get l j hj), hf, k2⟩, ?_⟩
      rw [k3]
      simp only [lenN, tokN, List.map_cons, List.sum_cons]
      congr 1 <;> omega
    · cases h
theorem exM_some {p : Int} {l : List CArc} {ys : List Int} {s t : Int} (h : exM p l ys = some (s, t)) : ∃ (u : Int) (xs : List NArc), ys = xs.map (fun y => (y.2 : Int)) ∧ isNW l u xs u ∧ 1 ≤ xs.length ∧ xs.length ≤ 200 ∧ s = lenN p xs ∧ t = tokN xs := by
  unfold exM at h
  simp only [Option.ite_none_right_eq_some] at h
  obtain ⟨⟨h1, h2⟩, h3⟩ := h
  obtain ⟨v, xs, rfl, k2, k3⟩ := exL_some h2 h3
  simp only [List.length_map] at h1
  have hne : xs ≠ [] := fun e => by rw [e] at h1; simp at h1
  obtain ⟨e1, e2⟩ := isNW_last hne k2
  have : (xs.map fun y => (y.2 : Int)).getLastD 0 = ((xs.getLast hne).2 : Int) := by
    rw [List.getLastD_eq_getLast?, List.getLast?_map, List.getLast?_eq_some_getLast hne]; rfl
  rw [this, (arcZ_num e2).1, e1] at k2
  simp only [Prod.mk.injEq, Int.zero_add] at k3
  exact ⟨v, xs, rfl, k2, h1.1, h1.2, k3.1, k3.2⟩
/-- what is refuted has no starts -/
theorem keeps_noP {n p : Int} {l : List CArc} (hv : ∀ x ∈ l, okA n x) {s : List Int} (h : Keeps (lar p l) s) : ¬ Pos l p := by
  rintro ⟨u, xs, h1, h2⟩
  obtain ⟨k1, k2⟩ := NW_W (p := p) hv h1
  have := keeps_way h k1
  omega
theorem lar_ends {n : Nat} {p : Int} {l : List CArc} (hv : ∀ x ∈ l, okA n x) : ∀ a ∈ lar p l, a.1 < n ∧ a.2.1 < n := fun a ha => by
  obtain ⟨x, hx, rfl⟩ := List.mem_map.1 ha
  obtain ⟨q1, q2, _⟩ := hv x hx
  simp only; omega
section
variable {n : Nat} {p : Int} {l : List CArc} (hr : Ready n l p)
include hr
theorem lev_iff : (levels (lar p l) n).2 = true ↔ ¬ Pos l p := by
  have hv := hr.1.2.2
  have hn := hr.1.1
  constructor
  · intro h
    exact keeps_noP hv ((levels_least (lar_ends hv)).2.2.2.1 h)
  · intro h
    rw [levels_ok (lar_ends hv), ← cyc_none hv (by omega) hr.2]
    cases hc : cycM p l n with
    | none => rfl
    | some res =>
      obtain ⟨u, xs, _, k2, _, _, k5⟩ := cyc_some hv (by omega) hr.2 hc
      exact absurd ⟨u, xs, k2, k5⟩ h
theorem cyc_of (h : ¬ (levels (lar p l) n).2 = true) : ∃ (res : List Int) (u : Int) (xs : List NArc), cycM p l n = some res ∧ res = xs.map (fun y => (y.2 : Int)) ∧ isNW l u xs u ∧ 1 ≤ xs.length ∧ xs.length ≤ 32 ∧ 0 < lenN p xs ∧ exM p l res = some (lenN p xs, tokN xs) := by
  have hv := hr.1.2.2
  have hn := hr.1.1
  rw [levels_ok (lar_ends hv), ← cyc_none hv (by omega) hr.2] at h
  cases hc : cycM p l n with
  | none => exact absurd hc h
  | some res =>
    obtain ⟨u, xs, k1, k2, k3, k4, k5⟩ := cyc_some hv (by omega) hr.2 hc
    exact ⟨res, u, xs, rfl, k1, k2, k3, by omega, k5, by rw [k1]; exact exM_cycle k2 k3 (by omega)⟩
end
theorem lenN_bd {n p : Int} {l : List CArc} (hn : n ≤ 32) (hp : isPer p) (hv : ∀ x ∈ l, okA n x) : ∀ {xs : List NArc} {u v : Int}, isNW l u xs v → (-(3000000 * (xs.length : Int)) ≤ lenN p xs ∧ lenN p xs ≤ 3000000 * xs.length) ∧ (-(2 * (xs.length : Int)) ≤ tokN xs ∧ tokN xs ≤ 2 * xs.length)
  | [], _, _, _ => by simp [lenN, tokN]
  | x :: r, u, v, ⟨h1, h2, h3⟩ => by
    have h4 := lenN_bd hn hp hv h3
    obtain ⟨q1, q2, q3, q4⟩ := num_ok hv h1
    have hle := len_in (n := 32) (a := x.1) ⟨by omega, by omega, q3, q4⟩ hp
    simp only [lenN, tokN, List.map_cons, List.sum_cons, List.length_cons] at h4 ⊢
    omega

/-! ### Smallest -/
noncomputable def smL (n : Nat) (l : List CArc) (hi : Int) : Nat → Int → Option Int
  | 0, _ => none
  | m + 1, p => open Classical in if p ≤ hi ∧ Ready n l p then
      (if (levels (lar p l) n).2 = true then some p
       else if ((exM p l ((cycM p l n).getD [])).getD (0, 0)).2 ≤ 0 then none
       else smL n l hi m (p + (((exM p l ((cycM p l n).getD [])).getD (0, 0)).1 + ((exM p l ((cycM p l n).getD [])).getD (0, 0)).2 - 1).tdiv ((exM p l ((cycM p l n).getD [])).getD (0, 0)).2))
    else none
noncomputable def smM (n : Int) (l : List CArc) (lo hi : Int) : Option Int := if isPer hi then smL n.toNat l hi (hi - lo + 2).toNat lo else none
theorem step_div {s t : Int} (hs : 0 < s) (ht : 0 < t) : 1 ≤ (s + t - 1).tdiv t ∧ (s + t - 1).tdiv t ≤ s ∧ ((s + t - 1).tdiv t - 1) * t < s ∧ s ≤ (s + t - 1).tdiv t * t := by
  rw [Int.tdiv_eq_ediv_of_nonneg (by omega)]
  have h1 := Int.ediv_mul_add_emod (s + t - 1) t
  have h2 := Int.emod_nonneg (s + t - 1) (show t ≠ 0 by omega)
  have h3 := Int.emod_lt_of_pos (s + t - 1) ht
  obtain ⟨d, hd⟩ : ∃ d, d = (s + t - 1) / t := ⟨_, rfl⟩
  rw [← hd] at h1 ⊢
  have h4 : 1 ≤ d := by
    rcases Int.lt_or_le d 1 with h | h
    · have : d * t ≤ 0 := Int.mul_nonpos_of_nonpos_of_nonneg (by omega) (by omega)
      omega
    · exact h
  have h5 : (d - 1) * t = d * t - t := by rw [Int.sub_mul]; omega
  refine ⟨h4, ?_, by omega, by omega⟩
  rcases Int.lt_or_le s d with h | h
  · have : s * t ≤ (d - 1) * t := Int.mul_le_mul_of_nonneg_right (by omega) (by omega)
    have h6 : s * 1 ≤ s * t := Int.mul_le_mul_of_nonneg_left (by omega) (by omega)
    omega
  · exact h
/-- a cycle that refutes a period refutes others too -/
theorem pos_other {l : List CArc} {p q : Int} {u : Int} {xs : List NArc} (h : isNW l u xs u) (hq : 0 < lenN p xs - (q - p) * tokN xs) : Pos l q := by
  refine ⟨u, xs, h, ?_⟩
  rw [lenN_eq] at hq ⊢
  have : (q - p) * tokN xs = q * tokN xs - p * tokN xs := by rw [Int.sub_mul]
  omega
theorem smL_spec {n : Nat} {l : List CArc} {hi : Int} (hhi : isPer hi) : ∀ (m : Nat) (p : Int), hi - p + 1 < m →
    (∀ r, smL n l hi m p = some r → p ≤ r ∧ r ≤ hi ∧ Ready n l r ∧ ¬ Pos l r ∧ ∀ q, p ≤ q → q < r → Pos l q) ∧ (smL n l hi m p = none → Ready n l p → ∀ q, p ≤ q → q ≤ hi → Pos l q)
  | 0, p, hm => ⟨fun r h => (by cases h), fun _ _ q h1 h2 => by omega⟩
  | m + 1, p, hm => by
    unfold smL
    by_cases hp : p ≤ hi ∧ Ready n l p
    rotate_left
    · rw [if_neg hp]
      exact ⟨fun r h => (by cases h), fun _ h q h1 h2 => absurd ⟨by omega, h⟩ hp⟩
    rw [if_pos hp]
    by_cases hl : (levels (lar p l) n).2 = true
    · rw [if_pos hl]
      refine ⟨fun r h => ?_, fun h => by cases h⟩
      injection h with h; subst h
      exact ⟨Int.le_refl _, hp.1, hp.2, (lev_iff hp.2).1 hl, fun q h1 h2 => by omega⟩
    rw [if_neg hl]
    obtain ⟨res, u, xs, k1, k2, k3, k4, k5, k6, k7⟩ := cyc_of hp.2 hl
    rw [k1, Option.getD_some, k7, Option.getD_some]
    simp only
    by_cases ht : tokN xs ≤ 0
    · rw [if_pos ht]
      refine ⟨fun r h => (by cases h), fun _ _ q h1 h2 => pos_other k3 (p := p) ?_⟩
      have : (q - p) * tokN xs ≤ 0 := Int.mul_nonpos_of_nonneg_of_nonpos (by omega) ht
      omega
    rw [if_neg ht]
    obtain ⟨d1, d2, d3, d4⟩ := step_div k6 (show 0 < tokN xs by omega)
    obtain ⟨d, hd⟩ : ∃ d, d = (lenN p xs + tokN xs - 1).tdiv (tokN xs) := ⟨_, rfl⟩
    rw [← hd] at d1 d2 d3 d4 ⊢
    have hbelow : ∀ q, p ≤ q → q < p + d → Pos l q := fun q h1 h2 => pos_other k3 (p := p) (by
      have : (q - p) * tokN xs ≤ (d - 1) * tokN xs := Int.mul_le_mul_of_nonneg_right (by omega) (by omega)
      omega)
    obtain ⟨i1, i2⟩ := smL_spec hhi m (p + d) (by omega)
    constructor
    · intro r h
      obtain ⟨j1, j2, j3, j4, j5⟩ := i1 r h
      refine ⟨by omega, j2, j3, j4, fun q h1 h2 => ?_⟩
      by_cases hq : q < p + d
      · exact hbelow q h1 hq
      · exact j5 q (by omega) h2
    · intro h _ q h1 h2
      by_cases hq : q < p + d
      · exact hbelow q h1 hq
      · have hR : Ready n l (p + d) := ⟨hp.2.1, by
          have := hp.2.2
          unfold isPer at *
          omega⟩
        exact i2 h hR q (by omega) h2
end Go.Proofs.Ytfmlfekcdbfioaa
/-
  Cycle: Refutes; Smallest.
-/
namespace Go.Proofs.Ytfmlfekcdbfioaa
open Go

/-- a cycle refutes a period -/
def RefOk (n : Int) (l : List CArc) (p : Int) (c : List Int) : Prop := Ready n l p ∧ ∃ s t, exM p l c = some (s, t) ∧ 0 < s
open Classical in
noncomputable def M21 : PModel := fun args => match args with
  | [.int .i64 n, a, .int .i64 p, b] => match arcsOf a, intsOf b with
    | some l, some s => some (.bool (decide (RefOk n l p s)))
    | _, _ => none
  | _ => none
noncomputable def fs21 : List (FuncId × HModel) := [(25, pureFH 4 M25), (40, pureH 4 M40)]
@[simp] theorem fs21_25 : lookM fs21 25 = some (pureFH 4 M25) := rfl
@[simp] theorem fs21_40 : lookM fs21 40 = some (pureH 4 M40) := rfl
theorem sound21 : ∀ f M, lookM fs21 f = some M → FnSpecY Try.prog GC f M := lookM_cons (FnSpecY.of_pureF spec25F 4) (lookM_cons (FnSpecY.of_pure spec40 4) lookM_nil)
open Classical in
set_option maxRecDepth 100000 in
theorem spec21 : PureSpec Try.prog GC 21 M21 := by
  refine PureSpec.of_ev (E := envOf GC fs21) (envOf_sound sound21) rfl at21 comp21 1 ?_
  intro args r h
  unfold M21 at h
  split at h
  rotate_left
  · cases h
  rename_i n a p b
  split at h
  rotate_left
  · cases h
  rename_i l s hl hs
  injection h with h; subst h
  refine ⟨0, ?_⟩
  obtain ⟨hb, _, hsl⟩ := intsOf_some hs
  have f1 : ∀ A n, frz A n a = a := fun A n => arcsOf_frz hl A n
  have f2 : ∀ A n, frz A n b = b := fun A n => hb.frz n
  have f4 := intsOf_noRef hs
  have m1 : M25 [.int .i64 n, a, .int .i64 p] = some (if Ready n l p then .tup [webT n.toNat p l, .bool true] else .tup [.nilP, .bool false]) := by simp only [M25, hl, Option.map_some]
  rw [evP_run _ _ rfl]
  by_cases hr : Ready n l p
  rotate_left
  · rw [if_neg hr] at m1
    rw [decide_eq_false (show ¬ RefOk n l p s from fun h => hr h.1)]
    simp [mf21, f1, m1, frz_i, frz_b, -frz]
  rw [if_pos hr] at m1
  obtain ⟨m, rfl⟩ : ∃ m : Nat, n = (m : Int) := ⟨n.toNat, by have := hr.1.1; omega⟩
  rw [Int.toNat_natCast] at m1
  have m40 := M40_eq hr hb hsl
  obtain ⟨W1, O, hW⟩ : ∃ W1 O, webT m p l = .fp [.int .i64 (m : Int), W1, O] := ⟨_, _, rfl⟩
  rw [hW] at m1 m40
  have hfw : ∀ B, frz B 4 (.fp [.int .i64 (m : Int), W1, O]) = .fp [.int .i64 (m : Int), W1, O] := fun _ => rfl
  have hnr : noRefB 4 (.fp [.int .i64 (m : Int), W1, O]) = true := rfl
  cases he : exM p l s with
  | none =>
    rw [he] at m40
    rw [decide_eq_false (show ¬ RefOk m l p s from fun h => by
      obtain ⟨_, x, y, h, _⟩ := h
      rw [he] at h; cases h)]
    simp only [exT, Option.getD_none, Option.isSome_none] at m40
    simp [mf21, f1, f2, m1, m40, hfw, f4, frz_i, frz_b, -frz]
  | some st =>
    obtain ⟨x, y⟩ := st
    rw [he] at m40
    simp only [exT, Option.getD_some, Option.isSome_some] at m40
    have b1 : evBin .gtr (.int .i64 x) (.int .i64 0) = some (.bool (decide (x > 0))) := by simp [evBin]
    have e : decide (RefOk m l p s) = decide (x > 0) := by
      rw [Bool.eq_iff_iff, decide_eq_true_eq, decide_eq_true_eq]
      constructor
      · rintro ⟨_, a', b', h, h2⟩
        rw [he] at h
        injection h with h
        injection h with h h'
        omega
      · intro h
        exact ⟨hr, x, y, he, h⟩
    rw [e]
    obtain ⟨d, hd⟩ : ∃ d, d = decide (x > 0) := ⟨_, rfl⟩
    rw [← hd] at b1 ⊢
    simp [mf21, f1, f2, m1, m40, hfw, f4, b1, frz_i, frz_b, -frz, -evBin]

/-! ### Smallest -/
noncomputable def fs23 : List (FuncId × HModel) := [(25, pureFH 4 M25), (26, pureFH 4 M26), (27, pureH 4 M27), (40, pureH 4 M40), (41, pureH 4 M41)]
@[simp] theorem fs23_25 : lookM fs23 25 = some (pureFH 4 M25) := rfl
@[simp] theorem fs23_26 : lookM fs23 26 = some (pureFH 4 M26) := rfl
@[simp] theorem fs23_27 : lookM fs23 27 = some (pureH 4 M27) := rfl
@[simp] theorem fs23_40 : lookM fs23 40 = some (pureH 4 M40) := rfl
@[simp] theorem fs23_41 : lookM fs23 41 = some (pureH 4 M41) := rfl
theorem sound23 : ∀ f M, lookM fs23 f = some M → FnSpecY Try.prog GC f M := lookM_cons (FnSpecY.of_pureF spec25F 4) (lookM_cons (FnSpecY.of_pureF spec26F 4) (lookM_cons (FnSpecY.of_pure spec27 4) (lookM_cons (FnSpecY.of_pure spec40 4) (lookM_cons (FnSpecY.of_pure spec41 4) lookM_nil))))
def smT (r : Option Int) : AV := .tup [.int .i64 (r.getD 0), .bool r.isSome]
open Classical in
set_option maxRecDepth 100000 in
theorem loop23 (fuel : Nat) {a : AV} {l : List CArc} (ha : arcsOf a = some l) (n : Int) {hi : Int} (hhi : isPer hi) : ∀ (m : Nat) (p : Int), 0 < m → hi - p + 1 < m →
    match smL n.toNat l hi m p with
    | some q => ∃ v7 v8 v9 v10 v11 v12 v13 v14 v15 v16, iter (evC (envOf GC fs23) fuel lp23x0) mask23x0 m (st23x0 (.int .i64 n) a (.int .i64 hi) (.int .i64 p)) [] = some (.ret [.int .i64 n, a, .undef, .int .i64 hi, .int .i64 q, .bool true, .int .i64 q, v7, v8, v9, v10, v11, v12, v13, v14, v15, v16] [])
    | none => ∃ v6 v7 v8 v9 v10 v11 v12 v13 v14 v15 v16, iter (evC (envOf GC fs23) fuel lp23x0) mask23x0 m (st23x0 (.int .i64 n) a (.int .i64 hi) (.int .i64 p)) [] = some (.exit 0 [.int .i64 n, a, .undef, .int .i64 hi, .undef, .undef, v6, v7, v8, v9, v10, v11, v12, v13, v14, v15, v16] [])
  | 0, p, h0, hm => by omega
  | m + 1, p, h0, hm => by
    have f1 : ∀ A n, frz A n a = a := fun A n => arcsOf_frz ha A n
    have m1 : M25 [.int .i64 n, a, .int .i64 p] = some (if Ready n l p then .tup [webT n.toNat p l, .bool true] else .tup [.nilP, .bool false]) := by simp only [M25, ha, Option.map_some]
    have b1 : evBin .leq (.int .i64 p) (.int .i64 hi) = some (.bool (decide (p ≤ hi))) := by simp [evBin]
    unfold smL
    rw [iter_succ, cl23x0]
    by_cases hp : p ≤ hi
    rotate_left
    · rw [if_neg (fun h => hp h.1)]
      rw [decide_eq_false hp] at b1
      refine ⟨.int .i64 p, .undef, .undef, .undef, .undef, .undef, .undef, .bool false, .undef, .undef, .undef, ?_⟩
      simp [lp23x0, b1, -evBin]
    rw [decide_eq_true hp] at b1
    by_cases hr : Ready n l p
    rotate_left
    · rw [if_neg (fun h => hr (by
        have h2 := h.2
        have h3 := h2.1.1
        have : ((n.toNat : Nat) : Int) = n := by omega
        rw [this] at h2; exact h2))]
      rw [if_neg hr] at m1
      refine ⟨.int .i64 p, .nilP, .bool false, .undef, .undef, .undef, .undef, .bool true, .bool true, .undef, .undef, ?_⟩
      simp [lp23x0, b1, m1, f1, frz_i, -frz, -evBin]
    rw [if_pos hr] at m1
    obtain ⟨k, rfl⟩ : ∃ k : Nat, n = (k : Int) := ⟨n.toNat, by have := hr.1.1; omega⟩
    rw [Int.toNat_natCast] at m1 ⊢
    rw [if_pos ⟨hp, hr⟩]
    have m2 := M26_eq hr
    have m3 := M27_eq hr
    obtain ⟨W1, O, hW⟩ : ∃ W1 O, webT k p l = .fp [.int .i64 (k : Int), W1, O] := ⟨_, _, rfl⟩
    have hfw : ∀ B, frz B 4 (.fp [.int .i64 (k : Int), W1, O]) = .fp [.int .i64 (k : Int), W1, O] := fun _ => rfl
    have hnr : noRefB 4 (.fp [.int .i64 (k : Int), W1, O]) = true := rfl
    by_cases hok : (levels (lar p l) k).2 = true
    · rw [if_pos hok]
      rw [hok] at m2
      rw [hW] at m1 m2
      refine ⟨.fp [.int .i64 (k : Int), W1, O], .bool true, .bool true, .undef, .undef, .undef, .bool true, .bool false, .bool true, .undef, ?_⟩
      obtain ⟨S, hS⟩ : ∃ S, S = slA 1 (intsA (levels (lar p l) k).1) := ⟨_, rfl⟩
      rw [← hS] at m2
      simp [lp23x0, b1, m1, m2, f1, hfw, frz_i, -frz, -evBin]
    rw [if_neg hok]
    obtain ⟨res, u, xs, k1, k2, k3, k4, k5, k6, k7⟩ := cyc_of hr hok
    have hbd := lenN_bd (n := (k : Int)) (by have := hr.1.1; omega) hr.2 hr.1.2.2 k3
    have m4 := M40_eq hr (slA_holds 1 (intsA res)) (by rw [k2]; simp; omega)
    rw [k1, Option.getD_some] at m3
    rw [k7] at m4
    rw [k1, Option.getD_some, k7, Option.getD_some]
    simp only [exT, Option.getD_some, Option.isSome_some] at m4
    simp only
    rw [Bool.not_eq_true] at hok
    rw [hok] at m2
    rw [hW] at m1 m2 m3 m4
    obtain ⟨S, hS⟩ : ∃ S, S = slA 1 (intsA (levels (lar p l) k).1) := ⟨_, rfl⟩
    rw [← hS] at m2
    have hnc : ∀ n, noRefB n (slA 1 (intsA res)) = true := fun n => noRef_slA n 1 _
    have hfc : ∀ A n, frz A n (slA 1 (intsA res)) = slA 1 (intsA res) := fun A n => frz_slA A n 1 _
    obtain ⟨C, hC⟩ : ∃ C, C = slA 1 (intsA res) := ⟨_, rfl⟩
    rw [← hC] at m3 m4 hnc hfc
    obtain ⟨s, hs⟩ : ∃ s, s = lenN p xs := ⟨_, rfl⟩
    obtain ⟨t, ht⟩ : ∃ t, t = tokN xs := ⟨_, rfl⟩
    rw [← hs, ← ht] at m4 hbd ⊢
    rw [← hs] at k6
    have b2 : evBin .leq (.int .i64 t) (.int .i64 0) = some (.bool (decide (t ≤ 0))) := by simp [evBin]
    by_cases ht0 : t ≤ 0
    · rw [if_pos ht0]
      rw [decide_eq_true ht0] at b2
      refine ⟨.int .i64 p, .fp [.int .i64 (k : Int), W1, O], .bool true, .bool false, .int .i64 s, .int .i64 t, .undef, .bool true, .bool false, .bool false, .bool true, ?_⟩
      simp [lp23x0, b1, b2, m1, m2, m3, m4, f1, hfw, hnc, hfc, frz_i, -frz, -evBin]
    rw [if_neg ht0]
    rw [decide_eq_false ht0] at b2
    obtain ⟨d1, d2, d3, d4⟩ := step_div k6 (show 0 < t by omega)
    have hper := hr.2
    unfold isPer at hper hhi
    have b3 : evBin .add (.int .i64 s) (.int .i64 t) = some (.int .i64 (s + t)) := by
      simp only [evBin]; rw [if_pos trivial, wrapI (by unfold inI; omega)]
    have b4 : evBin .sub (.int .i64 (s + t)) (.int .i64 1) = some (.int .i64 (s + t - 1)) := by
      simp only [evBin]; rw [if_pos trivial, wrapI (by unfold inI; omega)]
    have b5 : evBin .quo (.int .i64 (s + t - 1)) (.int .i64 t) = some (.int .i64 ((s + t - 1).tdiv t)) := by
      simp only [evBin]; rw [if_pos trivial, if_neg (show ¬ t = 0 by omega), wrapI (by unfold inI; omega)]
    obtain ⟨d, hd⟩ : ∃ d, d = (s + t - 1).tdiv t := ⟨_, rfl⟩
    rw [← hd] at b5 d1 d2 ⊢
    have b6 : evBin .add (.int .i64 p) (.int .i64 d) = some (.int .i64 (p + d)) := by
      simp only [evBin]; rw [if_pos trivial, wrapI (by unfold inI; omega)]
    have ih := loop23 fuel ha (k : Int) hhi m (p + d) (by omega) (by omega)
    rw [Int.toNat_natCast] at ih
    obtain ⟨p2, hp2⟩ : ∃ p2, p2 = p + d := ⟨_, rfl⟩
    rw [← hp2] at b6 ih ⊢
    obtain ⟨st, hst⟩ : ∃ st, st = s + t := ⟨_, rfl⟩
    rw [← hst] at b3 b4 b5
    obtain ⟨st1, hst1⟩ : ∃ st1, st1 = st - 1 := ⟨_, rfl⟩
    rw [← hst1] at b4 b5
    have hrun : run (envOf GC fs23) fuel [.code lp23x0] (st23x0 (.int .i64 (k : Int)) a (.int .i64 hi) (.int .i64 p)) [] = some (.normal (st23x0 (.int .i64 (k : Int)) a (.int .i64 hi) (.int .i64 p2)) []) := by
      simp [lp23x0, b1, b2, b3, b4, b5, b6, m1, m2, m3, m4, f1, hfw, hnc, hfc, frz_i, -frz, -evBin]
    rw [hrun]
    exact ih
noncomputable def M23 : PModel := fun args => match args with
  | [.int .i64 n, a, .int .i64 lo, .int .i64 hi] => (arcsOf a).map fun l => smT (smM n l lo hi)
  | _ => none
set_option maxRecDepth 100000 in
theorem spec23 : PureSpec Try.prog GC 23 M23 := by
  refine PureSpec.of_ev (E := envOf GC fs23) (envOf_sound sound23) rfl at23 comp23 5 ?_
  intro args r h
  unfold M23 at h
  split at h
  rotate_left
  · cases h
  rename_i n a lo hi
  simp only [Option.map_eq_some_iff] at h
  obtain ⟨l, hl, rfl⟩ := h
  obtain ⟨m, hm⟩ : ∃ m, m = (hi - lo + 2).toNat + 1 := ⟨_, rfl⟩
  have m1 : M41 [.int .i64 hi] = some (.bool (decide (isPer hi))) := rfl
  by_cases hp : isPer hi
  rotate_left
  · refine ⟨0, ?_⟩
    rw [decide_eq_false hp] at m1
    rw [show smM n l lo hi = none from if_neg hp]
    rw [evP_run _ _ rfl]
    simp [mf23, m1, smT]
  rw [decide_eq_true hp] at m1
  rw [show smM n l lo hi = smL n.toNat l hi (hi - lo + 2).toNat lo from if_pos hp]
  by_cases hz : (hi - lo + 2).toNat = 0
  · -- nothing is in between
    refine ⟨1, ?_⟩
    rw [hz]
    have b1 : evBin .leq (.int .i64 lo) (.int .i64 hi) = some (.bool false) := by simp [evBin]; omega
    have lp : iter (evC (envOf GC fs23) 1 lp23x0) mask23x0 1 (st23x0 (.int .i64 n) a (.int .i64 hi) (.int .i64 lo)) [] = some (.exit 0 [.int .i64 n, a, .undef, .int .i64 hi, .undef, .undef, .int .i64 lo, .undef, .undef, .undef, .undef, .undef, .undef, .bool false, .undef, .undef, .undef] []) := by
      rw [iter_succ, cl23x0]
      simp [lp23x0, b1, -evBin]
    rw [evP_run _ _ rfl]
    simp [mf23, m1, go23x0 lp, smL, smT]
  · obtain ⟨F, hF⟩ : ∃ F, F = (hi - lo + 2).toNat := ⟨_, rfl⟩
    have hl23 := loop23 F hl n hp F lo (by omega) (by omega)
    refine ⟨F, ?_⟩
    rw [← hF]
    rw [evP_run _ _ rfl]
    cases hs : smL n.toNat l hi F lo with
    | none =>
      rw [hs] at hl23
      obtain ⟨v6, v7, v8, v9, v10, v11, v12, v13, v14, v15, v16, lp⟩ := hl23
      simp [mf23, m1, go23x0 lp, smT]
    | some q =>
      rw [hs] at hl23
      obtain ⟨v7, v8, v9, v10, v11, v12, v13, v14, v15, v16, lp⟩ := hl23
      simp [mf23, m1, go23x0 lp, smT]
end Go.Proofs.Ytfmlfekcdbfioaa
/-
  Cycle: arcs that integers determine.
-/
namespace Go.Proofs.Ytfmlfekcdbfioaa
open Go

abbrev R4 := Int × Int × Int × Int
def r4A (x : R4) : AV := .agg [.int .i64 x.1, .int .i64 x.2.1, .int .i64 x.2.2.1, .int .i64 x.2.2.2]
def R4.inR (x : R4) : Prop := inI x.1 ∧ inI x.2.1 ∧ inI x.2.2.1 ∧ inI x.2.2.2
open Classical in
noncomputable def r4Of : AV → Option R4
  | .agg [.int .i64 f, .int .i64 t, .int .i64 w, .int .i64 k] => if R4.inR (f, t, w, k) then some (f, t, w, k) else none
  | _ => none
theorem r4Of_some {x : AV} {a : R4} (h : r4Of x = some a) : x = r4A a ∧ R4.inR a := by
  unfold r4Of at h
  split at h
  · simp only [Option.ite_none_right_eq_some, Option.some.injEq] at h
    obtain ⟨h1, rfl⟩ := h
    exact ⟨rfl, h1⟩
  · cases h
noncomputable def r4sOf (a : AV) : Option (List R4) := listN 4 r4Of a
theorem r4sOf_some {a : AV} {l : List R4} (h : r4sOf a = some l) : SlA 4 (l.map r4A) a ∧ l.length ≤ 9223372036854775807 ∧ ∀ x ∈ l, R4.inR x := by
  unfold r4sOf listN at h
  split at h
  · injection h with h; subst h
    exact ⟨.inl ⟨rfl, rfl⟩, by simp, by simp⟩
  · rename_i s' es
    simp only [Option.ite_none_right_eq_some] at h
    obtain ⟨⟨rfl, hl⟩, h⟩ := h
    obtain ⟨h1, h2⟩ := allOf_some h
    have e : es = l.map r4A := List.ext_getElem (by simpa using h1) fun i k1 k2 => by
      rw [(r4Of_some (h2 i k1 (by omega))).1]; simp
    subst e
    refine ⟨.inr rfl, by simpa using hl, fun x hx => ?_⟩
    obtain ⟨i, hi, rfl⟩ := List.mem_iff_getElem.1 hx
    have := h2 i (by simpa using hi) hi
    exact (r4Of_some this).2
  · cases h
/-- the arc that four integers determine -/
def arcD (n : Int) (plain : Bool) (x : R4) : CArc := ⟨pick x.1 n, pick x.2.1 n, if plain then pick x.2.2.1 41 else pick x.2.2.1 61 - 20, if plain then pick x.2.2.2 2 else pick x.2.2.2 4 - 1⟩
def arcsD (l : List R4) (n : Int) (plain : Bool) : List CArc := (l.take 20).map (arcD n plain)
theorem arcD_ok {n : Int} (hn : 1 ≤ n) (plain : Bool) (x : R4) : okA n (arcD n plain x) := by
  have h1 := pick_range x.1 n (by omega)
  have h2 := pick_range x.2.1 n (by omega)
  have h3 := pick_range x.2.2.1 41 (by omega)
  have h4 := pick_range x.2.2.1 61 (by omega)
  have h5 := pick_range x.2.2.2 2 (by omega)
  have h6 := pick_range x.2.2.2 4 (by omega)
  unfold okA arcD
  simp only
  cases plain <;> simp only [if_true, Bool.false_eq_true, if_false] <;> omega
theorem arcsD_valid {n : Int} (hn : 1 ≤ n ∧ n ≤ 32) (l : List R4) (plain : Bool) : ValidA n (arcsD l n plain) := by
  refine ⟨hn, ?_, fun a ha => ?_⟩
  · simp [arcsD]; omega
  · obtain ⟨x, _, rfl⟩ := List.mem_map.1 ha
    exact arcD_ok hn.1 plain x
theorem okA_in {n : Int} (hn : n ≤ 32) {a : CArc} (h : okA n a) : a.inR := by
  obtain ⟨h1, h2, h3, h4⟩ := h
  exact ⟨by unfold inI; omega, by unfold inI; omega, by unfold inI; omega, by unfold inI; omega⟩

/-! ### slots, of whatever size -/
def SlotG (sz : Nat) (A : Arena) (s : AV) (xs : List AV) : Prop := (s = .nilS ∧ xs = []) ∨ ∃ id gr, s = .sl id 0 xs.length ∧ xs ≠ [] ∧ A[id]? = some (.row sz gr xs)
section
variable {sz : Nat} {A B : Arena} {s : AV} {xs : List AV}
theorem SlotG.keep (h : SlotG sz A s xs) (hAB : ∀ id, id ∈ idsOf s → B[id]? = A[id]?) : SlotG sz B s xs := by
  rcases h with h | ⟨id, gr, rfl, h1, h3⟩
  · exact .inl h
  · exact .inr ⟨id, gr, rfl, h1, by rw [hAB id (by simp [idsOf]), h3]⟩
theorem SlotG.low (h : SlotG sz A s xs) : ∀ id, id ∈ idsOf s → id < A.length := by
  rcases h with ⟨rfl, _⟩ | ⟨id, gr, rfl, h1, h3⟩
  · intro id h; simp [idsOf] at h
  · intro j hj
    simp only [idsOf, List.mem_singleton] at hj
    subst hj
    exact (List.getElem?_eq_some_iff.1 h3).1
theorem SlotG.form2 (h : SlotG sz A s xs) : s = .nilS ∨ ∃ i k, s = .sl i 0 k := by
  rcases h with ⟨rfl, _⟩ | ⟨id, gr, rfl, _⟩
  · exact .inl rfl
  · exact .inr ⟨_, _, rfl⟩
theorem SlotG.append {bytes : Nat} (h : SlotG sz A s xs) (x : AV) (hz : 0 < sz) (hb : 0 < bytes ∧ bytes ≤ 1000) (hl : xs.length ≤ 1000) :
    ∃ s' k A', evAppend sz bytes A s (.fs sz [x]) = some (.sl s' 0 k, A') ∧ SlotG sz A' (.sl s' 0 k) (xs ++ [x]) ∧ A.length ≤ A'.length ∧ (∀ j, j < A.length → j ∉ idsOf s → A'[j]? = A[j]?) ∧ (s' ∈ idsOf s ∨ s' = A.length) := by
  rcases h with ⟨rfl, rfl⟩ | ⟨id, gr, rfl, h1, h3⟩
  · refine ⟨A.length, 1, A ++ [.row sz false [x]], ?_, .inr ⟨A.length, false, rfl, by simp, by simp⟩, by simp, fun j hj _ => by rw [List.getElem?_append_left hj], .inr rfl⟩
    simp [evAppend, srcElems, hz, hb.1]; omega
  · have hid := (List.getElem?_eq_some_iff.1 h3).1
    have hm : (xs.length + 1) * bytes ≤ 1001 * 1000 := Nat.mul_le_mul (by omega) hb.2
    refine ⟨id, (xs ++ [x]).length, A.set id (.row sz true (xs ++ [x])), ?_, .inr ⟨id, true, rfl, by simp, by simp [hid]⟩, by simp, fun j hj hn => ?_, .inl (by simp [idsOf])⟩
    · simp only [evAppend, srcElems, h3]
      simp [h1, hz, hb.1]
      omega
    · rw [List.getElem?_set_ne (fun e => hn (by simp [idsOf, e]))]
theorem SlotG.frz (h : SlotG sz A s xs) (n : Nat) (hx : ∀ x ∈ xs, Proofs.Ytfmlfekcdbfioaa.frz A n x = x) : Proofs.Ytfmlfekcdbfioaa.frz A (n + 1) s = slA sz xs := by
  have e : xs.map (Proofs.Ytfmlfekcdbfioaa.frz A n) = xs := by
    conv => rhs; rw [← List.map_id xs]
    exact List.map_congr_left hx
  rcases h with ⟨rfl, rfl⟩ | ⟨id, gr, rfl, h1, h3⟩
  · rfl
  · simp only [Proofs.Ytfmlfekcdbfioaa.frz, h3, List.drop_zero]
    rw [List.take_of_length_le (Nat.le_refl _), e]
    cases xs with
    | nil => exact absurd rfl h1
    | cons y r => rfl
theorem SlotG.fresh (h : SlotG sz A s xs) (n : Nat) (hx : ∀ x ∈ xs, freshB A n x = true) : freshB A (n + 1) s = true := by
  rcases h with ⟨rfl, rfl⟩ | ⟨id, gr, rfl, h1, h3⟩
  · rfl
  · simp only [freshB, h3, List.drop_zero]
    rw [List.take_of_length_le (Nat.le_refl _), List.all_eq_true]
    exact hx
end

/-! ### arcs -/
noncomputable def fs13 : List (FuncId × HModel) := [(12, pureH 4 M12)]
@[simp] theorem fs13_12 : lookM fs13 12 = some (pureH 4 M12) := rfl
theorem sound13 : ∀ f M, lookM fs13 f = some M → FnSpecY Try.prog GC f M := lookM_cons (FnSpecY.of_pure spec12 4) lookM_nil
def R13a : MC := .regionD [12] [⟨none, .mv (.var 0), none⟩, ⟨none, .mv (.var 5), none⟩, ⟨none, .indexSl 4 (.tmp 0) (.tmp 1), none⟩, ⟨none, .indexArr 4 1 (.tmp 2) (.cst (.int .i64 0)), none⟩, ⟨none, .load false 1 (.tmp 3), none⟩, ⟨none, .mv (.var 1), none⟩, ⟨none, .call (.fn 12) [.tmp 4, .tmp 5], none⟩, ⟨none, .mv (.var 0), none⟩, ⟨none, .mv (.var 5), none⟩, ⟨none, .indexSl 4 (.tmp 7) (.tmp 8), none⟩, ⟨none, .indexArr 4 1 (.tmp 9) (.cst (.int .i64 1)), none⟩, ⟨none, .load false 1 (.tmp 10), none⟩, ⟨none, .mv (.var 1), none⟩, ⟨none, .call (.fn 12) [.tmp 11, .tmp 12], none⟩, ⟨none, .mv (.var 0), none⟩, ⟨none, .mv (.var 5), none⟩, ⟨none, .indexSl 4 (.tmp 14) (.tmp 15), none⟩, ⟨none, .indexArr 4 1 (.tmp 16) (.cst (.int .i64 2)), none⟩, ⟨none, .load false 1 (.tmp 17), none⟩, ⟨none, .call (.fn 12) [.tmp 18, .cst (.int .i64 61)], none⟩, ⟨none, .bin .sub (.tmp 19) (.cst (.int .i64 20)), none⟩, ⟨none, .mv (.var 0), none⟩, ⟨none, .mv (.var 5), none⟩, ⟨none, .indexSl 4 (.tmp 21) (.tmp 22), none⟩, ⟨none, .indexArr 4 1 (.tmp 23) (.cst (.int .i64 3)), none⟩, ⟨none, .load false 1 (.tmp 24), none⟩, ⟨none, .call (.fn 12) [.tmp 25, .cst (.int .i64 4)], none⟩, ⟨none, .bin .sub (.tmp 26) (.cst (.int .i64 1)), none⟩, ⟨none, .build [.int .i64 0, .int .i64 0, .int .i64 0, .int .i64 0] [(0, (1, .tmp 6)), (1, (1, .tmp 13)), (2, (1, .tmp 20)), (3, (1, .tmp 27))], none⟩, ⟨some 6, .alloc 4 (.agg [.int .i64 0, .int .i64 0, .int .i64 0, .int .i64 0]), none⟩, ⟨none, .store 4 (.var 6) (.tmp 28), none⟩] [(2, 29), (3, 29), (4, 29), (6, 29), (9, 29), (10, 29), (11, 29), (13, 29), (16, 29), (17, 29), (18, 29), (19, 29), (23, 29), (24, 29), (25, 29), (26, 29)]
def R13b : MC := .region [⟨some 8, .mv (.var 2), none⟩]
def R13c : MC := .region [⟨none, .mv (.var 0), none⟩, ⟨none, .mv (.var 5), none⟩, ⟨none, .indexSl 4 (.tmp 0) (.tmp 1), none⟩, ⟨none, .indexArr 4 1 (.tmp 2) (.cst (.int .i64 2)), none⟩, ⟨none, .load false 1 (.tmp 3), none⟩, ⟨none, .call (.fn 12) [.tmp 4, .cst (.int .i64 41)], none⟩, ⟨none, .fieldAddr 2 (.var 6), none⟩, ⟨none, .store 1 (.tmp 6) (.tmp 5), none⟩]
def R13d : MC := .region [⟨none, .mv (.var 0), none⟩, ⟨none, .mv (.var 5), none⟩, ⟨none, .indexSl 4 (.tmp 0) (.tmp 1), none⟩, ⟨none, .indexArr 4 1 (.tmp 2) (.cst (.int .i64 3)), none⟩, ⟨none, .load false 1 (.tmp 3), none⟩, ⟨none, .call (.fn 12) [.tmp 4, .cst (.int .i64 2)], none⟩, ⟨none, .fieldAddr 3 (.var 6), none⟩, ⟨none, .store 1 (.tmp 6) (.tmp 5), none⟩]
def R13e : MC := .region [⟨none, .mv (.var 4), none⟩, ⟨none, .load true 4 (.var 6), none⟩, ⟨none, .buildF 4 [.tmp 1], none⟩, ⟨none, .append 4 32 (.tmp 0) (.tmp 2), none⟩, ⟨some 4, .mv (.tmp 3), none⟩]
def R13f : MC := .region [⟨none, .mv (.var 5), none⟩, ⟨none, .bin .add (.tmp 0) (.cst (.int .i64 1)), none⟩, ⟨some 5, .mv (.tmp 1), none⟩]
theorem R13_eq : lp13x0 = .seq (.seq (.region [⟨none, .mv (.var 5), none⟩, ⟨none, .mv (.var 0), none⟩, ⟨none, .lenSl (.tmp 1), none⟩, ⟨none, .bin .lss (.tmp 0) (.tmp 2), none⟩, ⟨none, .mv (.tmp 3), none⟩, ⟨none, .mv (.var 5), some (.tmp 4, true)⟩, ⟨none, .bin .lss (.tmp 5) (.cst (.int .i64 20)), some (.tmp 4, true)⟩, ⟨some 7, .pick (.tmp 4) (.tmp 6) (.cst (.bool false)), none⟩]) (.cond (.var 7) .skip (.exit 0))) (.seq (.seq (.block 1 (.seq R13a (.seq (.seq R13b (.cond (.var 8) (.seq R13c R13d) .skip)) R13e))) (.kill [3, 6, 7, 8])) R13f) := rfl
set_option maxRecDepth 100000 in
theorem r13 (fuel : Nat) {A : Arena} {x : AV} {l : List R4} (hx : r4sOf x = some l) {n : Int} (hn : 1 ≤ n) (plain : Bool) {i : Nat} (hi : i < l.length) (v4 v7 : AV) :
    ∃ A', A'[A.length]? = some (.row 4 false [arcA (arcD n plain l[i])]) ∧ A.length < A'.length ∧ (∀ j, j < A.length → A'[j]? = A[j]?) ∧ ∀ (K : List KC) (X : MC), run (envOf GC fs13) fuel (.code (.seq R13a (.seq (.seq R13b (.cond (.var 8) (.seq R13c R13d) .skip)) X)) :: K) [x, .int .i64 n, .bool plain, .undef, v4, .int .i64 (i : Int), .undef, v7, .undef] A =
      run (envOf GC fs13) fuel (.code X :: K) [x, .int .i64 n, .bool plain, .undef, v4, .int .i64 (i : Int), .ptr A.length 0 0, v7, .bool plain] A' := by
  obtain ⟨hs, hl, hr⟩ := r4sOf_some hx
  obtain ⟨q1, q2, q3, q4⟩ := hr _ (List.getElem_mem hi)
  have x1 : ∀ A, evIndexSl 4 A x (.int .i64 (i : Int)) = some (.fp [.int .i64 l[i].1, .int .i64 l[i].2.1, .int .i64 l[i].2.2.1, .int .i64 l[i].2.2.2]) := fun A =>
    hs.index (A := A) (x := r4A l[i]) (by simp [hi]) rfl (by omega) .i64
  have hfs : x = .fs 4 (l.map r4A) := by
    rcases hs with ⟨_, h⟩ | h
    · have : l = [] := by simpa using h
      subst this; simp at hi
    · exact h
  obtain ⟨es, hes⟩ : ∃ es, es = l.map r4A := ⟨_, rfl⟩
  rw [hfs, ← hes] at x1 ⊢
  have p61 := pick_range l[i].2.2.1 61 (by omega)
  have p4 := pick_range l[i].2.2.2 4 (by omega)
  have m1 := M12_eq q1 (show 0 < n by omega)
  have m2 := M12_eq q2 (show 0 < n by omega)
  have m3 := M12_eq q3 (show (0 : Int) < 61 by omega)
  have m4 := M12_eq q4 (show (0 : Int) < 4 by omega)
  have m5 := M12_eq q3 (show (0 : Int) < 41 by omega)
  have m6 := M12_eq q4 (show (0 : Int) < 2 by omega)
  have b1 : evBin .sub (.int .i64 (pick l[i].2.2.1 61)) (.int .i64 20) = some (.int .i64 (pick l[i].2.2.1 61 - 20)) := by
    simp only [evBin]; rw [if_pos trivial, wrapI (by unfold inI; omega)]
  have b2 : evBin .sub (.int .i64 (pick l[i].2.2.2 4)) (.int .i64 1) = some (.int .i64 (pick l[i].2.2.2 4 - 1)) := by
    simp only [evBin]; rw [if_pos trivial, wrapI (by unfold inI; omega)]
  unfold arcA arcD
  simp only
  obtain ⟨y1, hy1⟩ : ∃ y, y = pick l[i].1 n := ⟨_, rfl⟩
  obtain ⟨y2, hy2⟩ : ∃ y, y = pick l[i].2.1 n := ⟨_, rfl⟩
  obtain ⟨y3, hy3⟩ : ∃ y, y = pick l[i].2.2.1 61 := ⟨_, rfl⟩
  obtain ⟨y4, hy4⟩ : ∃ y, y = pick l[i].2.2.2 4 := ⟨_, rfl⟩
  obtain ⟨y5, hy5⟩ : ∃ y, y = pick l[i].2.2.1 41 := ⟨_, rfl⟩
  obtain ⟨y6, hy6⟩ : ∃ y, y = pick l[i].2.2.2 2 := ⟨_, rfl⟩
  rw [← hy1] at m1 ⊢
  rw [← hy2] at m2 ⊢
  rw [← hy3] at m3 b1 ⊢
  rw [← hy4] at m4 b2 ⊢
  rw [← hy5] at m5 ⊢
  rw [← hy6] at m6 ⊢
  obtain ⟨z1, hz1⟩ : ∃ z, z = y3 - 20 := ⟨_, rfl⟩
  obtain ⟨z2, hz2⟩ : ∃ z, z = y4 - 1 := ⟨_, rfl⟩
  rw [← hz1] at b1 ⊢
  rw [← hz2] at b2 ⊢
  cases plain with
  | false =>
    refine ⟨A ++ [.row 4 false [.agg [.int .i64 y1, .int .i64 y2, .int .i64 z1, .int .i64 z2]]], by simp, by simp, fun j hj => by rw [List.getElem?_append_left hj], fun K X => ?_⟩
    simp [R13a, R13b, x1, evIndexArr, m1, m2, m3, m4, b1, b2, -evBin, -evIndexSl]
  | true =>
    refine ⟨A ++ [.row 4 false [.agg [.int .i64 y1, .int .i64 y2, .int .i64 y5, .int .i64 y6]]], by simp, by simp, fun j hj => by rw [List.getElem?_append_left hj], fun K X => ?_⟩
    simp [R13a, R13b, R13c, R13d, x1, evIndexArr, m1, m2, m3, m4, m5, m6, b1, b2, -evBin, -evIndexSl]
/-- the arena of arcs, behind i rounds -/
def DInv (l : List R4) (n : Int) (plain : Bool) (i : Nat) (v4 : AV) (A : Arena) : Prop := SlotG 4 A v4 (((l.take i).map (arcD n plain)).map arcA)
set_option maxRecDepth 100000 in
theorem round13 (fuel : Nat) {A : Arena} {x : AV} {l : List R4} (hx : r4sOf x = some l) {n : Int} (hn : 1 ≤ n) (plain : Bool) {i : Nat} (hi : i < l.length) (hi20 : i < 20) {v4 : AV} (hI : DInv l n plain i v4 A) :
    ∃ A' v4', run (envOf GC fs13) fuel [.code lp13x0] (st13x0 x (.int .i64 n) (.bool plain) v4 (.int .i64 (i : Int))) A = some (.normal (st13x0 x (.int .i64 n) (.bool plain) v4' (.int .i64 ((i + 1 : Nat) : Int))) A') ∧ DInv l n plain (i + 1) v4' A' := by
  obtain ⟨hs, hl, hr⟩ := r4sOf_some hx
  have hlen := hs.len
  have hlen' : (l.map r4A).length = l.length := by simp
  rw [hlen'] at hlen
  obtain ⟨B, hB1, hB2, hB3, hB4⟩ := r13 fuel (A := A) hx hn plain hi v4 (.bool true)
  have hlow := SlotG.low hI
  have hIB : SlotG 4 B v4 (((l.take i).map (arcD n plain)).map arcA) := hI.keep fun j hj => hB3 j (hlow j hj)
  obtain ⟨s', k, C, ap, c1, c2, c3, c4⟩ := hIB.append (bytes := 32) (arcA (arcD n plain l[i])) (by omega) (by omega) (by simp; omega)
  refine ⟨C, .sl s' 0 k, ?_, ?_⟩
  · have b1 := lt_nat i l.length .i64
    rw [decide_eq_true hi] at b1
    have b2 : evBin .lss (.int .i64 (i : Int)) (.int .i64 20) = some (.bool true) := by simp [evBin]; omega
    have b3 := add1_nat i (by omega)
    obtain ⟨i1, hi1⟩ : ∃ i1 : Nat, i1 = i + 1 := ⟨_, rfl⟩
    rw [← hi1] at b3 ⊢
    obtain ⟨vid, hvid⟩ : ∃ vid, vid = A.length := ⟨_, rfl⟩
    rw [← hvid] at hB1 hB4
    unfold arcA at hB1 ap
    rw [R13_eq]
    simp [hlen, b1, b2, b3, hB4, R13e, R13f, hB1, ap, -evBin, -evLenSl]
  · unfold DInv
    rw [List.take_succ_eq_append_getElem hi, List.map_append, List.map_append]
    exact c1
noncomputable def M13 : PModel := fun args => match args with
  | [x, .int .i64 n, .bool plain] => if 1 ≤ n then (r4sOf x).map fun l => slA 4 ((arcsD l n plain).map arcA) else none
  | _ => none
set_option maxRecDepth 100000 in
theorem spec13F : PureSpecF Try.prog GC 13 M13 := by
  refine PureSpecF.of_ev (E := envOf GC fs13) (envOf_sound sound13) rfl at13 comp13 5 ?_
  intro args r h
  unfold M13 at h
  split at h
  rotate_left
  · cases h
  rename_i x n plain
  simp only [Option.ite_none_right_eq_some, Option.map_eq_some_iff] at h
  obtain ⟨hn, l, hl, rfl⟩ := h
  refine ⟨30, ?_⟩
  obtain ⟨hs, hm, hr⟩ := r4sOf_some hl
  have hlen := hs.len
  have hlen' : (l.map r4A).length = l.length := by simp
  rw [hlen'] at hlen
  obtain ⟨o, lp, A', v4, d7, hI, rfl⟩ := iter_inv (E := envOf GC fs13) (fuel := 30) (a := lp13x0) (mask := mask13x0)
    (fun κ σ A => ∃ i v4, i + κ = min l.length 20 ∧ σ = st13x0 x (.int .i64 n) (.bool plain) v4 (.int .i64 (i : Int)) ∧ DInv l n plain i v4 A)
    (fun o => ∃ A' v4 d7, DInv l n plain (min l.length 20) v4 A' ∧ o = .exit 0 [x, .int .i64 n, .bool plain, .undef, v4, .int .i64 ((min l.length 20 : Nat) : Int), .undef, d7, .undef] A')
    (by
      rintro κ σ A ⟨i, v4, hik, rfl, hI⟩
      rw [cl13x0]
      by_cases hi : i < min l.length 20
      · obtain ⟨A', v4', c1, c2⟩ := round13 30 hl hn plain (show i < l.length by omega) (show i < 20 by omega) hI
        exact .inl ⟨_, _, c1, κ - 1, by omega, i + 1, v4', by omega, rfl, c2⟩
      · obtain rfl : i = min l.length 20 := by omega
        obtain ⟨q, hq⟩ : ∃ q, q = min l.length 20 := ⟨_, rfl⟩
        rw [← hq] at hI ⊢
        have b1 := lt_nat q l.length .i64
        by_cases hql : q < l.length
        · rw [decide_eq_true hql] at b1
          have b2 : evBin .lss (.int .i64 (q : Int)) (.int .i64 20) = some (.bool false) := by simp [evBin]; omega
          refine .inr ⟨_, ?_, ?_, A, v4, .bool false, hI, rfl⟩
          · simp [lp13x0, hlen, b1, b2, -evBin, -evLenSl]
          · intro _ _ h; cases h
        · rw [decide_eq_false hql] at b1
          refine .inr ⟨_, ?_, ?_, A, v4, .bool false, hI, rfl⟩
          · simp [lp13x0, hlen, b1, -evBin, -evLenSl]
          · intro _ _ h; cases h)
    30 (min l.length 20) (st13x0 x (.int .i64 n) (.bool plain) .nilS (.int .i64 0)) [] (by omega) ⟨0, .nilS, by omega, rfl, .inl ⟨rfl, by simp⟩⟩
  have hI' : SlotG 4 A' v4 ((arcsD l n plain).map arcA) := by
    unfold DInv at hI
    have e : l.take (min l.length 20) = l.take 20 := by rw [List.take_eq_take_iff]; omega
    rw [e] at hI; exact hI
  have z1 := hI'.frz 4 (fun x hx => by obtain ⟨y, _, rfl⟩ := List.mem_map.1 hx; rfl)
  have z2 := hI'.fresh 4 (fun x hx => by obtain ⟨y, _, rfl⟩ := List.mem_map.1 hx; rfl)
  have p1 : pack [v4] = v4 := rfl
  rw [evF_run _ _ rfl]
  simp [mf13, go13x0 lp, z1, z2, -frz]
end Go.Proofs.Ytfmlfekcdbfioaa
/-
  Cycle: the fixed examples.
-/
namespace Go.Proofs.Ytfmlfekcdbfioaa
open Go

def ex2 : List CArc := [⟨0, 1, 30, 0⟩, ⟨1, 0, 20, 1⟩]
def ex3 : List CArc := [⟨0, 1, 30, 0⟩, ⟨1, 0, 20, 1⟩, ⟨0, 1, 10, -1⟩]
theorem val_2 : ValidA 2 ex2 := ⟨by decide, by decide, by decide⟩
theorem val_3 : ValidA 2 ex3 := ⟨by decide, by decide, by decide⟩
theorem val_1 : ¬ ValidA 1 ex2 := fun h => absurd h.2.2 (by decide)
theorem r2_50 : Ready 2 ex2 50 := ⟨val_2, by decide⟩
theorem r2_49 : Ready 2 ex2 49 := ⟨val_2, by decide⟩
theorem r3_60 : Ready 2 ex3 60 := ⟨val_3, by decide⟩
theorem lv_50 : lvM 2 ex2 50 = ([0, 30], [], true) := by
  have h1 : levels (lar 50 ex2) 2 = ([0, 30], true) := by decide +kernel
  unfold lvM
  rw [if_pos r2_50, show (2 : Int).toNat = 2 from rfl, h1, if_pos rfl]
theorem lv_49 : lvM 2 ex2 49 = ([], [0, 1], false) := by
  have h1 : (levels (lar 49 ex2) 2).2 = false := by decide +kernel
  have h2 : cycM 49 ex2 2 = some [0, 1] := by decide +kernel
  unfold lvM
  rw [if_pos r2_49, show (2 : Int).toNat = 2 from rfl, if_neg (by rw [h1]; simp), h2]; rfl
theorem lv_60 : lvM 2 ex3 60 = ([], [1, 2], false) := by
  have h1 : (levels (lar 60 ex3) 2).2 = false := by decide +kernel
  have h2 : cycM 60 ex3 2 = some [1, 2] := by decide +kernel
  unfold lvM
  rw [if_pos r3_60, show (2 : Int).toNat = 2 from rfl, if_neg (by rw [h1]; simp), h2]; rfl
theorem pos_50 {q : Int} (hq : q < 50) : Pos ex2 q := by
  refine ⟨0, [(⟨0, 1, 30, 0⟩, 0), (⟨1, 0, 20, 1⟩, 1)], ⟨?_, rfl, ?_, rfl, rfl⟩, ?_⟩
  · exact List.mem_of_getElem? (num_get ex2 0 (by decide))
  · exact List.mem_of_getElem? (num_get ex2 1 (by decide))
  · simp [lenN, CArc.len]; omega
theorem not_pos_50 : ¬ Pos ex2 50 := (lev_iff (n := 2) r2_50).1 (by decide +kernel)
theorem sm_1000 : smM 2 ex2 0 1000 = some 50 := by
  have hp : isPer 1000 := by decide
  have e : smM 2 ex2 0 1000 = smL 2 ex2 1000 1002 0 := if_pos hp
  rw [e]
  obtain ⟨h1, h2⟩ := smL_spec (n := 2) (l := ex2) hp 1002 0 (by omega)
  cases hs : smL 2 ex2 1000 1002 0 with
  | none => exact absurd (h2 hs ⟨val_2, by decide⟩ 50 (by omega) (by omega)) not_pos_50
  | some r =>
    obtain ⟨k1, k2, k3, k4, k5⟩ := h1 r hs
    have : r = 50 := by
      rcases Int.lt_trichotomy r 50 with h | h | h
      · exact absurd (pos_50 h) k4
      · exact h
      · exact absurd (k5 50 (by omega) h) not_pos_50
    rw [this]
theorem sm_40 : smM 2 ex2 0 40 = none := by
  have hp : isPer 40 := by decide
  have e : smM 2 ex2 0 40 = smL 2 ex2 40 42 0 := if_pos hp
  rw [e]
  obtain ⟨h1, h2⟩ := smL_spec (n := 2) (l := ex2) hp 42 0 (by omega)
  cases hs : smL 2 ex2 40 42 0 with
  | none => rfl
  | some r =>
    obtain ⟨k1, k2, k3, k4, k5⟩ := h1 r hs
    exact absurd (pos_50 (by omega)) k4
theorem ref_49 : RefOk 2 ex2 49 [1, 0] := ⟨r2_49, 1, 1, by decide +kernel, by decide⟩
theorem ref_50 : ¬ RefOk 2 ex2 50 [1, 0] := by
  rintro ⟨_, s, t, h, h2⟩
  have h1 : exM 50 ex2 [1, 0] = some (0, 1) := by decide +kernel
  rw [h1] at h
  injection h with h
  injection h with h h'
  omega

theorem ver_35 : VerOk 2 ex2 50 [5, 35] := ⟨r2_50, by decide, by decide, by unfold Keeps; decide +kernel⟩
theorem ver_34 : ¬ VerOk 2 ex2 50 [5, 34] := fun h => by
  have := h.2.2.2
  unfold Keeps at this
  exact absurd this (by decide +kernel)
noncomputable def fs11 : List (FuncId × HModel) := [(14, H14), (16, pureH 4 M16), (18, pureH 4 M18), (19, pureH 4 M19), (21, pureH 4 M21), (23, pureH 4 M23)]
@[simp] theorem fs11_14 : lookM fs11 14 = some H14 := rfl
@[simp] theorem fs11_16 : lookM fs11 16 = some (pureH 4 M16) := rfl
@[simp] theorem fs11_18 : lookM fs11 18 = some (pureH 4 M18) := rfl
@[simp] theorem fs11_19 : lookM fs11 19 = some (pureH 4 M19) := rfl
@[simp] theorem fs11_21 : lookM fs11 21 = some (pureH 4 M21) := rfl
@[simp] theorem fs11_23 : lookM fs11 23 = some (pureH 4 M23) := rfl
theorem sound11 : ∀ f M, lookM fs11 f = some M → FnSpecY Try.prog GC f M := lookM_cons spec14 (lookM_cons (FnSpecY.of_pure spec16 4) (lookM_cons (FnSpecY.of_pure spec18 4) (lookM_cons (FnSpecY.of_pure spec19 4) (lookM_cons (FnSpecY.of_pure spec21 4) (lookM_cons (FnSpecY.of_pure spec23 4) lookM_nil)))))
def M11 : PModel := fun args => match args with
  | [] => some (.bool true)
  | _ => none
abbrev x0 : AV := .agg [.int .i64 0, .int .i64 1, .int .i64 30, .int .i64 0]
abbrev x1 : AV := .agg [.int .i64 1, .int .i64 0, .int .i64 20, .int .i64 1]
abbrev x2 : AV := .agg [.int .i64 0, .int .i64 1, .int .i64 10, .int .i64 (-1)]
theorem arcs2 : arcsOf (.fs 4 [x0, x1]) = some ex2 := arcsOf_of (l := ex2) (.inr rfl) (by decide) (by intro x hx; simp [ex2] at hx; rcases hx with rfl | rfl <;> (unfold CArc.inR inI; simp))
theorem arcs3 : arcsOf (.fs 4 [x0, x1, x2]) = some ex3 := arcsOf_of (l := ex3) (.inr rfl) (by decide) (by intro x hx; simp [ex3] at hx; rcases hx with rfl | rfl | rfl <;> (unfold CArc.inR inI; simp))
theorem ints2 (a b : Int) (ha : 0 ≤ a ∧ a ≤ 100) (hb : 0 ≤ b ∧ b ≤ 100) : intsOf (.fs 1 [.int .i64 a, .int .i64 b]) = some [a, b] := intsOf_of (xs := [a, b]) (.inr rfl) (by simp) (by intro x hx; simp at hx; rcases hx with rfl | rfl <;> (unfold inI; omega))
open Classical in
set_option maxRecDepth 100000 in
set_option maxHeartbeats 4000000 in
theorem spec11 : PureSpec Try.prog GC 11 M11 := by
  refine PureSpec.of_ev (E := envOf GC fs11) (envOf_sound sound11) rfl at11 comp11 1 ?_
  intro args r h
  unfold M11 at h
  split at h
  rotate_left
  · cases h
  injection h with h; subst h
  refine ⟨0, ?_⟩
  have c1 := fun h => H14_eq h (A := [.row 4 false [x0, x1]]) (a := .sl 0 0 2) rfl arcs2 2 50
  have c2 := fun h => H14_eq h (A := [.row 4 false [x0, x1]]) (a := .sl 0 0 2) rfl arcs2 2 49
  have c3 := fun h => H14_eq h (A := [.row 4 true [x0, x1, x2]]) (a := .sl 0 0 3) rfl arcs3 2 60
  rw [lv_50] at c1
  rw [lv_49] at c2
  rw [lv_60] at c3
  have m1 : M23 [.int .i64 2, .fs 4 [x0, x1], .int .i64 0, .int .i64 1000] = some (.tup [.int .i64 50, .bool true]) := by
    simp only [M23, arcs2, Option.map_some, sm_1000]; rfl
  have m2 : M23 [.int .i64 2, .fs 4 [x0, x1], .int .i64 0, .int .i64 40] = some (.tup [.int .i64 0, .bool false]) := by
    simp only [M23, arcs2, Option.map_some, sm_40]; rfl
  have m3 : M18 [.fs 1 [.int .i64 0, .int .i64 30], .fs 1 [.int .i64 0, .int .i64 30]] = some (.bool true) := by
    simp only [M18, ints2 0 30 (by omega) (by omega)]; simp
  have m4 : M18 [.fs 1 [.int .i64 0, .int .i64 1], .fs 1 [.int .i64 0, .int .i64 1]] = some (.bool true) := by
    simp only [M18, ints2 0 1 (by omega) (by omega)]; simp
  have m5 : M18 [.fs 1 [.int .i64 1, .int .i64 2], .fs 1 [.int .i64 1, .int .i64 2]] = some (.bool true) := by
    simp only [M18, ints2 1 2 (by omega) (by omega)]; simp
  have m6 : M19 [.int .i64 2, .fs 4 [x0, x1], .int .i64 50, .fs 1 [.int .i64 5, .int .i64 35]] = some (.bool true) := by
    simp only [M19, arcs2, ints2 5 35 (by omega) (by omega)]
    simp [ver_35]
  have m7 : M19 [.int .i64 2, .fs 4 [x0, x1], .int .i64 50, .fs 1 [.int .i64 5, .int .i64 34]] = some (.bool false) := by
    simp only [M19, arcs2, ints2 5 34 (by omega) (by omega)]
    simp [ver_34]
  have m8 : M21 [.int .i64 2, .fs 4 [x0, x1], .int .i64 49, .fs 1 [.int .i64 1, .int .i64 0]] = some (.bool true) := by
    simp only [M21, arcs2, ints2 1 0 (by omega) (by omega)]
    rw [decide_eq_true ref_49]
  have m9 : M21 [.int .i64 2, .fs 4 [x0, x1], .int .i64 50, .fs 1 [.int .i64 1, .int .i64 0]] = some (.bool false) := by
    simp only [M21, arcs2, ints2 1 0 (by omega) (by omega)]
    rw [decide_eq_false ref_50]
  have m10 : M16 [.int .i64 2, .fs 4 [x0, x1]] = some (.bool true) := by
    simp only [M16, arcs2, Option.map_some]
    simp [val_2]
  have m11 : M16 [.int .i64 1, .fs 4 [x0, x1]] = some (.bool false) := by
    simp only [M16, arcs2, Option.map_some]
    simp [val_1]
  simp only [lvT, slA, intsA, List.map_cons, List.map_nil] at c1 c2 c3
  rw [evP_run _ _ rfl]
  simp [mf11, c1, c2, c3, m1, m2, m3, m4, m5, m6, m7, m8, m9, m10, m11, evAppend, srcElems]
end Go.Proofs.Ytfmlfekcdbfioaa
/-
  Cycle: what the laws share.
-/
namespace Go.Proofs.Ytfmlfekcdbfioaa
open Go

@[simp] theorem M11_nil : M11 [] = some (.bool true) := rfl
noncomputable def fsN : List (FuncId × HModel) := [(11, pureH 4 M11), (12, pureH 4 M12), (13, pureFH 4 M13), (14, H14), (16, pureH 4 M16), (18, pureH 4 M18), (19, pureH 4 M19), (21, pureH 4 M21), (23, pureH 4 M23)]
@[simp] theorem fsN_11 : lookM fsN 11 = some (pureH 4 M11) := rfl
@[simp] theorem fsN_12 : lookM fsN 12 = some (pureH 4 M12) := rfl
@[simp] theorem fsN_13 : lookM fsN 13 = some (pureFH 4 M13) := rfl
@[simp] theorem fsN_14 : lookM fsN 14 = some H14 := rfl
@[simp] theorem fsN_16 : lookM fsN 16 = some (pureH 4 M16) := rfl
@[simp] theorem fsN_18 : lookM fsN 18 = some (pureH 4 M18) := rfl
@[simp] theorem fsN_19 : lookM fsN 19 = some (pureH 4 M19) := rfl
@[simp] theorem fsN_21 : lookM fsN 21 = some (pureH 4 M21) := rfl
@[simp] theorem fsN_23 : lookM fsN 23 = some (pureH 4 M23) := rfl
theorem soundN : ∀ f M, lookM fsN f = some M → FnSpecY Try.prog GC f M := lookM_cons (FnSpecY.of_pure spec11 4) (lookM_cons (FnSpecY.of_pure spec12 4) (lookM_cons (FnSpecY.of_pureF spec13F 4) (lookM_cons spec14 (lookM_cons (FnSpecY.of_pure spec16 4) (lookM_cons (FnSpecY.of_pure spec18 4) (lookM_cons (FnSpecY.of_pure spec19 4) (lookM_cons (FnSpecY.of_pure spec21 4) (lookM_cons (FnSpecY.of_pure spec23 4) lookM_nil))))))))

/-! ### arguments -/
theorem r4_arg {x : AV} {n : Nat} (h : TA Try.prog (n + 2) 49 x) : ∃ y, r4Of x = some y := by
  obtain ⟨ls, rfl, hc, hl⟩ := TA.agg (show aggT Try.prog 49 = true by kernel_rfl) h
  simp only [TC, Try.underlying49] at hc
  rw [show Try.prog.cellsOf 3 = 1 by kernel_rfl] at hc
  simp only [TCa, Try.underlying3] at hc
  obtain ⟨_, _, rfl, ⟨a, rfl, ha⟩, _, _, _, rfl, ⟨b, rfl, hb⟩, _, _, _, rfl, ⟨c, rfl, hc'⟩, _, _, _, rfl, ⟨d, rfl, hd⟩, _, rfl⟩ := hc
  refine ⟨(a, b, c, d), ?_⟩
  have : R4.inR (a, b, c, d) := ⟨ha, hb, hc', hd⟩
  exact if_pos this
theorem r4s_arg {raw : AV} {n : Nat} (h : TA Try.prog (n + 3) 22 raw) : ∃ ts, r4sOf raw = some ts := by
  obtain ⟨es, h1, h2, h3⟩ := TA.sl Try.underlying22 h
  rw [show Try.prog.cellsOf 49 = 4 by kernel_rfl] at h1
  obtain ⟨ys, hy⟩ := all_some (f := r4Of) fun x hx => r4_arg (n := n) (h3 x hx)
  refine ⟨ys, ?_⟩
  unfold r4sOf
  rcases h1 with ⟨rfl, rfl⟩ | rfl
  · injection hy with hy; subst hy; rfl
  · simp only [listN]
    rw [if_pos ⟨trivial, h2⟩]; exact hy
theorem arc_arg {x : AV} {n : Nat} (h : TA Try.prog (n + 2) 44 x) : ∃ y, arcOf x = some y := by
  obtain ⟨ls, rfl, hc, hl⟩ := TA.agg (show aggT Try.prog 44 = true by kernel_rfl) h
  simp only [TC, Try.underlying44, TCs, Try.underlying3] at hc
  obtain ⟨_, _, rfl, ⟨a, rfl, ha⟩, _, _, _, rfl, ⟨b, rfl, hb⟩, _, _, _, rfl, ⟨c, rfl, hc'⟩, _, _, _, rfl, ⟨d, rfl, hd⟩, _, rfl⟩ := hc
  exact ⟨⟨a, b, c, d⟩, arcOf_eq (a := ⟨a, b, c, d⟩) ⟨ha, hb, hc', hd⟩⟩
theorem arcs_arg {raw : AV} {n : Nat} (h : TA Try.prog (n + 3) 23 raw) : ∃ ts, arcsOf raw = some ts := by
  obtain ⟨es, h1, h2, h3⟩ := TA.sl Try.underlying23 h
  rw [show Try.prog.cellsOf 44 = 4 by kernel_rfl] at h1
  obtain ⟨ys, hy⟩ := all_some (f := arcOf) fun x hx => arc_arg (n := n) (h3 x hx)
  refine ⟨ys, ?_⟩
  unfold arcsOf
  rcases h1 with ⟨rfl, rfl⟩ | rfl
  · injection hy with hy; subst hy; rfl
  · simp only [listN]
    rw [if_pos ⟨trivial, h2⟩]; exact hy
theorem three_arg {x : AV} {n : Nat} (h : TA Try.prog (n + 2) 46 x) : ∃ a b c : Int, x = .agg [.int .i64 a, .int .i64 b, .int .i64 c] ∧ inI a ∧ inI b ∧ inI c := by
  obtain ⟨ls, rfl, hc, hl⟩ := TA.agg (show aggT Try.prog 46 = true by kernel_rfl) h
  simp only [TC, Try.underlying46] at hc
  rw [show Try.prog.cellsOf 3 = 1 by kernel_rfl] at hc
  simp only [TCa, Try.underlying3] at hc
  obtain ⟨_, _, rfl, ⟨a, rfl, ha⟩, _, _, _, rfl, ⟨b, rfl, hb⟩, _, _, _, rfl, ⟨c, rfl, hc'⟩, _, rfl⟩ := hc
  exact ⟨a, b, c, rfl, ha, hb, hc'⟩

/-! ### Levels of arcs that integers determine -/
theorem arcsD_arg {n : Int} (hn : 1 ≤ n ∧ n ≤ 32) (l : List R4) (plain : Bool) : arcsOf (slA 4 ((arcsD l n plain).map arcA)) = some (arcsD l n plain) := by
  have hv := arcsD_valid hn l plain
  exact arcsOf_slA (by have := hv.2.1; omega) fun x hx => okA_in hn.2 (hv.2.2 x hx)
theorem lv_ok {n : Int} {l : List CArc} {p : Int} (hr : Ready n l p) : (lvM n l p).2.2 = true ↔ ¬ Pos l p := by
  obtain ⟨m, rfl⟩ : ∃ m : Nat, n = (m : Int) := ⟨n.toNat, by have := hr.1.1; omega⟩
  rw [← lev_iff hr]
  unfold lvM
  rw [if_pos hr, Int.toNat_natCast]
  split
  · rename_i h; simp [h]
  · rename_i h; simp [h]
theorem lvT_form (n : Int) (l : List CArc) (p : Int) : lvT (lvM n l p) = .tup [slA 1 (intsA (lvM n l p).1), slA 1 (intsA (lvM n l p).2.1), .bool (lvM n l p).2.2] := rfl
theorem add1_pick {z : Int} (hz : 0 ≤ z ∧ z < 7) : evBin .add (.int .i64 1) (.int .i64 z) = some (.int .i64 (1 + z)) := by
  simp only [evBin]; rw [if_pos trivial, wrapI (by unfold inI; omega)]
theorem evAdd {a b : Int} (h : -9223372036854775808 ≤ a + b ∧ a + b ≤ 9223372036854775807) : evBin .add (.int .i64 a) (.int .i64 b) = some (.int .i64 (a + b)) := by
  simp only [evBin]; rw [if_pos trivial, wrapI h]
theorem evSub {a b : Int} (h : -9223372036854775808 ≤ a - b ∧ a - b ≤ 9223372036854775807) : evBin .sub (.int .i64 a) (.int .i64 b) = some (.int .i64 (a - b)) := by
  simp only [evBin]; rw [if_pos trivial, wrapI h]
theorem evGtr (a b : Int) : evBin .gtr (.int .i64 a) (.int .i64 b) = some (.bool (decide (a > b))) := by simp [evBin]
theorem evLss (a b : Int) : evBin .lss (.int .i64 a) (.int .i64 b) = some (.bool (decide (a < b))) := by simp [evBin]
theorem evEql (a b : Int) : evBin .eql (.int .i64 a) (.int .i64 b) = some (.bool (decide (a = b))) := by simp [evBin]
theorem evNeq (a b : Int) : evBin .neq (.int .i64 a) (.int .i64 b) = some (.bool (decide (a ≠ b))) := by simp [evBin]
theorem evLeq (a b : Int) : evBin .leq (.int .i64 a) (.int .i64 b) = some (.bool (decide (a ≤ b))) := by simp [evBin]
theorem ownK : ownKnob Try.prog.godebug = none := by kernel_rfl
theorem grel0 {W : World} {OK : Nat → Prop} : GRel GC W OK := fun gl cs h => by simp [GC] at h
/-- A WORLD FOR THE WITNESS. -/
noncomputable def laidWorld (os : Os) : World := World.holding Try.prog os ⟨#[], #[], []⟩
end Go.Proofs.Ytfmlfekcdbfioaa
