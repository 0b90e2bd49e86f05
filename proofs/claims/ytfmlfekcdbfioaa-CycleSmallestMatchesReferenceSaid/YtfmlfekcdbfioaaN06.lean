/-
  What the proof is built on (C19 to C39b).
-/
import Derived.Test.YtfmlfekcdbfioaaN05
import Derived.Test.YtfmlfekcdbfioaaChecked
import Derived.KernelRfl
/-
  Cycle, plain: starts or a cycle; Smallest.
-/
namespace Go.Proofs.Ytfmlfekcdbfioaa
open Go

/-- a closed way whose length is greater than 0 -/
def Pos (l : List CArc) (p : Int) : Prop := ∃ (u : Int) (xs : List NArc), isNW l u xs u ∧ 0 < lenN p xs
theorem arcZ_num {l : List CArc} {x : NArc} (h : x ∈ num l) : arcZ l (x.2 : Int) = x.1 ∧ 0 ≤ (x.2 : Int) ∧ (x.2 : Int) ≤ (l.length : Int) - 1 := by
  obtain ⟨hi, he⟩ := num_mem h
  refine ⟨?_, by omega, by omega⟩
  unfold arcZ
  rw [Int.toNat_natCast, List.getD_eq_getElem?_getD, List.getElem?_eq_getElem hi]
  exact he
theorem exL_NW {p : Int} {l : List CArc} : ∀ {xs : List NArc} {u v s t : Int}, isNW l u xs v → exL p l (xs.map fun y => (y.2 : Int)) u s t = some (s + lenN p xs, t + tokN xs)
  | [], u, v, s, t, _ => by simp [exL, lenN, tokN]
  | x :: r, u, v, s, t, ⟨h1, h2, h3⟩ => by
    obtain ⟨e, _⟩ := arcZ_num h1
    simp only [List.map_cons, exL, e, if_pos h2]
    rw [exL_NW h3]
    simp only [lenN, tokN, List.map_cons, List.sum_cons]
    congr 2 <;> omega
theorem isNW_last {l : List CArc} : ∀ {xs : List NArc} {u v : Int} (h : xs ≠ []), isNW l u xs v → (xs.getLast h).1.t = v ∧ xs.getLast h ∈ num l
  | [x], u, v, _, ⟨h1, h2, h3⟩ => ⟨h3, h1⟩
  | x :: y :: r, u, v, _, ⟨h1, h2, h3⟩ => by
    rw [List.getLast_cons (by simp)]
    exact isNW_last (by simp) h3
theorem exM_cycle {p : Int} {l : List CArc} {u : Int} {xs : List NArc} (h : isNW l u xs u) (h1 : 1 ≤ xs.length) (h2 : xs.length ≤ 200) : exM p l (xs.map fun y => (y.2 : Int)) = some (lenN p xs, tokN xs) := by
  have hne : xs ≠ [] := fun e => by rw [e] at h1; simp at h1
  have hall : ∀ x ∈ xs, x ∈ num l := by
    have : ∀ {ys : List NArc} {a b : Int}, isNW l a ys b → ∀ x ∈ ys, x ∈ num l := by
      intro ys
      induction ys with
      | nil => intro _ _ _ x hx; cases hx
      | cons y r ih =>
        rintro a b ⟨k1, _, k3⟩ x hx
        rcases List.mem_cons.1 hx with rfl | hx
        · exact k1
        · exact ih k3 x hx
    exact this h
  unfold exM
  rw [if_pos ⟨by simpa using ⟨h1, h2⟩, fun x hx => by
    obtain ⟨y, hy, rfl⟩ := List.mem_map.1 hx
    exact (arcZ_num (hall y hy)).2⟩]
  obtain ⟨e1, e2⟩ := isNW_last hne h
  have : (xs.map fun y => (y.2 : Int)).getLastD 0 = ((xs.getLast hne).2 : Int) := by
    rw [List.getLastD_eq_getLast?, List.getLast?_map, List.getLast?_eq_some_getLast hne]; rfl
  rw [this, (arcZ_num e2).1, e1, exL_NW h]
  simp
theorem exL_some {p : Int} {l : List CArc} : ∀ {ys : List Int} {u s t : Int} {r : Int × Int}, inIdx l ys → exL p l ys u s t = some r → ∃ (v : Int) (xs : List NArc), ys = xs.map (fun y => (y.2 : Int)) ∧ isNW l u xs v ∧ r = (s + lenN p xs, t + tokN xs)
  | [], u, s, t, r, _, h => by
    simp only [exL, Option.some.injEq] at h
    exact ⟨u, [], rfl, rfl, by rw [← h]; simp [lenN, tokN]⟩
  | i :: ys, u, s, t, r, hi, h => by
    have hi0 := hi i (by simp)
    obtain ⟨j, hj, rfl, he⟩ := arcZ_at hi0
    simp only [exL] at h
    split at h
    · rename_i hf
      obtain ⟨v, xs, k1, k2, k3⟩ := exL_some (fun x hx => hi x (by simp [hx])) h
      rw [he] at hf k2 k3
      refine ⟨v, (l[j], j) :: xs, by simp [k1], ⟨List.mem_of_getElem? (num_get l j hj), hf, k2⟩, ?_⟩
      rw [k3]
      simp only [lenN, tokN, List.map_cons, List.sum_cons]
      congr 1 <;> omega
    · cases h
theorem exM_some {p : Int} {l : List CArc} {ys : List Int} {s t : Int} (h : exM p l ys = some (s, t)) : ∃ (u : Int) (xs : List NArc), ys = xs.map (fun y => (y.2 : Int)) ∧ isNW l u xs u ∧ 1 ≤ xs.length ∧ xs.length ≤ 200 ∧ s = lenN p xs ∧ t = tokN xs := by
  unfold exM at h
  simp only [Option.ite_none_right_eq_some] at h
  obtain ⟨⟨h1, h2⟩, h3⟩ := h
  obtain ⟨v, xs, rfl, k2, k3⟩ := exL_some h2 h3
  simp only [List.length_map] at h1
  have hne : xs ≠ [] := fun e => by rw [e] at h1; simp at h1
  obtain ⟨e1, e2⟩ := isNW_last hne k2
  have : (xs.map fun y => (y.2 : Int)).getLastD 0 = ((xs.getLast hne).2 : Int) := by
    rw [List.getLastD_eq_getLast?, List.getLast?_map, List.getLast?_eq_some_getLast hne]; rfl
  rw [this, (arcZ_num e2).1, e1] at k2
  simp only [Prod.mk.injEq, Int.zero_add] at k3
  exact ⟨v, xs, rfl, k2, h1.1, h1.2, k3.1, k3.2⟩
/-- what is refuted has no starts -/
theorem keeps_noP {n p : Int} {l : List CArc} (hv : ∀ x ∈ l, okA n x) {s : List Int} (h : Keeps (lar p l) s) : ¬ Pos l p := by
  rintro ⟨u, xs, h1, h2⟩
  obtain ⟨k1, k2⟩ := NW_W (p := p) hv h1
  have := keeps_way h k1
  omega
theorem lar_ends {n : Nat} {p : Int} {l : List CArc} (hv : ∀ x ∈ l, okA n x) : ∀ a ∈ lar p l, a.1 < n ∧ a.2.1 < n := fun a ha => by
  obtain ⟨x, hx, rfl⟩ := List.mem_map.1 ha
  obtain ⟨q1, q2, _⟩ := hv x hx
  simp only; omega
section
variable {n : Nat} {p : Int} {l : List CArc} (hr : Ready n l p)
include hr
theorem lev_iff : (levels (lar p l) n).2 = true ↔ ¬ Pos l p := by
  have hv := hr.1.2.2
  have hn := hr.1.1
  constructor
  · intro h
    exact keeps_noP hv ((levels_least (lar_ends hv)).2.2.2.1 h)
  · intro h
    rw [levels_ok (lar_ends hv), ← cyc_none hv (by omega) hr.2]
    cases hc : cycM p l n with
    | none => rfl
    | some res =>
      obtain ⟨u, xs, _, k2, _, _, k5⟩ := cyc_some hv (by omega) hr.2 hc
      exact absurd ⟨u, xs, k2, k5⟩ h
theorem cyc_of (h : ¬ (levels (lar p l) n).2 = true) : ∃ (res : List Int) (u : Int) (xs : List NArc), cycM p l n = some res ∧ res = xs.map (fun y => (y.2 : Int)) ∧ isNW l u xs u ∧ 1 ≤ xs.length ∧ xs.length ≤ 32 ∧ 0 < lenN p xs ∧ exM p l res = some (lenN p xs, tokN xs) := by
  have hv := hr.1.2.2
  have hn := hr.1.1
  rw [levels_ok (lar_ends hv), ← cyc_none hv (by omega) hr.2] at h
  cases hc : cycM p l n with
  | none => exact absurd hc h
  | some res =>
    obtain ⟨u, xs, k1, k2, k3, k4, k5⟩ := cyc_some hv (by omega) hr.2 hc
    exact ⟨res, u, xs, rfl, k1, k2, k3, by omega, k5, by rw [k1]; exact exM_cycle k2 k3 (by omega)⟩
end
theorem lenN_bd {n p : Int} {l : List CArc} (hn : n ≤ 32) (hp : isPer p) (hv : ∀ x ∈ l, okA n x) : ∀ {xs : List NArc} {u v : Int}, isNW l u xs v → (-(3000000 * (xs.length : Int)) ≤ lenN p xs ∧ lenN p xs ≤ 3000000 * xs.length) ∧ (-(2 * (xs.length : Int)) ≤ tokN xs ∧ tokN xs ≤ 2 * xs.length)
  | [], _, _, _ => by simp [lenN, tokN]
  | x :: r, u, v, ⟨h1, h2, h3⟩ => by
    have h4 := lenN_bd hn hp hv h3
    obtain ⟨q1, q2, q3, q4⟩ := num_ok hv h1
    have hle := len_in (n := 32) (a := x.1) ⟨by omega, by omega, q3, q4⟩ hp
    simp only [lenN, tokN, List.map_cons, List.sum_cons, List.length_cons] at h4 ⊢
    omega

/-! ### Smallest -/
noncomputable def smL (n : Nat) (l : List CArc) (hi : Int) : Nat → Int → Option Int
  | 0, _ => none
  | m + 1, p => open Classical in if p ≤ hi ∧ Ready n l p then
      (if (levels (lar p l) n).2 = true then some p
       else if ((exM p l ((cycM p l n).getD [])).getD (0, 0)).2 ≤ 0 then none
       else smL n l hi m (p + (((exM p l ((cycM p l n).getD [])).getD (0, 0)).1 + ((exM p l ((cycM p l n).getD [])).getD (0, 0)).2 - 1).tdiv ((exM p l ((cycM p l n).getD [])).getD (0, 0)).2))
    else none
noncomputable def smM (n : Int) (l : List CArc) (lo hi : Int) : Option Int := if isPer hi then smL n.toNat l hi (hi - lo + 2).toNat lo else none
theorem step_div {s t : Int} (hs : 0 < s) (ht : 0 < t) : 1 ≤ (s + t - 1).tdiv t ∧ (s + t - 1).tdiv t ≤ s ∧ ((s + t - 1).tdiv t - 1) * t < s ∧ s ≤ (s + t - 1).tdiv t * t := by
  rw [Int.tdiv_eq_ediv_of_nonneg (by omega)]
  have h1 := Int.ediv_mul_add_emod (s + t - 1) t
  have h2 := Int.emod_nonneg (s + t - 1) (show t ≠ 0 by omega)
  have h3 := Int.emod_lt_of_pos (s + t - 1) ht
  obtain ⟨d, hd⟩ : ∃ d, d = (s + t - 1) / t := ⟨_, rfl⟩
  rw [← hd] at h1 ⊢
  have h4 : 1 ≤ d := by
    rcases Int.lt_or_le d 1 with h | h
    · have : d * t ≤ 0 := Int.mul_nonpos_of_nonpos_of_nonneg (by omega) (by omega)
      omega
    · exact h
  have h5 : (d - 1) * t = d * t - t := by rw [Int.sub_mul]; omega
  refine ⟨h4, ?_, by omega, by omega⟩
  rcases Int.lt_or_le s d with h | h
  · have : s * t ≤ (d - 1) * t := Int.mul_le_mul_of_nonneg_right (by omega) (by omega)
    have h6 : s * 1 ≤ s * t := Int.mul_le_mul_of_nonneg_left (by omega) (by omega)
    omega
  · exact h
/-- a cycle that refutes a period refutes others too -/
theorem pos_other {l : List CArc} {p q : Int} {u : Int} {xs : List NArc} (h : isNW l u xs u) (hq : 0 < lenN p xs - (q - p) * tokN xs) : Pos l q := by
  refine ⟨u, xs, h, ?_⟩
  rw [lenN_eq] at hq ⊢
  have : (q - p) * tokN xs = q * tokN xs - p * tokN xs := by rw [Int.sub_mul]
  omega
theorem smL_spec {n : Nat} {l : List CArc} {hi : Int} (hhi : isPer hi) : ∀ (m : Nat) (p : Int), hi - p + 1 < m →
    (∀ r, smL n l hi m p = some r → p ≤ r ∧ r ≤ hi ∧ Ready n l r ∧ ¬ Pos l r ∧ ∀ q, p ≤ q → q < r → Pos l q) ∧ (smL n l hi m p = none → Ready n l p → ∀ q, p ≤ q → q ≤ hi → Pos l q)
  | 0, p, hm => ⟨fun r h => (by cases h), fun _ _ q h1 h2 => by omega⟩
  | m + 1, p, hm => by
    unfold smL
    by_cases hp : p ≤ hi ∧ Ready n l p
    rotate_left
    · rw [if_neg hp]
      exact ⟨fun r h => (by cases h), fun _ h q h1 h2 => absurd ⟨by omega, h⟩ hp⟩
    rw [if_pos hp]
    by_cases hl : (levels (lar p l) n).2 = true
    · rw [if_pos hl]
      refine ⟨fun r h => ?_, fun h => by cases h⟩
      injection h with h; subst h
      exact ⟨Int.le_refl _, hp.1, hp.2, (lev_iff hp.2).1 hl, fun q h1 h2 => by omega⟩
    rw [if_neg hl]
    obtain ⟨res, u, xs, k1, k2, k3, k4, k5, k6, k7⟩ := cyc_of hp.2 hl
    rw [k1, Option.getD_some, k7, Option.getD_some]
    simp only
    by_cases ht : tokN xs ≤ 0
    · rw [if_pos ht]
      refine ⟨fun r h => (by cases h), fun _ _ q h1 h2 => pos_other k3 (p := p) ?_⟩
      have : (q - p) * tokN xs ≤ 0 := Int.mul_nonpos_of_nonneg_of_nonpos (by omega) ht
      omega
    rw [if_neg ht]
    obtain ⟨d1, d2, d3, d4⟩ := step_div k6 (show 0 < tokN xs by omega)
    obtain ⟨d, hd⟩ : ∃ d, d = (lenN p xs + tokN xs - 1).tdiv (tokN xs) := ⟨_, rfl⟩
    rw [← hd] at d1 d2 d3 d4 ⊢
    have hbelow : ∀ q, p ≤ q → q < p + d → Pos l q := fun q h1 h2 => pos_other k3 (p := p) (by
      have : (q - p) * tokN xs ≤ (d - 1) * tokN xs := Int.mul_le_mul_of_nonneg_right (by omega) (by omega)
      omega)
    obtain ⟨i1, i2⟩ := smL_spec hhi m (p + d) (by omega)
    constructor
    · intro r h
      obtain ⟨j1, j2, j3, j4, j5⟩ := i1 r h
      refine ⟨by omega, j2, j3, j4, fun q h1 h2 => ?_⟩
      by_cases hq : q < p + d
      · exact hbelow q h1 hq
      · exact j5 q (by omega) h2
    · intro h _ q h1 h2
      by_cases hq : q < p + d
      · exact hbelow q h1 hq
      · have hR : Ready n l (p + d) := ⟨hp.2.1, by
          have := hp.2.2
          unfold isPer at *
          omega⟩
        exact i2 h hR q (by omega) h2
end Go.Proofs.Ytfmlfekcdbfioaa
/-
  Cycle: Refutes; Smallest.
-/
namespace Go.Proofs.Ytfmlfekcdbfioaa
open Go

/-- a cycle refutes a period -/
def RefOk (n : Int) (l : List CArc) (p : Int) (c : List Int) : Prop := Ready n l p ∧ ∃ s t, exM p l c = some (s, t) ∧ 0 < s
open Classical in
noncomputable def M21 : PModel := fun args => match args with
  | [.int .i64 n, a, .int .i64 p, b] => match arcsOf a, intsOf b with
    | some l, some s => some (.bool (decide (RefOk n l p s)))
    | _, _ => none
  | _ => none
noncomputable def fs21 : List (FuncId × HModel) := [(25, pureFH 4 M25), (40, pureH 4 M40)]
@[simp] theorem fs21_25 : lookM fs21 25 = some (pureFH 4 M25) := rfl
@[simp] theorem fs21_40 : lookM fs21 40 = some (pureH 4 M40) := rfl
theorem sound21 : ∀ f M, lookM fs21 f = some M → FnSpecY Try.prog GC f M := lookM_cons (FnSpecY.of_pureF spec25F 4) (lookM_cons (FnSpecY.of_pure spec40 4) lookM_nil)
open Classical in
set_option maxRecDepth 100000 in
theorem spec21 : PureSpec Try.prog GC 21 M21 := by
  refine PureSpec.of_ev (E := envOf GC fs21) (envOf_sound sound21) rfl at21 comp21 1 ?_
  intro args r h
  unfold M21 at h
  split at h
  rotate_left
  · cases h
  rename_i n a p b
  split at h
  rotate_left
  · cases h
  rename_i l s hl hs
  injection h with h; subst h
  refine ⟨0, ?_⟩
  obtain ⟨hb, _, hsl⟩ := intsOf_some hs
  have f1 : ∀ A n, frz A n a = a := fun A n => arcsOf_frz hl A n
  have f2 : ∀ A n, frz A n b = b := fun A n => hb.frz n
  have f4 := intsOf_noRef hs
  have m1 : M25 [.int .i64 n, a, .int .i64 p] = some (if Ready n l p then .tup [webT n.toNat p l, .bool true] else .tup [.nilP, .bool false]) := by simp only [M25, hl, Option.map_some]
  rw [evP_run _ _ rfl]
  by_cases hr : Ready n l p
  rotate_left
  · rw [if_neg hr] at m1
    rw [decide_eq_false (show ¬ RefOk n l p s from fun h => hr h.1)]
    simp [mf21, f1, m1, frz_i, frz_b, -frz]
  rw [if_pos hr] at m1
  obtain ⟨m, rfl⟩ : ∃ m : Nat, n = (m : Int) := ⟨n.toNat, by have := hr.1.1; omega⟩
  rw [Int.toNat_natCast] at m1
  have m40 := M40_eq hr hb hsl
  obtain ⟨W1, O, hW⟩ : ∃ W1 O, webT m p l = .fp [.int .i64 (m : Int), W1, O] := ⟨_, _, rfl⟩
  rw [hW] at m1 m40
  have hfw : ∀ B, frz B 4 (.fp [.int .i64 (m : Int), W1, O]) = .fp [.int .i64 (m : Int), W1, O] := fun _ => rfl
  have hnr : noRefB 4 (.fp [.int .i64 (m : Int), W1, O]) = true := rfl
  cases he : exM p l s with
  | none =>
    rw [he] at m40
    rw [decide_eq_false (show ¬ RefOk m l p s from fun h => by
      obtain ⟨_, x, y, h, _⟩ := h
      rw [he] at h; cases h)]
    simp only [exT, Option.getD_none, Option.isSome_none] at m40
    simp [mf21, f1, f2, m1, m40, hfw, f4, frz_i, frz_b, -frz]
  | some st =>
    obtain ⟨x, y⟩ := st
    rw [he] at m40
    simp only [exT, Option.getD_some, Option.isSome_some] at m40
    have b1 : evBin .gtr (.int .i64 x) (.int .i64 0) = some (.bool (decide (x > 0))) := by simp [evBin]
    have e : decide (RefOk m l p s) = decide (x > 0) := by
      rw [Bool.eq_iff_iff, decide_eq_true_eq, decide_eq_true_eq]
      constructor
      · rintro ⟨_, a', b', h, h2⟩
        rw [he] at h
        injection h with h
        injection h with h h'
        omega
      · intro h
        exact ⟨hr, x, y, he, h⟩
    rw [e]
    obtain ⟨d, hd⟩ : ∃ d, d = decide (x > 0) := ⟨_, rfl⟩
    rw [← hd] at b1 ⊢
    simp [mf21, f1, f2, m1, m40, hfw, f4, b1, frz_i, frz_b, -frz, -evBin]

/-! ### Smallest -/
noncomputable def fs23 : List (FuncId × HModel) := [(25, pureFH 4 M25), (26, pureFH 4 M26), (27, pureH 4 M27), (40, pureH 4 M40), (41, pureH 4 M41)]
@[simp] theorem fs23_25 : lookM fs23 25 = some (pureFH 4 M25) := rfl
@[simp] theorem fs23_26 : lookM fs23 26 = some (pureFH 4 M26) := rfl
@[simp] theorem fs23_27 : lookM fs23 27 = some (pureH 4 M27) := rfl
@[simp] theorem fs23_40 : lookM fs23 40 = some (pureH 4 M40) := rfl
@[simp] theorem fs23_41 : lookM fs23 41 = some (pureH 4 M41) := rfl
theorem sound23 : ∀ f M, lookM fs23 f = some M → FnSpecY Try.prog GC f M := lookM_cons (FnSpecY.of_pureF spec25F 4) (lookM_cons (FnSpecY.of_pureF spec26F 4) (lookM_cons (FnSpecY.of_pure spec27 4) (lookM_cons (FnSpecY.of_pure spec40 4) (lookM_cons (FnSpecY.of_pure spec41 4) lookM_nil))))
def smT (r : Option Int) : AV := .tup [.int .i64 (r.getD 0), .bool r.isSome]
open Classical in
set_option maxRecDepth 100000 in
theorem loop23 (fuel : Nat) {a : AV} {l : List CArc} (ha : arcsOf a = some l) (n : Int) {hi : Int} (hhi : isPer hi) : ∀ (m : Nat) (p : Int), 0 < m → hi - p + 1 < m →
    match smL n.toNat l hi m p with
    | some q => ∃ v7 v8 v9 v10 v11 v12 v13 v14 v15 v16, iter (evC (envOf GC fs23) fuel lp23x0) mask23x0 m (st23x0 (.int .i64 n) a (.int .i64 hi) (.int .i64 p)) [] = some (.ret [.int .i64 n, a, .undef, .int .i64 hi, .int .i64 q, .bool true, .int .i64 q, v7, v8, v9, v10, v11, v12, v13, v14, v15, v16] [])
    | none => ∃ v6 v7 v8 v9 v10 v11 v12 v13 v14 v15 v16, iter (evC (envOf GC fs23) fuel lp23x0) mask23x0 m (st23x0 (.int .i64 n) a (.int .i64 hi) (.int .i64 p)) [] = some (.exit 0 [.int .i64 n, a, .undef, .int .i64 hi, .undef, .undef, v6, v7, v8, v9, v10, v11, v12, v13, v14, v15, v16] [])
  | 0, p, h0, hm => by omega
  | m + 1, p, h0, hm => by
    have f1 : ∀ A n, frz A n a = a := fun A n => arcsOf_frz ha A n
    have m1 : M25 [.int .i64 n, a, .int .i64 p] = some (if Ready n l p then .tup [webT n.toNat p l, .bool true] else .tup [.nilP, .bool false]) := by simp only [M25, ha, Option.map_some]
    have b1 : evBin .leq (.int .i64 p) (.int .i64 hi) = some (.bool (decide (p ≤ hi))) := by simp [evBin]
    unfold smL
    rw [iter_succ, cl23x0]
    by_cases hp : p ≤ hi
    rotate_left
    · rw [if_neg (fun h => hp h.1)]
      rw [decide_eq_false hp] at b1
      refine ⟨.int .i64 p, .undef, .undef, .undef, .undef, .undef, .undef, .bool false, .undef, .undef, .undef, ?_⟩
      simp [lp23x0, b1, -evBin]
    rw [decide_eq_true hp] at b1
    by_cases hr : Ready n l p
    rotate_left
    · rw [if_neg (fun h => hr (by
        have h2 := h.2
        have h3 := h2.1.1
        have : ((n.toNat : Nat) : Int) = n := by omega
        rw [this] at h2; exact h2))]
      rw [if_neg hr] at m1
      refine ⟨.int .i64 p, .nilP, .bool false, .undef, .undef, .undef, .undef, .bool true, .bool true, .undef, .undef, ?_⟩
      simp [lp23x0, b1, m1, f1, frz_i, -frz, -evBin]
    rw [if_pos hr] at m1
    obtain ⟨k, rfl⟩ : ∃ k : Nat, n = (k : Int) := ⟨n.toNat, by have := hr.1.1; omega⟩
    rw [Int.toNat_natCast] at m1 ⊢
    rw [if_pos ⟨hp, hr⟩]
    have m2 := M26_eq hr
    have m3 := M27_eq hr
    obtain ⟨W1, O, hW⟩ : ∃ W1 O, webT k p l = .fp [.int .i64 (k : Int), W1, O] := ⟨_, _, rfl⟩
    have hfw : ∀ B, frz B 4 (.fp [.int .i64 (k : Int), W1, O]) = .fp [.int .i64 (k : Int), W1, O] := fun _ => rfl
    have hnr : noRefB 4 (.fp [.int .i64 (k : Int), W1, O]) = true := rfl
    by_cases hok : (levels (lar p l) k).2 = true
    · rw [if_pos hok]
      rw [hok] at m2
      rw [hW] at m1 m2
      refine ⟨.fp [.int .i64 (k : Int), W1, O], .bool true, .bool true, .undef, .undef, .undef, .bool true, .bool false, .bool true, .undef, ?_⟩
      obtain ⟨S, hS⟩ : ∃ S, S = slA 1 (intsA (levels (lar p l) k).1) := ⟨_, rfl⟩
      rw [← hS] at m2
      simp [lp23x0, b1, m1, m2, f1, hfw, frz_i, -frz, -evBin]
    rw [if_neg hok]
    obtain ⟨res, u, xs, k1, k2, k3, k4, k5, k6, k7⟩ := cyc_of hr hok
    have hbd := lenN_bd (n := (k : Int)) (by have := hr.1.1; omega) hr.2 hr.1.2.2 k3
    have m4 := M40_eq hr (slA_holds 1 (intsA res)) (by rw [k2]; simp; omega)
    rw [k1, Option.getD_some] at m3
    rw [k7] at m4
    rw [k1, Option.getD_some, k7, Option.getD_some]
    simp only [exT, Option.getD_some, Option.isSome_some] at m4
    simp only
    rw [Bool.not_eq_true] at hok
    rw [hok] at m2
    rw [hW] at m1 m2 m3 m4
    obtain ⟨S, hS⟩ : ∃ S, S = slA 1 (intsA (levels (lar p l) k).1) := ⟨_, rfl⟩
    rw [← hS] at m2
    have hnc : ∀ n, noRefB n (slA 1 (intsA res)) = true := fun n => noRef_slA n 1 _
    have hfc : ∀ A n, frz A n (slA 1 (intsA res)) = slA 1 (intsA res) := fun A n => frz_slA A n 1 _
    obtain ⟨C, hC⟩ : ∃ C, C = slA 1 (intsA res) := ⟨_, rfl⟩
    rw [← hC] at m3 m4 hnc hfc
    obtain ⟨s, hs⟩ : ∃ s, s = lenN p xs := ⟨_, rfl⟩
    obtain ⟨t, ht⟩ : ∃ t, t = tokN xs := ⟨_, rfl⟩
    rw [← hs, ← ht] at m4 hbd ⊢
    rw [← hs] at k6
    have b2 : evBin .leq (.int .i64 t) (.int .i64 0) = some (.bool (decide (t ≤ 0))) := by simp [evBin]
    by_cases ht0 : t ≤ 0
    · rw [if_pos ht0]
      rw [decide_eq_true ht0] at b2
      refine ⟨.int .i64 p, .fp [.int .i64 (k : Int), W1, O], .bool true, .bool false, .int .i64 s, .int .i64 t, .undef, .bool true, .bool false, .bool false, .bool true, ?_⟩
      simp [lp23x0, b1, b2, m1, m2, m3, m4, f1, hfw, hnc, hfc, frz_i, -frz, -evBin]
    rw [if_neg ht0]
    rw [decide_eq_false ht0] at b2
    obtain ⟨d1, d2, d3, d4⟩ := step_div k6 (show 0 < t by omega)
    have hper := hr.2
    unfold isPer at hper hhi
    have b3 : evBin .add (.int .i64 s) (.int .i64 t) = some (.int .i64 (s + t)) := by
      simp only [evBin]; rw [if_pos trivial, wrapI (by unfold inI; omega)]
    have b4 : evBin .sub (.int .i64 (s + t)) (.int .i64 1) = some (.int .i64 (s + t - 1)) := by
      simp only [evBin]; rw [if_pos trivial, wrapI (by unfold inI; omega)]
    have b5 : evBin .quo (.int .i64 (s + t - 1)) (.int .i64 t) = some (.int .i64 ((s + t - 1).tdiv t)) := by
      simp only [evBin]; rw [if_pos trivial, if_neg (show ¬ t = 0 by omega), wrapI (by unfold inI; omega)]
    obtain ⟨d, hd⟩ : ∃ d, d = (s + t - 1).tdiv t := ⟨_, rfl⟩
    rw [← hd] at b5 d1 d2 ⊢
    have b6 : evBin .add (.int .i64 p) (.int .i64 d) = some (.int .i64 (p + d)) := by
      simp only [evBin]; rw [if_pos trivial, wrapI (by unfold inI; omega)]
    have ih := loop23 fuel ha (k : Int) hhi m (p + d) (by omega) (by omega)
    rw [Int.toNat_natCast] at ih
    obtain ⟨p2, hp2⟩ : ∃ p2, p2 = p + d := ⟨_, rfl⟩
    rw [← hp2] at b6 ih ⊢
    obtain ⟨st, hst⟩ : ∃ st, st = s + t := ⟨_, rfl⟩
    rw [← hst] at b3 b4 b5
    obtain ⟨st1, hst1⟩ : ∃ st1, st1 = st - 1 := ⟨_, rfl⟩
    rw [← hst1] at b4 b5
    have hrun : run (envOf GC fs23) fuel [.code lp23x0] (st23x0 (.int .i64 (k : Int)) a (.int .i64 hi) (.int .i64 p)) [] = some (.normal (st23x0 (.int .i64 (k : Int)) a (.int .i64 hi) (.int .i64 p2)) []) := by
      simp [lp23x0, b1, b2, b3, b4, b5, b6, m1, m2, m3, m4, f1, hfw, hnc, hfc, frz_i, -frz, -evBin]
    rw [hrun]
    exact ih
noncomputable def M23 : PModel := fun args => match args with
  | [.int .i64 n, a, .int .i64 lo, .int .i64 hi] => (arcsOf a).map fun l => smT (smM n l lo hi)
  | _ => none
set_option maxRecDepth 100000 in
theorem spec23 : PureSpec Try.prog GC 23 M23 := by
  refine PureSpec.of_ev (E := envOf GC fs23) (envOf_sound sound23) rfl at23 comp23 5 ?_
  intro args r h
  unfold M23 at h
  split at h
  rotate_left
  · cases h
  rename_i n a lo hi
  simp only [Option.map_eq_some_iff] at h
  obtain ⟨l, hl, rfl⟩ := h
  obtain ⟨m, hm⟩ : ∃ m, m = (hi - lo + 2).toNat + 1 := ⟨_, rfl⟩
  have m1 : M41 [.int .i64 hi] = some (.bool (decide (isPer hi))) := rfl
  by_cases hp : isPer hi
  rotate_left
  · refine ⟨0, ?_⟩
    rw [decide_eq_false hp] at m1
    rw [show smM n l lo hi = none from if_neg hp]
    rw [evP_run _ _ rfl]
    simp [mf23, m1, smT]
  rw [decide_eq_true hp] at m1
  rw [show smM n l lo hi = smL n.toNat l hi (hi - lo + 2).toNat lo from if_pos hp]
  by_cases hz : (hi - lo + 2).toNat = 0
  · -- nothing is in between
    refine ⟨1, ?_⟩
    rw [hz]
    have b1 : evBin .leq (.int .i64 lo) (.int .i64 hi) = some (.bool false) := by simp [evBin]; omega
    have lp : iter (evC (envOf GC fs23) 1 lp23x0) mask23x0 1 (st23x0 (.int .i64 n) a (.int .i64 hi) (.int .i64 lo)) [] = some (.exit 0 [.int .i64 n, a, .undef, .int .i64 hi, .undef, .undef, .int .i64 lo, .undef, .undef, .undef, .undef, .undef, .undef, .bool false, .undef, .undef, .undef] []) := by
      rw [iter_succ, cl23x0]
      simp [lp23x0, b1, -evBin]
    rw [evP_run _ _ rfl]
    simp [mf23, m1, go23x0 lp, smL, smT]
  · obtain ⟨F, hF⟩ : ∃ F, F = (hi - lo + 2).toNat := ⟨_, rfl⟩
    have hl23 := loop23 F hl n hp F lo (by omega) (by omega)
    refine ⟨F, ?_⟩
    rw [← hF]
    rw [evP_run _ _ rfl]
    cases hs : smL n.toNat l hi F lo with
    | none =>
      rw [hs] at hl23
      obtain ⟨v6, v7, v8, v9, v10, v11, v12, v13, v14, v15, v16, lp⟩ := hl23
      simp [mf23, m1, go23x0 lp, smT]
    | some q =>
      rw [hs] at hl23
      obtain ⟨v7, v8, v9, v10, v11, v12, v13, v14, v15, v16, lp⟩ := hl23
      simp [mf23, m1, go23x0 lp, smT]
end Go.Proofs.Ytfmlfekcdbfioaa
/-
  Cycle: arcs that integers determine.
-/
namespace Go.Proofs.Ytfmlfekcdbfioaa
open Go

abbrev R4 := Int × Int × Int × Int
def r4A (x : R4) : AV := .agg [.int .i64 x.1, .int .i64 x.2.1, .int .i64 x.2.2.1, .int .i64 x.2.2.2]
def R4.inR (x : R4) : Prop := inI x.1 ∧ inI x.2.1 ∧ inI x.2.2.1 ∧ inI x.2.2.2
open Classical in
noncomputable def r4Of : AV → Option R4
  | .agg [.int .i64 f, .int .i64 t, .int .i64 w, .int .i64 k] => if R4.inR (f, t, w, k) then some (f, t, w, k) else none
  | _ => none
theorem r4Of_some {x : AV} {a : R4} (h : r4Of x = some a) : x = r4A a ∧ R4.inR a := by
  unfold r4Of at h
  split at h
  · simp only [Option.ite_none_right_eq_some, Option.some.injEq] at h
    obtain ⟨h1, rfl⟩ := h
    exact ⟨rfl, h1⟩
  · cases h
noncomputable def r4sOf (a : AV) : Option (List R4) := listN 4 r4Of a
theorem r4sOf_some {a : AV} {l : List R4} (h : r4sOf a = some l) : SlA 4 (l.map r4A) a ∧ l.length ≤ 9223372036854775807 ∧ ∀ x ∈ l, R4.inR x := by
  unfold r4sOf listN at h
  split at h
  · injection h with h; subst h
    exact ⟨.inl ⟨rfl, rfl⟩, by simp, by simp⟩
  · rename_i s' es
    simp only [Option.ite_none_right_eq_some] at h
    obtain ⟨⟨rfl, hl⟩, h⟩ := h
    obtain ⟨h1, h2⟩ := allOf_some h
    have e : es = l.map r4A := List.ext_getElem (by simpa using h1) fun i k1 k2 => by
      rw [(r4Of_some (h2 i k1 (by omega))).1]; simp
    subst e
    refine ⟨.inr rfl, by simpa using hl, fun x hx => ?_⟩
    obtain ⟨i, hi, rfl⟩ := List.mem_iff_getElem.1 hx
    have := h2 i (by simpa using hi) hi
    exact (r4Of_some this).2
  · cases h
/-- the arc that four integers determine -/
def arcD (n : Int) (plain : Bool) (x : R4) : CArc := ⟨pick x.1 n, pick x.2.1 n, if plain then pick x.2.2.1 41 else pick x.2.2.1 61 - 20, if plain then pick x.2.2.2 2 else pick x.2.2.2 4 - 1⟩
def arcsD (l : List R4) (n : Int) (plain : Bool) : List CArc := (l.take 20).map (arcD n plain)
theorem arcD_ok {n : Int} (hn : 1 ≤ n) (plain : Bool) (x : R4) : okA n (arcD n plain x) := by
  have h1 := pick_range x.1 n (by omega)
  have h2 := pick_range x.2.1 n (by omega)
  have h3 := pick_range x.2.2.1 41 (by omega)
  have h4 := pick_range x.2.2.1 61 (by omega)
  have h5 := pick_range x.2.2.2 2 (by omega)
  have h6 := pick_range x.2.2.2 4 (by omega)
  unfold okA arcD
  simp only
  cases plain <;> simp only [if_true, Bool.false_eq_true, if_false] <;> omega
theorem arcsD_valid {n : Int} (hn : 1 ≤ n ∧ n ≤ 32) (l : List R4) (plain : Bool) : ValidA n (arcsD l n plain) := by
  refine ⟨hn, ?_, fun a ha => ?_⟩
  · simp [arcsD]; omega
  · obtain ⟨x, _, rfl⟩ := List.mem_map.1 ha
    exact arcD_ok hn.1 plain x
theorem okA_in {n : Int} (hn : n ≤ 32) {a : CArc} (h : okA n a) : a.inR := by
  obtain ⟨h1, h2, h3, h4⟩ := h
  exact ⟨by unfold inI; omega, by unfold inI; omega, by unfold inI; omega, by unfold inI; omega⟩

/-! ### slots, of whatever size -/
def SlotG (sz : Nat) (A : Arena) (s : AV) (xs : List AV) : Prop := (s = .nilS ∧ xs = []) ∨ ∃ id gr, s = .sl id 0 xs.length ∧ xs ≠ [] ∧ A[id]? = some (.row sz gr xs)
section
variable {sz : Nat} {A B : Arena} {s : AV} {xs : List AV}
theorem SlotG.keep (h : SlotG sz A s xs) (hAB : ∀ id, id ∈ idsOf s → B[id]? = A[id]?) : SlotG sz B s xs := by
  rcases h with h | ⟨id, gr, rfl, h1, h3⟩
  · exact .inl h
  · exact .inr ⟨id, gr, rfl, h1, by rw [hAB id (by simp [idsOf]), h3]⟩
theorem SlotG.low (h : SlotG sz A s xs) : ∀ id, id ∈ idsOf s → id < A.length := by
  rcases h with ⟨rfl, _⟩ | ⟨id, gr, rfl, h1, h3⟩
  · intro id h; simp [idsOf] at h
  · intro j hj
    simp only [idsOf, List.mem_singleton] at hj
    subst hj
    exact (List.getElem?_eq_some_iff.1 h3).1
theorem SlotG.form2 (h : SlotG sz A s xs) : s = .nilS ∨ ∃ i k, s = .sl i 0 k := by
  rcases h with ⟨rfl, _⟩ | ⟨id, gr, rfl, _⟩
  · exact .inl rfl
  · exact .inr ⟨_, _, rfl⟩
theorem SlotG.append {bytes : Nat} (h : SlotG sz A s xs) (x : AV) (hz : 0 < sz) (hb : 0 < bytes ∧ bytes ≤ 1000) (hl : xs.length ≤ 1000) :
    ∃ s' k A', evAppend sz bytes A s (.fs sz [x]) = some (.sl s' 0 k, A') ∧ SlotG sz A' (.sl s' 0 k) (xs ++ [x]) ∧ A.length ≤ A'.length ∧ (∀ j, j < A.length → j ∉ idsOf s → A'[j]? = A[j]?) ∧ (s' ∈ idsOf s ∨ s' = A.length) := by
  rcases h with ⟨rfl, rfl⟩ | ⟨id, gr, rfl, h1, h3⟩
  · refine ⟨A.length, 1, A ++ [.row sz false [x]], ?_, .inr ⟨A.length, false, rfl, by simp, by simp⟩, by simp, fun j hj _ => by rw [List.getElem?_append_left hj], .inr rfl⟩
    simp [evAppend, srcElems, hz, hb.1]; omega
  · have hid := (List.getElem?_eq_some_iff.1 h3).1
    have hm : (xs.length + 1) * bytes ≤ 1001 * 1000 := Nat.mul_le_mul (by omega) hb.2
    refine ⟨id, (xs ++ [x]).length, A.set id (.row sz true (xs ++ [x])), ?_, .inr ⟨id, true, rfl, by simp, by simp [hid]⟩, by simp, fun j hj hn => ?_, .inl (by simp [idsOf])⟩
    · simp only [evAppend, srcElems, h3]
      simp [h1, hz, hb.1]
      omega
    · rw [List.getElem?_set_ne (fun e => hn (by simp [idsOf, e]))]
theorem SlotG.frz (h : SlotG sz A s xs) (n : Nat) (hx : ∀ x ∈ xs, Proofs.Ytfmlfekcdbfioaa.frz A n x = x) : Proofs.Ytfmlfekcdbfioaa.frz A (n + 1) s = slA sz xs := by
  have e : xs.map (Proofs.Ytfmlfekcdbfioaa.frz A n) = xs := by
    conv => rhs; rw [← List.map_id xs]
    exact List.map_congr_left hx
  rcases h with ⟨rfl, rfl⟩ | ⟨id, gr, rfl, h1, h3⟩
  · rfl
  · simp only [Proofs.Ytfmlfekcdbfioaa.frz, h3, List.drop_zero]
    rw [List.take_of_length_le (Nat.le_refl _), e]
    cases xs with
    | nil => exact absurd rfl h1
    | cons y r => rfl
theorem SlotG.fresh (h : SlotG sz A s xs) (n : Nat) (hx : ∀ x ∈ xs, freshB A n x = true) : freshB A (n + 1) s = true := by
  rcases h with ⟨rfl, rfl⟩ | ⟨id, gr, rfl, h1, h3⟩
  · rfl
  · simp only [freshB, h3, List.drop_zero]
    rw [List.take_of_length_le (Nat.le_refl _), List.all_eq_true]
    exact hx
end

/-! ### arcs -/
noncomputable def fs13 : List (FuncId × HModel) := [(12, pureH 4 M12)]
@[simp] theorem fs13_12 : lookM fs13 12 = some (pureH 4 M12) := rfl
theorem sound13 : ∀ f M, lookM fs13 f = some M → FnSpecY Try.prog GC f M := lookM_cons (FnSpecY.of_pure spec12 4) lookM_nil
def R13a : MC := .regionD [12] [⟨none, .mv (.var 0), none⟩, ⟨none, .mv (.var 5), none⟩, ⟨none, .indexSl 4 (.tmp 0) (.tmp 1), none⟩, ⟨none, .indexArr 4 1 (.tmp 2) (.cst (.int .i64 0)), none⟩, ⟨none, .load false 1 (.tmp 3), none⟩, ⟨none, .mv (.var 1), none⟩, ⟨none, .call (.fn 12) [.tmp 4, .tmp 5], none⟩, ⟨none, .mv (.var 0), none⟩, ⟨none, .mv (.var 5), none⟩, ⟨none, .indexSl 4 (.tmp 7) (.tmp 8), none⟩, ⟨none, .indexArr 4 1 (.tmp 9) (.cst (.int .i64 1)), none⟩, ⟨none, .load false 1 (.tmp 10), none⟩, ⟨none, .mv (.var 1), none⟩, ⟨none, .call (.fn 12) [.tmp 11, .tmp 12], none⟩, ⟨none, .mv (.var 0), none⟩, ⟨none, .mv (.var 5), none⟩, ⟨none, .indexSl 4 (.tmp 14) (.tmp 15), none⟩, ⟨none, .indexArr 4 1 (.tmp 16) (.cst (.int .i64 2)), none⟩, ⟨none, .load false 1 (.tmp 17), none⟩, ⟨none, .call (.fn 12) [.tmp 18, .cst (.int .i64 61)], none⟩, ⟨none, .bin .sub (.tmp 19) (.cst (.int .i64 20)), none⟩, ⟨none, .mv (.var 0), none⟩, ⟨none, .mv (.var 5), none⟩, ⟨none, .indexSl 4 (.tmp 21) (.tmp 22), none⟩, ⟨none, .indexArr 4 1 (.tmp 23) (.cst (.int .i64 3)), none⟩, ⟨none, .load false 1 (.tmp 24), none⟩, ⟨none, .call (.fn 12) [.tmp 25, .cst (.int .i64 4)], none⟩, ⟨none, .bin .sub (.tmp 26) (.cst (.int .i64 1)), none⟩, ⟨none, .build [.int .i64 0, .int .i64 0, .int .i64 0, .int .i64 0] [(0, (1, .tmp 6)), (1, (1, .tmp 13)), (2, (1, .tmp 20)), (3, (1, .tmp 27))], none⟩, ⟨some 6, .alloc 4 (.agg [.int .i64 0, .int .i64 0, .int .i64 0, .int .i64 0]), none⟩, ⟨none, .store 4 (.var 6) (.tmp 28), none⟩] [(2, 29), (3, 29), (4, 29), (6, 29), (9, 29), (10, 29), (11, 29), (13, 29), (16, 29), (17, 29), (18, 29), (19, 29), (23, 29), (24, 29), (25, 29), (26, 29)]
def R13b : MC := .region [⟨some 8, .mv (.var 2), none⟩]
def R13c : MC := .region [⟨none, .mv (.var 0), none⟩, ⟨none, .mv (.var 5), none⟩, ⟨none, .indexSl 4 (.tmp 0) (.tmp 1), none⟩, ⟨none, .indexArr 4 1 (.tmp 2) (.cst (.int .i64 2)), none⟩, ⟨none, .load false 1 (.tmp 3), none⟩, ⟨none, .call (.fn 12) [.tmp 4, .cst (.int .i64 41)], none⟩, ⟨none, .fieldAddr 2 (.var 6), none⟩, ⟨none, .store 1 (.tmp 6) (.tmp 5), none⟩]
def R13d : MC := .region [⟨none, .mv (.var 0), none⟩, ⟨none, .mv (.var 5), none⟩, ⟨none, .indexSl 4 (.tmp 0) (.tmp 1), none⟩, ⟨none, .indexArr 4 1 (.tmp 2) (.cst (.int .i64 3)), none⟩, ⟨none, .load false 1 (.tmp 3), none⟩, ⟨none, .call (.fn 12) [.tmp 4, .cst (.int .i64 2)], none⟩, ⟨none, .fieldAddr 3 (.var 6), none⟩, ⟨none, .store 1 (.tmp 6) (.tmp 5), none⟩]
def R13e : MC := .region [⟨none, .mv (.var 4), none⟩, ⟨none, .load true 4 (.var 6), none⟩, ⟨none, .buildF 4 [.tmp 1], none⟩, ⟨none, .append 4 32 (.tmp 0) (.tmp 2), none⟩, ⟨some 4, .mv (.tmp 3), none⟩]
def R13f : MC := .region [⟨none, .mv (.var 5), none⟩, ⟨none, .bin .add (.tmp 0) (.cst (.int .i64 1)), none⟩, ⟨some 5, .mv (.tmp 1), none⟩]
theorem R13_eq : lp13x0 = .seq (.seq (.region [⟨none, .mv (.var 5), none⟩, ⟨none, .mv (.var 0), none⟩, ⟨none, .lenSl (.tmp 1), none⟩, ⟨none, .bin .lss (.tmp 0) (.tmp 2), none⟩, ⟨none, .mv (.tmp 3), none⟩, ⟨none, .mv (.var 5), some (.tmp 4, true)⟩, ⟨none, .bin .lss (.tmp 5) (.cst (.int .i64 20)), some (.tmp 4, true)⟩, ⟨some 7, .pick (.tmp 4) (.tmp 6) (.cst (.bool false)), none⟩]) (.cond (.var 7) .skip (.exit 0))) (.seq (.seq (.block 1 (.seq R13a (.seq (.seq R13b (.cond (.var 8) (.seq R13c R13d) .skip)) R13e))) (.kill [3, 6, 7, 8])) R13f) := rfl
set_option maxRecDepth 100000 in
theorem r13 (fuel : Nat) {A : Arena} {x : AV} {l : List R4} (hx : r4sOf x = some l) {n : Int} (hn : 1 ≤ n) (plain : Bool) {i : Nat} (hi : i < l.length) (v4 v7 : AV) :
    ∃ A', A'[A.length]? = some (.row 4 false [arcA (arcD n plain l[i])]) ∧ A.length < A'.length ∧ (∀ j, j < A.length → A'[j]? = A[j]?) ∧ ∀ (K : List KC) (X : MC), run (envOf GC fs13) fuel (.code (.seq R13a (.seq (.seq R13b (.cond (.var 8) (.seq R13c R13d) .skip)) X)) :: K) [x, .int .i64 n, .bool plain, .undef, v4, .int .i64 (i : Int), .undef, v7, .undef] A =
      run (envOf GC fs13) fuel (.code X :: K) [x, .int .i64 n, .bool plain, .undef, v4, .int .i64 (i : Int), .ptr A.length 0 0, v7, .bool plain] A' := by
  obtain ⟨hs, hl, hr⟩ := r4sOf_some hx
  obtain ⟨q1, q2, q3, q4⟩ := hr _ (List.getElem_mem hi)
  have x1 : ∀ A, evIndexSl 4 A x (.int .i64 (i : Int)) = some (.fp [.int .i64 l[i].1, .int .i64 l[i].2.1, .int .i64 l[i].2.2.1, .int .i64 l[i].2.2.2]) := fun A =>
    hs.index (A := A) (x := r4A l[i]) (by simp [hi]) rfl (by omega) .i64
  have hfs : x = .fs 4 (l.map r4A) := by
    rcases hs with ⟨_, h⟩ | h
    · have : l = [] := by simpa using h
      subst this; simp at hi
    · exact h
  obtain ⟨es, hes⟩ : ∃ es, es = l.map r4A := ⟨_, rfl⟩
  rw [hfs, ← hes] at x1 ⊢
  have p61 := pick_range l[i].2.2.1 61 (by omega)
  have p4 := pick_range l[i].2.2.2 4 (by omega)
  have m1 := M12_eq q1 (show 0 < n by omega)
  have m2 := M12_eq q2 (show 0 < n by omega)
  have m3 := M12_eq q3 (show (0 : Int) < 61 by omega)
  have m4 := M12_eq q4 (show (0 : Int) < 4 by omega)
  have m5 := M12_eq q3 (show (0 : Int) < 41 by omega)
  have m6 := M12_eq q4 (show (0 : Int) < 2 by omega)
  have b1 : evBin .sub (.int .i64 (pick l[i].2.2.1 61)) (.int .i64 20) = some (.int .i64 (pick l[i].2.2.1 61 - 20)) := by
    simp only [evBin]; rw [if_pos trivial, wrapI (by unfold inI; omega)]
  have b2 : evBin .sub (.int .i64 (pick l[i].2.2.2 4)) (.int .i64 1) = some (.int .i64 (pick l[i].2.2.2 4 - 1)) := by
    simp only [evBin]; rw [if_pos trivial, wrapI (by unfold inI; omega)]
  unfold arcA arcD
  simp only
  obtain ⟨y1, hy1⟩ : ∃ y, y = pick l[i].1 n := ⟨_, rfl⟩
  obtain ⟨y2, hy2⟩ : ∃ y, y = pick l[i].2.1 n := ⟨_, rfl⟩
  obtain ⟨y3, hy3⟩ : ∃ y, y = pick l[i].2.2.1 61 := ⟨_, rfl⟩
  obtain ⟨y4, hy4⟩ : ∃ y, y = pick l[i].2.2.2 4 := ⟨_, rfl⟩
  obtain ⟨y5, hy5⟩ : ∃ y, y = pick l[i].2.2.1 41 := ⟨_, rfl⟩
  obtain ⟨y6, hy6⟩ : ∃ y, y = pick l[i].2.2.2 2 := ⟨_, rfl⟩
  rw [← hy1] at m1 ⊢
  rw [← hy2] at m2 ⊢
  rw [← hy3] at m3 b1 ⊢
  rw [← hy4] at m4 b2 ⊢
  rw [← hy5] at m5 ⊢
  rw [← hy6] at m6 ⊢
  obtain ⟨z1, hz1⟩ : ∃ z, z = y3 - 20 := ⟨_, rfl⟩
  obtain ⟨z2, hz2⟩ : ∃ z, z = y4 - 1 := ⟨_, rfl⟩
  rw [← hz1] at b1 ⊢
  rw [← hz2] at b2 ⊢
  cases plain with
  | false =>
    refine ⟨A ++ [.row 4 false [.agg [.int .i64 y1, .int .i64 y2, .int .i64 z1, .int .i64 z2]]], by simp, by simp, fun j hj => by rw [List.getElem?_append_left hj], fun K X => ?_⟩
    simp [R13a, R13b, x1, evIndexArr, m1, m2, m3, m4, b1, b2, -evBin, -evIndexSl]
  | true =>
    refine ⟨A ++ [.row 4 false [.agg [.int .i64 y1, .int .i64 y2, .int .i64 y5, .int .i64 y6]]], by simp, by simp, fun j hj => by rw [List.getElem?_append_left hj], fun K X => ?_⟩
    simp [R13a, R13b, R13c, R13d, x1, evIndexArr, m1, m2, m3, m4, m5, m6, b1, b2, -evBin, -evIndexSl]
/-- the arena of arcs, behind i rounds -/
def DInv (l : List R4) (n : Int) (plain : Bool) (i : Nat) (v4 : AV) (A : Arena) : Prop := SlotG 4 A v4 (((l.take i).map (arcD n plain)).map arcA)
set_option maxRecDepth 100000 in
theorem round13 (fuel : Nat) {A : Arena} {x : AV} {l : List R4} (hx : r4sOf x = some l) {n : Int} (hn : 1 ≤ n) (plain : Bool) {i : Nat} (hi : i < l.length) (hi20 : i < 20) {v4 : AV} (hI : DInv l n plain i v4 A) :
    ∃ A' v4', run (envOf GC fs13) fuel [.code lp13x0] (st13x0 x (.int .i64 n) (.bool plain) v4 (.int .i64 (i : Int))) A = some (.normal (st13x0 x (.int .i64 n) (.bool plain) v4' (.int .i64 ((i + 1 : Nat) : Int))) A') ∧ DInv l n plain (i + 1) v4' A' := by
  obtain ⟨hs, hl, hr⟩ := r4sOf_some hx
  have hlen := hs.len
  have hlen' : (l.map r4A).length = l.length := by simp
  rw [hlen'] at hlen
  obtain ⟨B, hB1, hB2, hB3, hB4⟩ := r13 fuel (A := A) hx hn plain hi v4 (.bool true)
  have hlow := SlotG.low hI
  have hIB : SlotG 4 B v4 (((l.take i).map (arcD n plain)).map arcA) := hI.keep fun j hj => hB3 j (hlow j hj)
  obtain ⟨s', k, C, ap, c1, c2, c3, c4⟩ := hIB.append (bytes := 32) (arcA (arcD n plain l[i])) (by omega) (by omega) (by simp; omega)
  refine ⟨C, .sl s' 0 k, ?_, ?_⟩
  · have b1 := lt_nat i l.length .i64
    rw [decide_eq_true hi] at b1
    have b2 : evBin .lss (.int .i64 (i : Int)) (.int .i64 20) = some (.bool true) := by simp [evBin]; omega
    have b3 := add1_nat i (by omega)
    obtain ⟨i1, hi1⟩ : ∃ i1 : Nat, i1 = i + 1 := ⟨_, rfl⟩
    rw [← hi1] at b3 ⊢
    obtain ⟨vid, hvid⟩ : ∃ vid, vid = A.length := ⟨_, rfl⟩
    rw [← hvid] at hB1 hB4
    unfold arcA at hB1 ap
    rw [R13_eq]
    simp [hlen, b1, b2, b3, hB4, R13e, R13f, hB1, ap, -evBin, -evLenSl]
  · unfold DInv
    rw [List.take_succ_eq_append_getElem hi, List.map_append, List.map_append]
    exact c1
noncomputable def M13 : PModel := fun args => match args with
  | [x, .int .i64 n, .bool plain] => if 1 ≤ n then (r4sOf x).map fun l => slA 4 ((arcsD l n plain).map arcA) else none
  | _ => none
set_option maxRecDepth 100000 in
theorem spec13F : PureSpecF Try.prog GC 13 M13 := by
  refine PureSpecF.of_ev (E := envOf GC fs13) (envOf_sound sound13) rfl at13 comp13 5 ?_
  intro args r h
  unfold M13 at h
  split at h
  rotate_left
  · cases h
  rename_i x n plain
  simp only [Option.ite_none_right_eq_some, Option.map_eq_some_iff] at h
  obtain ⟨hn, l, hl, rfl⟩ := h
  refine ⟨30, ?_⟩
  obtain ⟨hs, hm, hr⟩ := r4sOf_some hl
  have hlen := hs.len
  have hlen' : (l.map r4A).length = l.length := by simp
  rw [hlen'] at hlen
  obtain ⟨o, lp, A', v4, d7, hI, rfl⟩ := iter_inv (E := envOf GC fs13) (fuel := 30) (a := lp13x0) (mask := mask13x0)
    (fun κ σ A => ∃ i v4, i + κ = min l.length 20 ∧ σ = st13x0 x (.int .i64 n) (.bool plain) v4 (.int .i64 (i : Int)) ∧ DInv l n plain i v4 A)
    (fun o => ∃ A' v4 d7, DInv l n plain (min l.length 20) v4 A' ∧ o = .exit 0 [x, .int .i64 n, .bool plain, .undef, v4, .int .i64 ((min l.length 20 : Nat) : Int), .undef, d7, .undef] A')
    (by
      rintro κ σ A ⟨i, v4, hik, rfl, hI⟩
      rw [cl13x0]
      by_cases hi : i < min l.length 20
      · obtain ⟨A', v4', c1, c2⟩ := round13 30 hl hn plain (show i < l.length by omega) (show i < 20 by omega) hI
        exact .inl ⟨_, _, c1, κ - 1, by omega, i + 1, v4', by omega, rfl, c2⟩
      · obtain rfl : i = min l.length 20 := by omega
        obtain ⟨q, hq⟩ : ∃ q, q = min l.length 20 := ⟨_, rfl⟩
        rw [← hq] at hI ⊢
        have b1 := lt_nat q l.length .i64
        by_cases hql : q < l.length
        · rw [decide_eq_true hql] at b1
          have b2 : evBin .lss (.int .i64 (q : Int)) (.int .i64 20) = some (.bool false) := by simp [evBin]; omega
          refine .inr ⟨_, ?_, ?_, A, v4, .bool false, hI, rfl⟩
          · simp [lp13x0, hlen, b1, b2, -evBin, -evLenSl]
          · intro _ _ h; cases h
        · rw [decide_eq_false hql] at b1
          refine .inr ⟨_, ?_, ?_, A, v4, .bool false, hI, rfl⟩
          · simp [lp13x0, hlen, b1, -evBin, -evLenSl]
          · intro _ _ h; cases h)
    30 (min l.length 20) (st13x0 x (.int .i64 n) (.bool plain) .nilS (.int .i64 0)) [] (by omega) ⟨0, .nilS, by omega, rfl, .inl ⟨rfl, by simp⟩⟩
  have hI' : SlotG 4 A' v4 ((arcsD l n plain).map arcA) := by
    unfold DInv at hI
    have e : l.take (min l.length 20) = l.take 20 := by rw [List.take_eq_take_iff]; omega
    rw [e] at hI; exact hI
  have z1 := hI'.frz 4 (fun x hx => by obtain ⟨y, _, rfl⟩ := List.mem_map.1 hx; rfl)
  have z2 := hI'.fresh 4 (fun x hx => by obtain ⟨y, _, rfl⟩ := List.mem_map.1 hx; rfl)
  have p1 : pack [v4] = v4 := rfl
  rw [evF_run _ _ rfl]
  simp [mf13, go13x0 lp, z1, z2, -frz]
end Go.Proofs.Ytfmlfekcdbfioaa
/-
  Cycle: the fixed examples.
-/
namespace Go.Proofs.Ytfmlfekcdbfioaa
open Go

def ex2 : List CArc := [⟨0, 1, 30, 0⟩, ⟨1, 0, 20, 1⟩]
def ex3 : List CArc := [⟨0, 1, 30, 0⟩, ⟨1, 0, 20, 1⟩, ⟨0, 1, 10, -1⟩]
theorem val_2 : ValidA 2 ex2 := ⟨by decide, by decide, by decide⟩
theorem val_3 : ValidA 2 ex3 := ⟨by decide, by decide, by decide⟩
theorem val_1 : ¬ ValidA 1 ex2 := fun h => absurd h.2.2 (by decide)
theorem r2_50 : Ready 2 ex2 50 := ⟨val_2, by decide⟩
theorem r2_49 : Ready 2 ex2 49 := ⟨val_2, by decide⟩
theorem r3_60 : Ready 2 ex3 60 := ⟨val_3, by decide⟩
theorem lv_50 : lvM 2 ex2 50 = ([0, 30], [], true) := by
  have h1 : levels (lar 50 ex2) 2 = ([0, 30], true) := by decide +kernel
  unfold lvM
  rw [if_pos r2_50, show (2 : Int).toNat = 2 from rfl, h1, if_pos rfl]
theorem lv_49 : lvM 2 ex2 49 = ([], [0, 1], false) := by
  have h1 : (levels (lar 49 ex2) 2).2 = false := by decide +kernel
  have h2 : cycM 49 ex2 2 = some [0, 1] := by decide +kernel
  unfold lvM
  rw [if_pos r2_49, show (2 : Int).toNat = 2 from rfl, if_neg (by rw [h1]; simp), h2]; rfl
theorem lv_60 : lvM 2 ex3 60 = ([], [1, 2], false) := by
  have h1 : (levels (lar 60 ex3) 2).2 = false := by decide +kernel
  have h2 : cycM 60 ex3 2 = some [1, 2] := by decide +kernel
  unfold lvM
  rw [if_pos r3_60, show (2 : Int).toNat = 2 from rfl, if_neg (by rw [h1]; simp), h2]; rfl
theorem pos_50 {q : Int} (hq : q < 50) : Pos ex2 q := by
  refine ⟨0, [(⟨0, 1, 30, 0⟩, 0), (⟨1, 0, 20, 1⟩, 1)], ⟨?_, rfl, ?_, rfl, rfl⟩, ?_⟩
  · exact List.mem_of_getElem? (num_get ex2 0 (by decide))
  · exact List.mem_of_getElem? (num_get ex2 1 (by decide))
  · simp [lenN, CArc.len]; omega
theorem not_pos_50 : ¬ Pos ex2 50 := (lev_iff (n := 2) r2_50).1 (by decide +kernel)
theorem sm_1000 : smM 2 ex2 0 1000 = some 50 := by
  have hp : isPer 1000 := by decide
  have e : smM 2 ex2 0 1000 = smL 2 ex2 1000 1002 0 := if_pos hp
  rw [e]
  obtain ⟨h1, h2⟩ := smL_spec (n := 2) (l := ex2) hp 1002 0 (by omega)
  cases hs : smL 2 ex2 1000 1002 0 with
  | none => exact absurd (h2 hs ⟨val_2, by decide⟩ 50 (by omega) (by omega)) not_pos_50
  | some r =>
    obtain ⟨k1, k2, k3, k4, k5⟩ := h1 r hs
    have : r = 50 := by
      rcases Int.lt_trichotomy r 50 with h | h | h
      · exact absurd (pos_50 h) k4
      · exact h
      · exact absurd (k5 50 (by omega) h) not_pos_50
    rw [this]
theorem sm_40 : smM 2 ex2 0 40 = none := by
  have hp : isPer 40 := by decide
  have e : smM 2 ex2 0 40 = smL 2 ex2 40 42 0 := if_pos hp
  rw [e]
  obtain ⟨h1, h2⟩ := smL_spec (n := 2) (l := ex2) hp 42 0 (by omega)
  cases hs : smL 2 ex2 40 42 0 with
  | none => rfl
  | some r =>
    obtain ⟨k1, k2, k3, k4, k5⟩ := h1 r hs
    exact absurd (pos_50 (by omega)) k4
theorem ref_49 : RefOk 2 ex2 49 [1, 0] := ⟨r2_49, 1, 1, by decide +kernel, by decide⟩
theorem ref_50 : ¬ RefOk 2 ex2 50 [1, 0] := by
  rintro ⟨_, s, t, h, h2⟩
  have h1 : exM 50 ex2 [1, 0] = some (0, 1) := by decide +kernel
  rw [h1] at h
  injection h with h
  injection h with h h'
  omega

theorem ver_35 : VerOk 2 ex2 50 [5, 35] := ⟨r2_50, by decide, by decide, by unfold Keeps; decide +kernel⟩
theorem ver_34 : ¬ VerOk 2 ex2 50 [5, 34] := fun h => by
  have := h.2.2.2
  unfold Keeps at this
  exact absurd this (by decide +kernel)
noncomputable def fs11 : List (FuncId × HModel) := [(14, H14), (16, pureH 4 M16), (18, pureH 4 M18), (19, pureH 4 M19), (21, pureH 4 M21), (23, pureH 4 M23)]
@[simp] theorem fs11_14 : lookM fs11 14 = some H14 := rfl
@[simp] theorem fs11_16 : lookM fs11 16 = some (pureH 4 M16) := rfl
@[simp] theorem fs11_18 : lookM fs11 18 = some (pureH 4 M18) := rfl
@[simp] theorem fs11_19 : lookM fs11 19 = some (pureH 4 M19) := rfl
@[simp] theorem fs11_21 : lookM fs11 21 = some (pureH 4 M21) := rfl
@[simp] theorem fs11_23 : lookM fs11 23 = some (pureH 4 M23) := rfl
theorem sound11 : ∀ f M, lookM fs11 f = some M → FnSpecY Try.prog GC f M := lookM_cons spec14 (lookM_cons (FnSpecY.of_pure spec16 4) (lookM_cons (FnSpecY.of_pure spec18 4) (lookM_cons (FnSpecY.of_pure spec19 4) (lookM_cons (FnSpecY.of_pure spec21 4) (lookM_cons (FnSpecY.of_pure spec23 4) lookM_nil)))))
def M11 : PModel := fun args => match args with
  | [] => some (.bool true)
  | _ => none
abbrev x0 : AV := .agg [.int .i64 0, .int .i64 1, .int .i64 30, .int .i64 0]
abbrev x1 : AV := .agg [.int .i64 1, .int .i64 0, .int .i64 20, .int .i64 1]
abbrev x2 : AV := .agg [.int .i64 0, .int .i64 1, .int .i64 10, .int .i64 (-1)]
theorem arcs2 : arcsOf (.fs 4 [x0, x1]) = some ex2 := arcsOf_of (l := ex2) (.inr rfl) (by decide) (by intro x hx; simp [ex2] at hx; rcases hx with rfl | rfl <;> (unfold CArc.inR inI; simp))
theorem arcs3 : arcsOf (.fs 4 [x0, x1, x2]) = some ex3 := arcsOf_of (l := ex3) (.inr rfl) (by decide) (by intro x hx; simp [ex3] at hx; rcases hx with rfl | rfl | rfl <;> (unfold CArc.inR inI; simp))
theorem ints2 (a b : Int) (ha : 0 ≤ a ∧ a ≤ 100) (hb : 0 ≤ b ∧ b ≤ 100) : intsOf (.fs 1 [.int .i64 a, .int .i64 b]) = some [a, b] := intsOf_of (xs := [a, b]) (.inr rfl) (by simp) (by intro x hx; simp at hx; rcases hx with rfl | rfl <;> (unfold inI; omega))
open Classical in
set_option maxRecDepth 100000 in
set_option maxHeartbeats 4000000 in
theorem spec11 : PureSpec Try.prog GC 11 M11 := by
  refine PureSpec.of_ev (E := envOf GC fs11) (envOf_sound sound11) rfl at11 comp11 1 ?_
  intro args r h
  unfold M11 at h
  split at h
  rotate_left
  · cases h
  injection h with h; subst h
  refine ⟨0, ?_⟩
  have c1 := fun h => H14_eq h (A := [.row 4 false [x0, x1]]) (a := .sl 0 0 2) rfl arcs2 2 50
  have c2 := fun h => H14_eq h (A := [.row 4 false [x0, x1]]) (a := .sl 0 0 2) rfl arcs2 2 49
  have c3 := fun h => H14_eq h (A := [.row 4 true [x0, x1, x2]]) (a := .sl 0 0 3) rfl arcs3 2 60
  rw [lv_50] at c1
  rw [lv_49] at c2
  rw [lv_60] at c3
  have m1 : M23 [.int .i64 2, .fs 4 [x0, x1], .int .i64 0, .int .i64 1000] = some (.tup [.int .i64 50, .bool true]) := by
    simp only [M23, arcs2, Option.map_some, sm_1000]; rfl
  have m2 : M23 [.int .i64 2, .fs 4 [x0, x1], .int .i64 0, .int .i64 40] = some (.tup [.int .i64 0, .bool false]) := by
    simp only [M23, arcs2, Option.map_some, sm_40]; rfl
  have m3 : M18 [.fs 1 [.int .i64 0, .int .i64 30], .fs 1 [.int .i64 0, .int .i64 30]] = some (.bool true) := by
    simp only [M18, ints2 0 30 (by omega) (by omega)]; simp
  have m4 : M18 [.fs 1 [.int .i64 0, .int .i64 1], .fs 1 [.int .i64 0, .int .i64 1]] = some (.bool true) := by
    simp only [M18, ints2 0 1 (by omega) (by omega)]; simp
  have m5 : M18 [.fs 1 [.int .i64 1, .int .i64 2], .fs 1 [.int .i64 1, .int .i64 2]] = some (.bool true) := by
    simp only [M18, ints2 1 2 (by omega) (by omega)]; simp
  have m6 : M19 [.int .i64 2, .fs 4 [x0, x1], .int .i64 50, .fs 1 [.int .i64 5, .int .i64 35]] = some (.bool true) := by
    simp only [M19, arcs2, ints2 5 35 (by omega) (by omega)]
    simp [ver_35]
  have m7 : M19 [.int .i64 2, .fs 4 [x0, x1], .int .i64 50, .fs 1 [.int .i64 5, .int .i64 34]] = some (.bool false) := by
    simp only [M19, arcs2, ints2 5 34 (by omega) (by omega)]
    simp [ver_34]
  have m8 : M21 [.int .i64 2, .fs 4 [x0, x1], .int .i64 49, .fs 1 [.int .i64 1, .int .i64 0]] = some (.bool true) := by
    simp only [M21, arcs2, ints2 1 0 (by omega) (by omega)]
    rw [decide_eq_true ref_49]
  have m9 : M21 [.int .i64 2, .fs 4 [x0, x1], .int .i64 50, .fs 1 [.int .i64 1, .int .i64 0]] = some (.bool false) := by
    simp only [M21, arcs2, ints2 1 0 (by omega) (by omega)]
    rw [decide_eq_false ref_50]
  have m10 : M16 [.int .i64 2, .fs 4 [x0, x1]] = some (.bool true) := by
    simp only [M16, arcs2, Option.map_some]
    simp [val_2]
  have m11 : M16 [.int .i64 1, .fs 4 [x0, x1]] = some (.bool false) := by
    simp only [M16, arcs2, Option.map_some]
    simp [val_1]
  simp only [lvT, slA, intsA, List.map_cons, List.map_nil] at c1 c2 c3
  rw [evP_run _ _ rfl]
  simp [mf11, c1, c2, c3, m1, m2, m3, m4, m5, m6, m7, m8, m9, m10, m11, evAppend, srcElems]
end Go.Proofs.Ytfmlfekcdbfioaa
/-
  Cycle: what the laws share.
-/
namespace Go.Proofs.Ytfmlfekcdbfioaa
open Go

@[simp] theorem M11_nil : M11 [] = some (.bool true) := rfl
noncomputable def fsN : List (FuncId × HModel) := [(11, pureH 4 M11), (12, pureH 4 M12), (13, pureFH 4 M13), (14, H14), (16, pureH 4 M16), (18, pureH 4 M18), (19, pureH 4 M19), (21, pureH 4 M21), (23, pureH 4 M23)]
@[simp] theorem fsN_11 : lookM fsN 11 = some (pureH 4 M11) := rfl
@[simp] theorem fsN_12 : lookM fsN 12 = some (pureH 4 M12) := rfl
@[simp] theorem fsN_13 : lookM fsN 13 = some (pureFH 4 M13) := rfl
@[simp] theorem fsN_14 : lookM fsN 14 = some H14 := rfl
@[simp] theorem fsN_16 : lookM fsN 16 = some (pureH 4 M16) := rfl
@[simp] theorem fsN_18 : lookM fsN 18 = some (pureH 4 M18) := rfl
@[simp] theorem fsN_19 : lookM fsN 19 = some (pureH 4 M19) := rfl
@[simp] theorem fsN_21 : lookM fsN 21 = some (pureH 4 M21) := rfl
@[simp] theorem fsN_23 : lookM fsN 23 = some (pureH 4 M23) := rfl
theorem soundN : ∀ f M, lookM fsN f = some M → FnSpecY Try.prog GC f M := lookM_cons (FnSpecY.of_pure spec11 4) (lookM_cons (FnSpecY.of_pure spec12 4) (lookM_cons (FnSpecY.of_pureF spec13F 4) (lookM_cons spec14 (lookM_cons (FnSpecY.of_pure spec16 4) (lookM_cons (FnSpecY.of_pure spec18 4) (lookM_cons (FnSpecY.of_pure spec19 4) (lookM_cons (FnSpecY.of_pure spec21 4) (lookM_cons (FnSpecY.of_pure spec23 4) lookM_nil))))))))

/-! ### arguments -/
theorem r4_arg {x : AV} {n : Nat} (h : TA Try.prog (n + 2) 49 x) : ∃ y, r4Of x = some y := by
  obtain ⟨ls, rfl, hc, hl⟩ := TA.agg (show aggT Try.prog 49 = true by kernel_rfl) h
  simp only [TC, Try.underlying49] at hc
  rw [show Try.prog.cellsOf 3 = 1 by kernel_rfl] at hc
  simp only [TCa, Try.underlying3] at hc
  obtain ⟨_, _, rfl, ⟨a, rfl, ha⟩, _, _, _, rfl, ⟨b, rfl, hb⟩, _, _, _, rfl, ⟨c, rfl, hc'⟩, _, _, _, rfl, ⟨d, rfl, hd⟩, _, rfl⟩ := hc
  refine ⟨(a, b, c, d), ?_⟩
  have : R4.inR (a, b, c, d) := ⟨ha, hb, hc', hd⟩
  exact if_pos this
theorem r4s_arg {raw : AV} {n : Nat} (h : TA Try.prog (n + 3) 22 raw) : ∃ ts, r4sOf raw = some ts := by
  obtain ⟨es, h1, h2, h3⟩ := TA.sl Try.underlying22 h
  rw [show Try.prog.cellsOf 49 = 4 by kernel_rfl] at h1
  obtain ⟨ys, hy⟩ := all_some (f := r4Of) fun x hx => r4_arg (n := n) (h3 x hx)
  refine ⟨ys, ?_⟩
  unfold r4sOf
  rcases h1 with ⟨rfl, rfl⟩ | rfl
  · injection hy with hy; subst hy; rfl
  · simp only [listN]
    rw [if_pos ⟨trivial, h2⟩]; exact hy
theorem arc_arg {x : AV} {n : Nat} (h : TA Try.prog (n + 2) 44 x) : ∃ y, arcOf x = some y := by
  obtain ⟨ls, rfl, hc, hl⟩ := TA.agg (show aggT Try.prog 44 = true by kernel_rfl) h
  simp only [TC, Try.underlying44, TCs, Try.underlying3] at hc
  obtain ⟨_, _, rfl, ⟨a, rfl, ha⟩, _, _, _, rfl, ⟨b, rfl, hb⟩, _, _, _, rfl, ⟨c, rfl, hc'⟩, _, _, _, rfl, ⟨d, rfl, hd⟩, _, rfl⟩ := hc
  exact ⟨⟨a, b, c, d⟩, arcOf_eq (a := ⟨a, b, c, d⟩) ⟨ha, hb, hc', hd⟩⟩
theorem arcs_arg {raw : AV} {n : Nat} (h : TA Try.prog (n + 3) 23 raw) : ∃ ts, arcsOf raw = some ts := by
  obtain ⟨es, h1, h2, h3⟩ := TA.sl Try.underlying23 h
  rw [show Try.prog.cellsOf 44 = 4 by kernel_rfl] at h1
  obtain ⟨ys, hy⟩ := all_some (f := arcOf) fun x hx => arc_arg (n := n) (h3 x hx)
  refine ⟨ys, ?_⟩
  unfold arcsOf
  rcases h1 with ⟨rfl, rfl⟩ | rfl
  · injection hy with hy; subst hy; rfl
  · simp only [listN]
    rw [if_pos ⟨trivial, h2⟩]; exact hy
theorem three_arg {x : AV} {n : Nat} (h : TA Try.prog (n + 2) 46 x) : ∃ a b c : Int, x = .agg [.int .i64 a, .int .i64 b, .int .i64 c] ∧ inI a ∧ inI b ∧ inI c := by
  obtain ⟨ls, rfl, hc, hl⟩ := TA.agg (show aggT Try.prog 46 = true by kernel_rfl) h
  simp only [TC, Try.underlying46] at hc
  rw [show Try.prog.cellsOf 3 = 1 by kernel_rfl] at hc
  simp only [TCa, Try.underlying3] at hc
  obtain ⟨_, _, rfl, ⟨a, rfl, ha⟩, _, _, _, rfl, ⟨b, rfl, hb⟩, _, _, _, rfl, ⟨c, rfl, hc'⟩, _, rfl⟩ := hc
  exact ⟨a, b, c, rfl, ha, hb, hc'⟩

/-! ### Levels of arcs that integers determine -/
theorem arcsD_arg {n : Int} (hn : 1 ≤ n ∧ n ≤ 32) (l : List R4) (plain : Bool) : arcsOf (slA 4 ((arcsD l n plain).map arcA)) = some (arcsD l n plain) := by
  have hv := arcsD_valid hn l plain
  exact arcsOf_slA (by have := hv.2.1; omega) fun x hx => okA_in hn.2 (hv.2.2 x hx)
theorem lv_ok {n : Int} {l : List CArc} {p : Int} (hr : Ready n l p) : (lvM n l p).2.2 = true ↔ ¬ Pos l p := by
  obtain ⟨m, rfl⟩ : ∃ m : Nat, n = (m : Int) := ⟨n.toNat, by have := hr.1.1; omega⟩
  rw [← lev_iff hr]
  unfold lvM
  rw [if_pos hr, Int.toNat_natCast]
  split
  · rename_i h; simp [h]
  · rename_i h; simp [h]
theorem lvT_form (n : Int) (l : List CArc) (p : Int) : lvT (lvM n l p) = .tup [slA 1 (intsA (lvM n l p).1), slA 1 (intsA (lvM n l p).2.1), .bool (lvM n l p).2.2] := rfl
theorem add1_pick {z : Int} (hz : 0 ≤ z ∧ z < 7) : evBin .add (.int .i64 1) (.int .i64 z) = some (.int .i64 (1 + z)) := by
  simp only [evBin]; rw [if_pos trivial, wrapI (by unfold inI; omega)]
theorem evAdd {a b : Int} (h : -9223372036854775808 ≤ a + b ∧ a + b ≤ 9223372036854775807) : evBin .add (.int .i64 a) (.int .i64 b) = some (.int .i64 (a + b)) := by
  simp only [evBin]; rw [if_pos trivial, wrapI h]
theorem evSub {a b : Int} (h : -9223372036854775808 ≤ a - b ∧ a - b ≤ 9223372036854775807) : evBin .sub (.int .i64 a) (.int .i64 b) = some (.int .i64 (a - b)) := by
  simp only [evBin]; rw [if_pos trivial, wrapI h]
theorem evGtr (a b : Int) : evBin .gtr (.int .i64 a) (.int .i64 b) = some (.bool (decide (a > b))) := by simp [evBin]
theorem evLss (a b : Int) : evBin .lss (.int .i64 a) (.int .i64 b) = some (.bool (decide (a < b))) := by simp [evBin]
theorem evEql (a b : Int) : evBin .eql (.int .i64 a) (.int .i64 b) = some (.bool (decide (a = b))) := by simp [evBin]
theorem evNeq (a b : Int) : evBin .neq (.int .i64 a) (.int .i64 b) = some (.bool (decide (a ≠ b))) := by simp [evBin]
theorem evLeq (a b : Int) : evBin .leq (.int .i64 a) (.int .i64 b) = some (.bool (decide (a ≤ b))) := by simp [evBin]
theorem ownK : ownKnob Try.prog.godebug = none := by kernel_rfl
theorem grel0 {W : World} {OK : Nat → Prop} : GRel GC W OK := fun gl cs h => by simp [GC] at h
/-- A WORLD FOR THE WITNESS. -/
noncomputable def laidWorld (os : Os) : World := World.holding Try.prog os ⟨#[], #[], []⟩
end Go.Proofs.Ytfmlfekcdbfioaa
/-
  Cycle: the law CycleDual, run.
-/
namespace Go.Proofs.Ytfmlfekcdbfioaa
open Go

/-- Levels, where it has starts -/
theorem lv_starts {n : Int} {l : List CArc} {p : Int} (hr : Ready n l p) (h : (lvM n l p).2.2 = true) : (lvM n l p).2.1 = [] ∧ VerOk n l p (lvM n l p).1 ∧ (∀ x ∈ (lvM n l p).1, x ≤ 100000000) ∧ ∀ x, VerOk n l p x → ∀ v : Nat, (v : Int) < n → (lvM n l p).1.getD v 0 ≤ x.getD v 0 := by
  obtain ⟨m, rfl⟩ : ∃ m : Nat, n = (m : Int) := ⟨n.toNat, by have := hr.1.1; omega⟩
  have hv := hr.1.2.2
  have hn := hr.1.1
  have e : lvM m l p = ((levels (lar p l) m).1, [], true) := by
    unfold lvM at h ⊢
    rw [if_pos hr, Int.toNat_natCast] at h ⊢
    split
    · rfl
    · rename_i h'
      rw [if_neg h'] at h; cases h
  have hlv : (levels (lar p l) m).2 = true := by
    have := (lv_ok hr).1 h
    exact (lev_iff hr).2 this
  obtain ⟨h1, h2, h3, h4, h5⟩ := levels_least (lar_ends (p := p) hv)
  rw [e]
  have key : ∀ x ∈ (levels (lar p l) m).1, 0 ≤ x ∧ x ≤ 100000000 := ?_
  · refine ⟨rfl, ⟨hr, by rw [h1], fun x hx => by have := key x hx; omega, h4 hlv⟩, fun x hx => (key x hx).2, fun x hx v hvm => ?_⟩
    refine h5 x hx.2.2.2 (fun w hw => ?_) v (by omega)
    have hwl : w < x.length := by have := hx.2.1; omega
    have hg : x.getD w 0 = x[w] := by rw [List.getD_eq_getElem?_getD, List.getElem?_eq_getElem hwl]; rfl
    rw [hg]
    exact (hx.2.2.1 _ (List.getElem_mem hwl)).1
  intro x hx'
  obtain ⟨v, hv', rfl⟩ := List.mem_iff_getElem.1 hx'
  have hvn : v < m := by rw [← h1]; exact hv'
  have hg : (levels (lar p l) m).1.getD v 0 = (levels (lar p l) m).1[v] := by rw [List.getD_eq_getElem?_getD, List.getElem?_eq_getElem hv']; rfl
  have h0 := h2 v
  rw [hg] at h0
  refine ⟨h0, ?_⟩
  obtain ⟨u, r, k1, k2, k3⟩ := h3 v hvn
  have hN := (levels_ok (lar_ends (p := p) hv)).1 hlv
  obtain ⟨r', j1, j2, j3⟩ := short (lar_ends (p := p) hv) hN _ r u v rfl k1 k2
  rw [hg] at k3
  have hbd : ∀ {r : List LArc} {u v : Nat}, isW (lar p l) u r v → lenW r ≤ 3000000 * r.length := by
    intro r
    induction r with
    | nil => intro _ _ _; simp [lenW]
    | cons a r ih =>
      rintro u v ⟨q1, _, q3⟩
      have := ih q3
      have := (lar_ok (show m ≤ 32 by omega) hr.2 hv a q1).2.2.2
      simp only [lenW, List.length_cons]
      omega
  have := hbd j1
  omega
/-- Levels, where it has a cycle -/
theorem lv_cycle {n : Int} {l : List CArc} {p : Int} (hr : Ready n l p) (h : (lvM n l p).2.2 = false) : (lvM n l p).1 = [] ∧ RefOk n l p (lvM n l p).2.1 ∧ (lvM n l p).2.1.length ≤ 32 ∧ ∀ z ∈ (lvM n l p).2.1, inI z := by
  obtain ⟨m, rfl⟩ : ∃ m : Nat, n = (m : Int) := ⟨n.toNat, by have := hr.1.1; omega⟩
  have hlv : ¬ (levels (lar p l) m).2 = true := fun h' => by
    have := (lv_ok hr).2 ((lev_iff hr).1 h')
    rw [h] at this; cases this
  obtain ⟨res, u, xs, k1, k2, k3, k4, k5, k6, k7⟩ := cyc_of hr hlv
  have e : lvM m l p = ([], res, false) := by
    unfold lvM
    rw [if_pos hr, Int.toNat_natCast, if_neg hlv, k1]; rfl
  rw [e]
  refine ⟨rfl, ⟨hr, _, _, k7, k6⟩, by rw [k2]; simpa using k5, fun z hz => ?_⟩
  unfold exM at k7
  simp only [Option.ite_none_right_eq_some] at k7
  have := k7.1.2 z hz
  have := hr.1.2.1
  unfold inI; omega
theorem intsOf_sl {xs : List Int} (hl : xs.length ≤ 1000) (h : ∀ z ∈ xs, inI z) : intsOf (slA 1 (intsA xs)) = some xs := intsOf_slA (by omega) h
theorem ver_in {n : Int} {l : List CArc} {p : Int} {s : List Int} (h : VerOk n l p s) : s.length ≤ 32 ∧ ∀ z ∈ s, inI z := by
  obtain ⟨h1, h2, h3, _⟩ := h
  have := h1.1.1
  refine ⟨by omega, fun z hz => ?_⟩
  have := h3 z hz
  unfold inI; omega
/-- what is refuted has no starts -/
theorem ver_pos {n : Int} {l : List CArc} {p : Int} {s : List Int} (h : VerOk n l p s) : ¬ Pos l p := keeps_noP h.1.1.2.2 h.2.2.2
theorem ref_pos {n : Int} {l : List CArc} {p : Int} {c : List Int} (h : RefOk n l p c) : Pos l p := by
  obtain ⟨_, s, t, h1, h2⟩ := h
  obtain ⟨u, xs, k1, k2, k3, k4, k5, k6⟩ := exM_some h1
  exact ⟨u, xs, k2, by omega⟩
open Classical in
theorem m19 {n : Int} {a b : AV} {l : List CArc} {p : Int} {s : List Int} (ha : arcsOf a = some l) (hb : intsOf b = some s) : M19 [.int .i64 n, a, .int .i64 p, b] = some (.bool (decide (VerOk n l p s))) := by simp only [M19, ha, hb]
open Classical in
theorem m21 {n : Int} {a b : AV} {l : List CArc} {p : Int} {s : List Int} (ha : arcsOf a = some l) (hb : intsOf b = some s) : M21 [.int .i64 n, a, .int .i64 p, b] = some (.bool (decide (RefOk n l p s))) := by simp only [M21, ha, hb]

/-! ### starts that integers determine -/
def drawS (l : List Int) (i : Nat) : List Int := (List.range i).map fun j => if j < l.length then pick (l.getD j 0) 200 else 0
theorem drawS_succ (l : List Int) (i : Nat) : drawS l (i + 1) = drawS l i ++ [if i < l.length then pick (l.getD i 0) 200 else 0] := by
  unfold drawS; rw [List.range_succ, List.map_append]; rfl
set_option maxRecDepth 100000 in
theorem round5 (fuel : Nat) {A : Arena} {y : AV} {l : List Int} (hy : SlA 1 (intsA l) y) (hr : ∀ z ∈ l, inI z) (_hm : l.length ≤ 9223372036854775807) {n i : Nat} (hn : n ≤ 7) (hi : i < n) {v11 : AV} (hI : SlotG 1 A v11 (intsA (drawS l i))) (v5 v6 v7 v10 : AV) :
    ∃ A' v11', run (envOf GC fsN) fuel [.code lp5x0] (st5x0 (.int .i64 (n : Int)) y v5 v6 v7 v10 v11 (.int .i64 (i : Int))) A = some (.normal (st5x0 (.int .i64 (n : Int)) y v5 v6 v7 v10 v11' (.int .i64 ((i + 1 : Nat) : Int))) A') ∧ SlotG 1 A' v11' (intsA (drawS l (i + 1))) := by
  have hlen := hy.len
  rw [intsA_len] at hlen
  have b1 := lt_nat i n .i64
  rw [decide_eq_true hi] at b1
  have b2 := lt_nat i l.length .i64
  have b3 := add1_nat i (by omega)
  have hfy : ∀ A n, frz A n y = y := fun A n => hy.frz n
  obtain ⟨z, hz⟩ : ∃ z, z = if i < l.length then pick (l.getD i 0) 200 else 0 := ⟨_, rfl⟩
  obtain ⟨s', k, C, ap, c1, c2, c3, c4⟩ := hI.append (bytes := 8) (.int .i64 z) (by omega) (by omega) (by simp [intsA, drawS]; omega)
  obtain ⟨i1, hi1⟩ : ∃ i1 : Nat, i1 = i + 1 := ⟨_, rfl⟩
  rw [← hi1] at b3 ⊢
  refine ⟨C, .sl s' 0 k, ?_, ?_⟩
  · by_cases hil : i < l.length
    · rw [decide_eq_true hil] at b2
      rw [if_pos hil] at hz
      have x1 := hy.int (A := A) _ _ (List.getElem?_eq_getElem hil) .i64
      have m := M12_eq (hr _ (List.getElem_mem hil)) (show (0 : Int) < 200 by omega)
      have e : l.getD i 0 = l[i] := by rw [List.getD_eq_getElem?_getD, List.getElem?_eq_getElem hil]; rfl
      rw [e] at hz
      rw [← hz] at m
      simp [lp5x0, hlen, b1, b2, b3, x1, m, ap, -evBin, -evIndexSl, -evLenSl]
    · rw [decide_eq_false hil] at b2
      rw [if_neg hil] at hz
      rw [hz] at ap
      simp [lp5x0, hlen, b1, b2, b3, ap, -evBin, -evIndexSl, -evLenSl]
  · rw [hi1, drawS_succ, ← hz]
    have : intsA (drawS l i ++ [z]) = intsA (drawS l i) ++ [.int .i64 z] := by simp [intsA]
    rw [this]; exact c1
theorem loop5 (fuel : Nat) (hf : 10 < fuel) {A : Arena} {y : AV} {l : List Int} (hy : SlA 1 (intsA l) y) (hr : ∀ z ∈ l, inI z) (hm : l.length ≤ 9223372036854775807) {n : Nat} (hn : n ≤ 7) (v5 v6 v7 v10 : AV) :
    ∃ A' v11, SlotG 1 A' v11 (intsA (drawS l n)) ∧ iter (evC (envOf GC fsN) fuel lp5x0) mask5x0 fuel (st5x0 (.int .i64 (n : Int)) y v5 v6 v7 v10 .nilS (.int .i64 0)) A = some (.exit 0 ((st5x0 (.int .i64 (n : Int)) y v5 v6 v7 v10 v11 (.int .i64 (n : Int))).set 15 (.bool false)) A') := by
  obtain ⟨o, h1, A', v11, h2, h3⟩ := iter_inv (E := envOf GC fsN) (fuel := fuel) (a := lp5x0) (mask := mask5x0)
    (fun κ σ A => ∃ i v11, i + κ = n ∧ σ = st5x0 (.int .i64 (n : Int)) y v5 v6 v7 v10 v11 (.int .i64 (i : Int)) ∧ SlotG 1 A v11 (intsA (drawS l i)))
    (fun o => ∃ A' v11, SlotG 1 A' v11 (intsA (drawS l n)) ∧ o = .exit 0 ((st5x0 (.int .i64 (n : Int)) y v5 v6 v7 v10 v11 (.int .i64 (n : Int))).set 15 (.bool false)) A')
    (by
      rintro κ σ A ⟨i, v11, hik, rfl, hI⟩
      rw [cl5x0]
      by_cases hi : i < n
      · obtain ⟨A', v11', c1, c2⟩ := round5 fuel hy hr hm hn hi hI v5 v6 v7 v10
        exact .inl ⟨_, _, c1, κ - 1, by omega, i + 1, v11', by omega, rfl, c2⟩
      · obtain rfl : i = n := by omega
        refine .inr ⟨_, ?_, ?_, A, v11, hI, rfl⟩
        · simp [lp5x0]
        · intro _ _ h; cases h)
    fuel n (st5x0 (.int .i64 (n : Int)) y v5 v6 v7 v10 .nilS (.int .i64 0)) A (by omega) ⟨0, .nilS, by omega, rfl, .inl ⟨rfl, by simp [drawS, intsA]⟩⟩
  exact ⟨A', v11, h2, by rw [← h3]; exact h1⟩
theorem drawS_in (l : List Int) (n : Nat) : ∀ z ∈ drawS l n, inI z := fun z hz => by
  obtain ⟨j, _, rfl⟩ := List.mem_map.1 hz
  have := pick_range (l.getD j 0) 200 (by omega)
  split
  · unfold inI; omega
  · unfold inI; omega

open Classical in
set_option maxRecDepth 100000 in
set_option maxHeartbeats 4000000 in
theorem ev5 {x y : AV} {r : List R4} {ls : List Int} (hx : r4sOf x = some r) {n q : Int} (hn : inI n) (hq : inI q) (hy : SlA 1 (intsA ls) y) (hyr : ∀ z ∈ ls, inI z) (hym : ls.length ≤ 9223372036854775807) : evP (envOf GC fsN) 50 mf5 1 [.int .i64 n, x, .int .i64 q, y] = some (.bool true) := by
  have p7 := pick_range n 7 (by omega)
  have p80 := pick_range q 80 (by omega)
  have m1 := M12_eq hn (show (0 : Int) < 7 by omega)
  have m2 := M12_eq hq (show (0 : Int) < 80 by omega)
  have m3 := M12_eq hq (show (0 : Int) < 3 by omega)
  obtain ⟨n0, hn0⟩ : ∃ z, z = pick n 7 := ⟨_, rfl⟩
  obtain ⟨q0, hq0⟩ : ∃ z, z = pick q 80 := ⟨_, rfl⟩
  obtain ⟨c0, hc0⟩ : ∃ z, z = pick q 3 := ⟨_, rfl⟩
  rw [← hn0] at p7 m1
  rw [← hq0] at p80 m2
  rw [← hc0] at m3
  have b1 := add1_pick p7
  have b2 := evSub (a := q0) (b := 10) (by omega)
  have b3 := evGtr c0 0
  obtain ⟨n1, hn1⟩ : ∃ z : Nat, (z : Int) = 1 + n0 := ⟨(1 + n0).toNat, by omega⟩
  obtain ⟨p, hp⟩ : ∃ z, z = q0 - 10 := ⟨_, rfl⟩
  obtain ⟨d, hd⟩ : ∃ z, z = decide (c0 > 0) := ⟨_, rfl⟩
  rw [← hn1] at b1
  rw [← hp] at b2
  rw [← hd] at b3
  have hn32 : 1 ≤ (n1 : Int) ∧ (n1 : Int) ≤ 32 := by omega
  have m5 : M13 [x, .int .i64 (n1 : Int), .bool d] = some (slA 4 ((arcsD r n1 d).map arcA)) := by
    simp only [M13, hx, Option.map_some]; exact if_pos hn32.1
  have harg := arcsD_arg hn32 r d
  have hval := arcsD_valid hn32 r d
  obtain ⟨l, hl⟩ : ∃ l, l = arcsD r n1 d := ⟨_, rfl⟩
  rw [← hl] at m5 harg hval
  have hR : Ready n1 l p := ⟨hval, by unfold isPer; omega⟩
  have v1 := fun h A => H14_eq h (A := A) (frz_slA A 4 4 (l.map arcA)) harg n1 p
  simp only [lvT_form] at v1
  have hfx : ∀ A, frz A 4 x = x := fun A => (r4sOf_some hx).1.frz 4
  have hnT : ∀ k, noRefB k (slA 4 (l.map arcA)) = true := fun k => noRef_slA k 4 _
  have hfT : ∀ A k, frz A k (slA 4 (l.map arcA)) = slA 4 (l.map arcA) := fun A k => frz_slA A k 4 _
  have hfS : ∀ (xs : List Int) A k, frz A k (slA 1 (intsA xs)) = slA 1 (intsA xs) := fun xs A k => frz_slA A k 1 _
  obtain ⟨T, hT⟩ : ∃ T, T = slA 4 (l.map arcA) := ⟨_, rfl⟩
  rw [← hT] at m5 v1 harg hnT hfT
  obtain ⟨A', v11, hS, lp⟩ := loop5 50 (by omega) (A := []) hy hyr hym (show n1 ≤ 7 by omega) (.bool true) (.int .i64 p) T (.bool (lvM n1 l p).2.2)
  have hSf := hS.frz 3 (fun z hz => by obtain ⟨w, _, rfl⟩ := List.mem_map.1 hz; rfl)
  have mS := m19 (n := n1) (p := p) harg (intsOf_sl (xs := drawS ls n1) (by simp [drawS]; omega) (drawS_in ls n1))
  rw [evP_run _ _ rfl]
  cases hok : (lvM n1 l p).2.2 with
  | true =>
    obtain ⟨e1, e2, _, _⟩ := lv_starts hR hok
    have hin := ver_in e2
    have k1 := m19 (n := n1) (p := p) harg (intsOf_sl (xs := (lvM n1 l p).1) (by omega) hin.2)
    have k2 := m21 (n := n1) (p := p) harg (intsOf_sl (xs := (lvM n1 l p).2.1) (by rw [e1]; simp) (by rw [e1]; simp))
    rw [decide_eq_true e2] at k1
    rw [decide_eq_false (show ¬ RefOk n1 l p (lvM n1 l p).2.1 from fun h => ver_pos e2 (ref_pos h))] at k2
    rw [hok] at v1 lp
    have f1 := hfS (lvM n1 l p).1
    have f2 := hfS (lvM n1 l p).2.1
    obtain ⟨S, hS1⟩ : ∃ S, S = slA 1 (intsA (lvM n1 l p).1) := ⟨_, rfl⟩
    obtain ⟨C, hC1⟩ : ∃ S, S = slA 1 (intsA (lvM n1 l p).2.1) := ⟨_, rfl⟩
    rw [← hS1, ← hC1] at v1
    rw [← hS1] at k1 f1
    rw [← hC1] at k2 f2
    simp [mf5, m1, m2, m3, m5, b1, b2, b3, v1, k1, k2, hfx, hfT, f1, f2, frz_i, frz_b, scalarB, go5x0 lp, -frz, -evBin]
  | false =>
    obtain ⟨e1, e2, e3, e4⟩ := lv_cycle hR hok
    have k1 := m19 (n := n1) (p := p) harg (intsOf_sl (xs := (lvM n1 l p).1) (by rw [e1]; simp) (by rw [e1]; simp))
    have k2 := m21 (n := n1) (p := p) harg (intsOf_sl (xs := (lvM n1 l p).2.1) (by omega) e4)
    have hnv : ∀ s, ¬ VerOk n1 l p s := fun s h => ver_pos h (ref_pos e2)
    rw [decide_eq_false (hnv _)] at k1 mS
    rw [decide_eq_true e2] at k2
    rw [hok] at v1 lp
    have f1 := hfS (lvM n1 l p).1
    have f2 := hfS (lvM n1 l p).2.1
    have f3 := hfS (drawS ls n1)
    obtain ⟨S, hS1⟩ : ∃ S, S = slA 1 (intsA (lvM n1 l p).1) := ⟨_, rfl⟩
    obtain ⟨C, hC1⟩ : ∃ S, S = slA 1 (intsA (lvM n1 l p).2.1) := ⟨_, rfl⟩
    obtain ⟨D, hD1⟩ : ∃ S, S = slA 1 (intsA (drawS ls n1)) := ⟨_, rfl⟩
    rw [← hS1, ← hC1] at v1
    rw [← hS1] at k1 f1
    rw [← hC1] at k2 f2
    rw [← hD1] at mS hSf f3
    simp [mf5, m1, m2, m3, m5, b1, b2, b3, v1, k1, k2, mS, hSf, hfx, hfT, f1, f2, frz_i, frz_b, scalarB, go5x0 lp, -frz, -evBin]
theorem ev5L (args : List AV) (h : LawArgs Try.prog 8 Try.f5.params.toList args) : ∃ fuel, evP (envOf GC fsN) fuel mf5 1 args = some (.bool true) := by
  rw [Try.params5] at h
  obtain ⟨a, r, rfl, h0, h⟩ := h.cons
  obtain ⟨b, r, rfl, h1, h⟩ := h.cons
  obtain ⟨c, r, rfl, h2, h⟩ := h.cons
  obtain ⟨d, r, rfl, h3, h⟩ := h.cons
  obtain rfl := h.nil
  obtain ⟨n, rfl, hn⟩ := TA.i64 Try.underlying3 h0
  obtain ⟨r, hr⟩ := r4s_arg (n := 5) h1
  obtain ⟨q, rfl, hq⟩ := TA.i64 Try.underlying3 h2
  obtain ⟨ls, hy, hym, hyr⟩ := TA.ints Try.underlying24 Try.underlying3 (by kernel_rfl) h3
  exact ⟨50, ev5 hr hn hq hy hyr hym⟩
end Go.Proofs.Ytfmlfekcdbfioaa
/-
  Cycle: the reference's Verify.
-/
namespace Go.Proofs.Ytfmlfekcdbfioaa
open Go

def fs20 : List (FuncId × HModel) := [(34, pureH 4 M32), (39, pureH 4 M39)]
noncomputable def fs20' : List (FuncId × HModel) := [(28, pureH 4 M28), (34, pureH 4 M32), (39, pureH 4 M39)]
@[simp] theorem fs20_28 : lookM fs20' 28 = some (pureH 4 M28) := rfl
@[simp] theorem fs20_34 : lookM fs20' 34 = some (pureH 4 M32) := rfl
@[simp] theorem fs20_39 : lookM fs20' 39 = some (pureH 4 M39) := rfl
theorem sound20 : ∀ f M, lookM fs20' f = some M → FnSpecY Try.prog GC f M := lookM_cons (FnSpecY.of_pure spec28 4) (lookM_cons (FnSpecY.of_pure spec34 4) (lookM_cons (FnSpecY.of_pure spec39 4) lookM_nil))
theorem m39 {n : Int} {a : CArc} {p : Int} (hn : n ≤ 32) (h : okA n a) (hp : isPer p) : M39 [.agg [.int .i64 a.f, .int .i64 a.t, .int .i64 a.w, .int .i64 a.k], .int .i64 p] = some (.int .i64 (a.len p)) := by
  have h32 : okA 32 a := by
    obtain ⟨h1, h2, h3, h4⟩ := h
    exact ⟨by omega, by omega, h3, h4⟩
  exact if_pos ⟨h32, hp⟩
set_option maxRecDepth 100000 in
theorem round20a (fuel : Nat) (A : Arena) {s : List Int} {b : AV} (hb : SlA 1 (intsA s) b) {n : Nat} (hsl : s.length = n) (hn : n ≤ 32) {i : Nat} (hi : i < n) (x p : AV) :
    run (envOf GC fs20') fuel [.code lp20x0] (st20x0 (.int .i64 (n : Int)) x p b (.int .i64 (i : Int))) A =
      if 0 ≤ s.getD i 0 ∧ s.getD i 0 ≤ 1000000000 then some (.normal (st20x0 (.int .i64 (n : Int)) x p b (.int .i64 ((i + 1 : Nat) : Int))) A) else some (.ret [.int .i64 (n : Int), x, p, b, .bool false, .undef, .int .i64 (i : Int), .undef, .undef, .bool true, .bool true, .undef, .undef] A) := by
  have b1 := lt_nat i n .i64
  rw [decide_eq_true hi] at b1
  have b3 := add1_nat i (by omega)
  have x1 := hb.int (A := A) _ _ (List.getElem?_eq_getElem (show i < s.length by omega)) .i64
  have hg1 : s.getD i 0 = s[i] := by rw [List.getD_eq_getElem?_getD, List.getElem?_eq_getElem (by omega)]; rfl
  rw [← hg1] at x1
  have m := M32_eq (s.getD i 0) 0 1000000000
  obtain ⟨z, hz⟩ : ∃ z, z = s.getD i 0 := ⟨_, rfl⟩
  rw [← hz] at x1 m ⊢
  obtain ⟨i1, hi1⟩ : ∃ i1 : Nat, i1 = i + 1 := ⟨_, rfl⟩
  rw [← hi1] at b3 ⊢
  by_cases h : 0 ≤ z ∧ z ≤ 1000000000
  · rw [if_pos h]
    rw [decide_eq_true h] at m
    simp [lp20x0, b1, b3, x1, m, -evBin, -evIndexSl]
  · rw [if_neg h]
    rw [decide_eq_false h] at m
    simp [lp20x0, b1, x1, m, -evBin, -evIndexSl]
set_option maxRecDepth 100000 in
theorem round20b (fuel : Nat) (A : Arena) {s : List Int} {a b : AV} {l : List CArc} (ha : arcsOf a = some l) (hb : SlA 1 (intsA s) b) {n : Nat} (hsl : s.length = n) (hn : n ≤ 32) {p : Int} (hp : isPer p) (hv : ∀ x ∈ l, okA n x) (hs : ∀ x ∈ s, 0 ≤ x ∧ x ≤ 1000000000) {i : Nat} (hi : i < l.length) :
    run (envOf GC fs20') fuel [.code lp20x1] (st20x1 a (.int .i64 p) b (.int .i64 (i : Int))) A =
      if s.getD l[i].f.toNat 0 + l[i].len p ≤ s.getD l[i].t.toNat 0 then some (.normal (st20x1 a (.int .i64 p) b (.int .i64 ((i + 1 : Nat) : Int))) A) else some (.ret [.undef, a, .int .i64 p, b, .bool false, .undef, .undef, .int .i64 (i : Int), .undef, .undef, .undef, .bool true, .bool true] A) := by
  obtain ⟨hl, hm⟩ := arcsOf_len ha
  have x1 := arcsOf_at ha hi A .i64
  have b1 := lt_nat i l.length .i64
  rw [decide_eq_true hi] at b1
  have b3 := add1_nat i (by omega)
  have hok := hv _ (List.getElem_mem hi)
  obtain ⟨f, hf, hfn⟩ := nat_of hok.1
  obtain ⟨t, ht, htn⟩ := nat_of hok.2.1
  have m := m39 (by omega) hok hp
  have hle := len_in (n := 32) (a := l[i]) ⟨by have := hok.1; omega, by have := hok.2.1; omega, hok.2.2.1, hok.2.2.2⟩ hp
  have e1 : l[i].f.toNat = f := by omega
  have e2 : l[i].t.toNat = t := by omega
  rw [e1, e2]
  rw [hf, ht] at x1 m
  have hfs : f < s.length := by omega
  have hts : t < s.length := by omega
  have y1 := hb.int (A := A) _ _ (List.getElem?_eq_getElem hfs) .i64
  have y2 := hb.int (A := A) _ _ (List.getElem?_eq_getElem hts) .i64
  have hg1 : s.getD f 0 = s[f] := by rw [List.getD_eq_getElem?_getD, List.getElem?_eq_getElem hfs]; rfl
  have hg2 : s.getD t 0 = s[t] := by rw [List.getD_eq_getElem?_getD, List.getElem?_eq_getElem hts]; rfl
  have h1 := hs _ (List.getElem_mem hfs)
  rw [← hg1] at y1 h1
  rw [← hg2] at y2
  obtain ⟨w, hw⟩ : ∃ w, w = l[i].len p := ⟨_, rfl⟩
  rw [← hw] at m hle ⊢
  have b2 := evAdd (a := s.getD f 0) (b := w) (by omega)
  have b4 := evLss (s.getD t 0) (s.getD f 0 + w)
  obtain ⟨z, hz⟩ : ∃ z, z = s.getD f 0 := ⟨_, rfl⟩
  obtain ⟨y, hy⟩ : ∃ z, z = s.getD t 0 := ⟨_, rfl⟩
  rw [← hz] at y1 b2 b4 ⊢
  rw [← hy] at y2 b4 ⊢
  obtain ⟨zw, hzw⟩ : ∃ zw, zw = z + w := ⟨_, rfl⟩
  rw [← hzw] at b2 b4 ⊢
  obtain ⟨i1, hi1⟩ : ∃ i1 : Nat, i1 = i + 1 := ⟨_, rfl⟩
  rw [← hi1] at b3 ⊢
  by_cases h : zw ≤ y
  · rw [if_pos h]
    rw [decide_eq_false (by omega)] at b4
    simp [lp20x1, hl, b1, b2, b3, b4, x1, y1, y2, m, -evBin, -evIndexSl, -evLenSl]
  · rw [if_neg h]
    rw [decide_eq_true (by omega)] at b4
    simp [lp20x1, hl, b1, b2, b4, x1, y1, y2, m, -evBin, -evIndexSl, -evLenSl]
open Classical in
set_option maxRecDepth 100000 in
theorem spec20 : PureSpec Try.prog GC 20 M19 := by
  refine PureSpec.of_ev (E := envOf GC fs20') (envOf_sound sound20) rfl at20 comp20 1 ?_
  intro args r h
  unfold M19 at h
  split at h
  rotate_left
  · cases h
  rename_i n a p b
  split at h
  rotate_left
  · cases h
  rename_i l s hl hs
  injection h with h; subst h
  refine ⟨300, ?_⟩
  obtain ⟨hb, _, hsl⟩ := intsOf_some hs
  have f1 : ∀ A n, frz A n a = a := fun A n => arcsOf_frz hl A n
  have f3 := arcsOf_noRef hl
  have m1 : M28 [.int .i64 n, a, .int .i64 p] = some (.bool (decide (Ready n l p))) := by simp only [M28, hl, Option.map_some]
  have hlen := hb.len
  have hlen' : (s.map (AV.int .i64)).length = s.length := by simp
  rw [hlen'] at hlen
  rw [evP_run _ _ rfl]
  by_cases hr : Ready n l p
  rotate_left
  · rw [decide_eq_false hr] at m1
    rw [decide_eq_false (show ¬ VerOk n l p s from fun h => hr h.1)]
    simp [mf20, f1, f3, m1, frz_i, frz_b, scalarB, -frz, -evLenSl]
  rw [decide_eq_true hr] at m1
  obtain ⟨m, rfl⟩ : ∃ m : Nat, n = (m : Int) := ⟨n.toNat, by have := hr.1.1; omega⟩
  have b1 := evNeq (s.length : Int) m
  by_cases h1 : (s.length : Int) = (m : Int)
  rotate_left
  · rw [decide_eq_true h1] at b1
    rw [decide_eq_false (show ¬ VerOk m l p s from fun h => h1 h.2.1)]
    simp [mf20, f1, f3, m1, hlen, b1, frz_i, frz_b, scalarB, -frz, -evLenSl, -evBin]
  rw [decide_eq_false (not_not_intro h1)] at b1
  have hm32 := hr.1.1
  have hsm : s.length = m := by omega
  have lp1 := iter_search (E := envOf GC fs20') (fuel := 300) (a := lp20x0) (mask := mask20x0) (fun i => st20x0 (.int .i64 (m : Int)) a (.int .i64 p) b (.int .i64 (i : Int))) (fun _ => []) m (fun i => ¬ (0 ≤ s.getD i 0 ∧ s.getD i 0 ≤ 1000000000))
    (oF := fun i => .ret [.int .i64 (m : Int), a, .int .i64 p, b, .bool false, .undef, .int .i64 (i : Int), .undef, .undef, .bool true, .bool true, .undef, .undef] []) (oE := .exit 0 ((st20x0 (.int .i64 (m : Int)) a (.int .i64 p) b (.int .i64 (m : Int))).set 9 (.bool false)) [])
    (fun _ => cl20x0) (fun _ _ _ h => by cases h) (fun _ _ h => by cases h)
    (fun i hi hp => by
      rw [round20a _ [] hb hsm (by omega) hi]
      exact if_pos (Classical.not_not.1 hp))
    (fun i hi hp => by
      rw [round20a _ [] hb hsm (by omega) hi]
      exact if_neg hp)
    (by simp [lp20x0]) (show m < 300 by omega)
  have hsr : s.length ≤ 32 := by omega
  have hrange : (∀ i, i < m → ¬ ¬ (0 ≤ s.getD i 0 ∧ s.getD i 0 ≤ 1000000000)) ↔ ∀ x ∈ s, 0 ≤ x ∧ x ≤ 1000000000 := by
    constructor
    · intro h x hx
      obtain ⟨i, hi, rfl⟩ := List.mem_iff_getElem.1 hx
      have := Classical.not_not.1 (h i (by omega))
      rw [List.getD_eq_getElem?_getD, List.getElem?_eq_getElem hi] at this
      exact this
    · intro h i hi
      refine not_not_intro ?_
      rw [List.getD_eq_getElem?_getD, List.getElem?_eq_getElem (by omega)]
      exact h _ (List.getElem_mem _)
  rcases lp1 with ⟨i, hi, hp, hj, lp1⟩ | ⟨hp, lp1⟩
  · have lp1 : iter (evC (envOf GC fs20') 300 lp20x0) mask20x0 300 (st20x0 (.int .i64 (m : Int)) a (.int .i64 p) b (.int .i64 0)) [] = _ := lp1
    rw [decide_eq_false (show ¬ VerOk m l p s from fun h => (hrange.2 h.2.2.1 i hi) hp)]
    simp [mf20, f1, f3, m1, hlen, b1, go20x0 lp1, frz_i, frz_b, scalarB, -frz, -evLenSl, -evBin]
  have lp1 : iter (evC (envOf GC fs20') 300 lp20x0) mask20x0 300 (st20x0 (.int .i64 (m : Int)) a (.int .i64 p) b (.int .i64 0)) [] = _ := lp1
  have hin := hrange.1 hp
  have lp2 := iter_search (E := envOf GC fs20') (fuel := 300) (a := lp20x1) (mask := mask20x1) (fun i => st20x1 a (.int .i64 p) b (.int .i64 (i : Int))) (fun _ => []) l.length (fun i => ¬ ∀ c, l[i]? = some c → s.getD c.f.toNat 0 + c.len p ≤ s.getD c.t.toNat 0)
    (oF := fun i => .ret [.undef, a, .int .i64 p, b, .bool false, .undef, .undef, .int .i64 (i : Int), .undef, .undef, .undef, .bool true, .bool true] []) (oE := .exit 2 ((st20x1 a (.int .i64 p) b (.int .i64 (l.length : Int))).set 11 (.bool false)) [])
    (fun _ => cl20x1) (fun _ _ _ h => by cases h) (fun _ _ h => by cases h)
    (fun i hi hp => by
      rw [round20b _ [] hl hb hsm (by omega) hr.2 hr.1.2.2 hin hi]
      exact if_pos (Classical.not_not.1 hp _ (List.getElem?_eq_getElem hi)))
    (fun i hi hp => by
      rw [round20b _ [] hl hb hsm (by omega) hr.2 hr.1.2.2 hin hi]
      exact if_neg fun h => hp fun c hc => by
        rw [List.getElem?_eq_getElem hi] at hc
        injection hc with hc
        rw [← hc]; exact h)
    (by simp [lp20x1, (arcsOf_len hl).1, -evLenSl]) (show l.length < 300 by have := hr.1.2.1; omega)
  rcases lp2 with ⟨i, hi, hp2, hj, lp2⟩ | ⟨hp2, lp2⟩
  · have lp2 : iter (evC (envOf GC fs20') 300 lp20x1) mask20x1 300 (st20x1 a (.int .i64 p) b (.int .i64 0)) [] = _ := lp2
    rw [decide_eq_false (show ¬ VerOk m l p s from fun h => hp2 fun c hc => h.2.2.2 _ (List.mem_map.2 ⟨c, List.mem_of_getElem? hc, rfl⟩))]
    simp [mf20, f1, f3, m1, hlen, b1, go20x0 lp1, go20x1 lp2, frz_i, frz_b, scalarB, -frz, -evLenSl, -evBin]
  · have lp2 : iter (evC (envOf GC fs20') 300 lp20x1) mask20x1 300 (st20x1 a (.int .i64 p) b (.int .i64 0)) [] = _ := lp2
    rw [decide_eq_true (show VerOk m l p s from ⟨hr, h1, hin, fun x hx => by
      obtain ⟨c, hc, rfl⟩ := List.mem_map.1 hx
      obtain ⟨i, hi, rfl⟩ := List.mem_iff_getElem.1 hc
      exact Classical.not_not.1 (hp2 i hi) _ (List.getElem?_eq_getElem hi)⟩)]
    simp [mf20, f1, f3, m1, hlen, b1, go20x0 lp1, go20x1 lp2, frz_i, frz_b, scalarB, -frz, -evLenSl, -evBin]
end Go.Proofs.Ytfmlfekcdbfioaa
/-
  Cycle: the reference's Refutes.
-/
namespace Go.Proofs.Ytfmlfekcdbfioaa
open Go

def chainP (l : List CArc) : List Int → Int → Prop
  | [], _ => True
  | x :: r, at_ => (arcZ l x).f = at_ ∧ chainP l r (arcZ l x).t
def sumL (p : Int) (l : List CArc) (xs : List Int) : Int := (xs.map fun x => (arcZ l x).len p).sum
theorem exL_chain (p : Int) (l : List CArc) : ∀ (xs : List Int) (at_ s t : Int), (chainP l xs at_ ∧ ∃ t', exL p l xs at_ s t = some (s + sumL p l xs, t')) ∨ (¬ chainP l xs at_ ∧ exL p l xs at_ s t = none)
  | [], at_, s, t => .inl ⟨trivial, t, by simp [exL, sumL]⟩
  | x :: r, at_, s, t => by
    by_cases h : (arcZ l x).f = at_
    · rcases exL_chain p l r (arcZ l x).t (s + (arcZ l x).len p) (t + (arcZ l x).k) with ⟨h1, t', h2⟩ | ⟨h1, h2⟩
      · refine .inl ⟨⟨h, h1⟩, t', ?_⟩
        rw [exL, if_pos h, h2]
        simp only [sumL, List.map_cons, List.sum_cons]
        congr 2; omega
      · refine .inr ⟨fun h' => h1 h'.2, ?_⟩
        rw [exL, if_pos h, h2]
    · refine .inr ⟨fun h' => h h'.1, ?_⟩
      rw [exL, if_neg h]
theorem chainP_iff (l : List CArc) : ∀ (xs : List Int) (at_ : Int), chainP l xs at_ ↔ (∀ x, xs[0]? = some x → (arcZ l x).f = at_) ∧ ∀ i x y, xs[i]? = some x → xs[i + 1]? = some y → (arcZ l y).f = (arcZ l x).t
  | [], at_ => by simp [chainP]
  | x :: r, at_ => by
    unfold chainP
    rw [chainP_iff l r]
    constructor
    · rintro ⟨h1, h2, h3⟩
      refine ⟨fun y hy => by simp at hy; rw [← hy]; exact h1, fun i a b ha hb => ?_⟩
      cases i with
      | zero =>
        have ha' : x = a := by simpa using ha
        have hb' : r[0]? = some b := hb
        rw [← ha']; exact h2 b hb'
      | succ i => exact h3 i a b (by simpa using ha) (by simpa using hb)
    · rintro ⟨h1, h2⟩
      exact ⟨h1 x rfl, fun y hy => h2 0 x y rfl (by simpa using hy), fun i a b ha hb => h2 (i + 1) a b (by simpa using ha) (by simpa using hb)⟩
/-- the next one, around -/
def nxt (k i : Nat) : Nat := if i + 1 = k then 0 else i + 1
def ringP (l : List CArc) (xs : List Int) : Prop := ∀ i x y, xs[i]? = some x → xs[nxt xs.length i]? = some y → (arcZ l x).t = (arcZ l y).f
theorem ring_iff (l : List CArc) (xs : List Int) (h : 1 ≤ xs.length) : ringP l xs ↔ chainP l xs (arcZ l (xs.getLastD 0)).t := by
  rw [chainP_iff]
  have hlast : xs.length - 1 < xs.length := by omega
  have hgl : xs.getLastD 0 = xs[xs.length - 1] := by
    rw [List.getLastD_eq_getLast?, List.getLast?_eq_getElem?, List.getElem?_eq_getElem hlast]; rfl
  constructor
  · intro hr
    refine ⟨fun x hx => ?_, fun i x y hx hy => ?_⟩
    · rw [hgl]
      exact (hr (xs.length - 1) _ x (List.getElem?_eq_getElem hlast) (by rw [nxt, if_pos (by omega)]; exact hx)).symm
    · have hi := (List.getElem?_eq_some_iff.1 hy).1
      exact (hr i x y hx (by rw [nxt, if_neg (by omega)]; exact hy)).symm
  · rintro ⟨h1, h2⟩ i x y hx hy
    have hi := (List.getElem?_eq_some_iff.1 hx).1
    by_cases hk : i + 1 = xs.length
    · rw [nxt, if_pos hk] at hy
      have := h1 y hy
      rw [hgl] at this
      have e : xs[xs.length - 1] = x := by
        obtain ⟨_, e⟩ := List.getElem?_eq_some_iff.1 hx
        rw [← e]; congr 1; omega
      rw [e] at this
      exact this.symm
    · rw [nxt, if_neg hk] at hy
      exact (h2 i x y hx hy).symm
theorem refOk_iff {n : Int} {l : List CArc} {p : Int} {c : List Int} : RefOk n l p c ↔ Ready n l p ∧ (1 ≤ c.length ∧ c.length ≤ 200) ∧ inIdx l c ∧ ringP l c ∧ 0 < sumL p l c := by
  unfold RefOk exM
  constructor
  · rintro ⟨hr, s, t, h1, h2⟩
    simp only [Option.ite_none_right_eq_some] at h1
    obtain ⟨⟨h3, h4⟩, h5⟩ := h1
    rcases exL_chain p l c (arcZ l (c.getLastD 0)).t 0 0 with ⟨k1, t', k2⟩ | ⟨k1, k2⟩
    · rw [k2] at h5
      injection h5 with h5
      injection h5 with h5 h6
      exact ⟨hr, h3, h4, (ring_iff l c h3.1).2 k1, by omega⟩
    · rw [k2] at h5; cases h5
  · rintro ⟨hr, h3, h4, h5, h6⟩
    refine ⟨hr, ?_⟩
    rcases exL_chain p l c (arcZ l (c.getLastD 0)).t 0 0 with ⟨k1, t', k2⟩ | ⟨k1, k2⟩
    · refine ⟨_, _, by rw [if_pos ⟨h3, h4⟩, k2], by omega⟩
    · exact absurd ((ring_iff l c h3.1).1 h5) k1
theorem evRem (k i : Nat) (h : i < k) (_hk : k ≤ 1000) : evBin .rem (.int .i64 ((i + 1 : Nat) : Int)) (.int .i64 (k : Int)) = some (.int .i64 ((nxt k i : Nat) : Int)) := by
  simp only [evBin]
  rw [if_pos trivial, if_neg (show ¬ (k : Int) = 0 by omega)]
  have : ((i + 1 : Nat) : Int).tmod (k : Int) = ((nxt k i : Nat) : Int) := by
    rw [Int.tmod_eq_emod_of_nonneg (by omega)]
    unfold nxt
    split
    · rename_i e; rw [e]; simp
    · rename_i e; exact Int.emod_eq_of_lt (by omega) (by omega)
  rw [this]
set_option maxRecDepth 100000 in
theorem round22a (fuel : Nat) (A : Arena) {c : List Int} {a b : AV} {l : List CArc} (ha : arcsOf a = some l) (hl200 : l.length ≤ 200) (hb : SlA 1 (intsA c) b) (hc : c.length ≤ 200) {i : Nat} (hi : i < c.length) (p : AV) :
    run (envOf GC fs20') fuel [.code lp22x0] (st22x0 a p b (.int .i64 (i : Int))) A =
      if 0 ≤ c.getD i 0 ∧ c.getD i 0 ≤ (l.length : Int) - 1 then some (.normal (st22x0 a p b (.int .i64 ((i + 1 : Nat) : Int))) A) else some (.ret [.undef, a, p, b, .bool false, .undef, .int .i64 (i : Int), .undef, .undef, .undef, .undef, .bool true, .bool true, .undef, .undef] A) := by
  obtain ⟨hl, hm⟩ := arcsOf_len ha
  have hlc := hb.len
  rw [intsA_len] at hlc
  have b1 := lt_nat i c.length .i64
  rw [decide_eq_true hi] at b1
  have b3 := add1_nat i (by omega)
  have x1 := hb.int (A := A) _ _ (List.getElem?_eq_getElem hi) .i64
  have hg1 : c.getD i 0 = c[i] := by rw [List.getD_eq_getElem?_getD, List.getElem?_eq_getElem hi]; rfl
  rw [← hg1] at x1
  have b2 := evSub (a := (l.length : Int)) (b := 1) (by omega)
  have m := M32_eq (c.getD i 0) 0 ((l.length : Int) - 1)
  obtain ⟨z, hz⟩ : ∃ z, z = c.getD i 0 := ⟨_, rfl⟩
  rw [← hz] at x1 m ⊢
  obtain ⟨q, hq⟩ : ∃ q, q = (l.length : Int) - 1 := ⟨_, rfl⟩
  rw [← hq] at b2 m ⊢
  obtain ⟨i1, hi1⟩ : ∃ i1 : Nat, i1 = i + 1 := ⟨_, rfl⟩
  rw [← hi1] at b3 ⊢
  by_cases h : 0 ≤ z ∧ z ≤ q
  · rw [if_pos h]
    rw [decide_eq_true h] at m
    simp [lp22x0, hl, hlc, b1, b2, b3, x1, m, -evBin, -evIndexSl, -evLenSl]
  · rw [if_neg h]
    rw [decide_eq_false h] at m
    simp [lp22x0, hl, hlc, b1, b2, x1, m, -evBin, -evIndexSl, -evLenSl]
def sumT (p : Int) (l : List CArc) (c : List Int) (i : Nat) : Int := sumL p l (c.take i)
theorem sumT_succ (p : Int) (l : List CArc) (c : List Int) {i : Nat} (hi : i < c.length) : sumT p l c (i + 1) = sumT p l c i + (arcZ l c[i]).len p := by
  unfold sumT sumL; rw [List.take_succ_eq_append_getElem hi, List.map_append, List.sum_append]; simp only [List.map_cons, List.map_nil, List.sum_cons, List.sum_nil]; omega
theorem sumT_bd {n p : Int} {l : List CArc} (hn : n ≤ 32) (hp : isPer p) (hv : ∀ x ∈ l, okA n x) {c : List Int} (hin : inIdx l c) : ∀ i, i ≤ c.length → -(3000000 * (i : Int)) ≤ sumT p l c i ∧ sumT p l c i ≤ 3000000 * i
  | 0, _ => by simp [sumT, sumL]
  | i + 1, h => by
    have ih := sumT_bd hn hp hv hin i (by omega)
    rw [sumT_succ p l c (by omega)]
    obtain ⟨j, hj, _, he⟩ := arcZ_at (hin _ (List.getElem_mem (show i < c.length by omega)))
    have hok := hv _ (List.getElem_mem hj)
    have hle := len_in (n := 32) (a := l[j]) ⟨by have := hok.1; omega, by have := hok.2.1; omega, hok.2.2.1, hok.2.2.2⟩ hp
    rw [he]
    omega
set_option maxRecDepth 100000 in
theorem round22b (fuel : Nat) (A : Arena) {c : List Int} {a b : AV} {l : List CArc} (ha : arcsOf a = some l) {n p : Int} (hn : n ≤ 32) (hp : isPer p) (hv : ∀ x ∈ l, okA n x) (hb : SlA 1 (intsA c) b) (hc : c.length ≤ 200) (hin : inIdx l c) {i : Nat} (hi : i < c.length) :
    run (envOf GC fs20') fuel [.code lp22x1] (st22x1 a (.int .i64 p) b (.int .i64 (sumT p l c i)) (.int .i64 (i : Int))) A =
      if (arcZ l (c.getD i 0)).t = (arcZ l (c.getD (nxt c.length i) 0)).f then some (.normal (st22x1 a (.int .i64 p) b (.int .i64 (sumT p l c (i + 1))) (.int .i64 ((i + 1 : Nat) : Int))) A) else some (.ret [.undef, a, .int .i64 p, b, .bool false, .undef, .undef, .int .i64 (sumT p l c i), .int .i64 (i : Int), .int .i64 (c.getD (nxt c.length i) 0), .undef, .undef, .undef, .bool true, .bool true] A) := by
  have hlc := hb.len
  rw [intsA_len] at hlc
  have b1 := lt_nat i c.length .i64
  rw [decide_eq_true hi] at b1
  have b3 := add1_nat i (by omega)
  have b0 := evRem c.length i hi (by omega)
  have hnx : nxt c.length i < c.length := by unfold nxt; split <;> omega
  have hbd := sumT_bd hn hp hv hin i (by omega)
  rw [sumT_succ p l c hi]
  have x1 := hb.int (A := A) _ _ (List.getElem?_eq_getElem hi) .i64
  have x2 := hb.int (A := A) _ _ (List.getElem?_eq_getElem hnx) .i64
  have hg1 : c.getD i 0 = c[i] := by rw [List.getD_eq_getElem?_getD, List.getElem?_eq_getElem hi]; rfl
  have hg2 : c.getD (nxt c.length i) 0 = c[nxt c.length i] := by rw [List.getD_eq_getElem?_getD, List.getElem?_eq_getElem hnx]; rfl
  rw [hg1, hg2]
  obtain ⟨j, hj, hj1, hj2⟩ := arcZ_at (hin _ (List.getElem_mem hi))
  obtain ⟨k, hk, hk1, hk2⟩ := arcZ_at (hin _ (List.getElem_mem hnx))
  rw [hj2, hk2]
  rw [hj1] at x1
  rw [hk1] at x2 ⊢
  have y1 := arcsOf_at ha hj A .i64
  have y2 := arcsOf_at ha hk A .i64
  have hok := hv _ (List.getElem_mem hj)
  have m := m39 hn hok hp
  have hle := len_in (n := 32) (a := l[j]) ⟨by have := hok.1; omega, by have := hok.2.1; omega, hok.2.2.1, hok.2.2.2⟩ hp
  have b2 := evNeq l[j].t l[k].f
  obtain ⟨S, hS⟩ : ∃ S, S = sumT p l c i := ⟨_, rfl⟩
  rw [← hS] at hbd ⊢
  obtain ⟨w, hw⟩ : ∃ w, w = l[j].len p := ⟨_, rfl⟩
  rw [← hw] at m hle ⊢
  have b4 := evAdd (a := S) (b := w) (by omega)
  obtain ⟨i1, hi1⟩ : ∃ i1 : Nat, i1 = i + 1 := ⟨_, rfl⟩
  rw [← hi1] at b3 b0 ⊢
  obtain ⟨nx, hnx1⟩ : ∃ nx, nx = nxt c.length i := ⟨_, rfl⟩
  rw [← hnx1] at b0 x2
  by_cases h : l[j].t = l[k].f
  · rw [if_pos h]
    rw [decide_eq_false (not_not_intro h)] at b2
    simp [lp22x1, hlc, b0, b1, b2, b3, b4, x1, x2, y1, y2, m, -evBin, -evIndexSl, -evLenSl]
  · rw [if_neg h]
    rw [decide_eq_true h] at b2
    simp [lp22x1, hlc, b0, b1, b2, b3, x1, x2, y1, y2, -evBin, -evIndexSl, -evLenSl]
open Classical in
set_option maxRecDepth 100000 in
theorem spec22 : PureSpec Try.prog GC 22 M21 := by
  refine PureSpec.of_ev (E := envOf GC fs20') (envOf_sound sound20) rfl at22 comp22 1 ?_
  intro args r h
  unfold M21 at h
  split at h
  rotate_left
  · cases h
  rename_i n a p b
  split at h
  rotate_left
  · cases h
  rename_i l s hl hs
  injection h with h; subst h
  refine ⟨300, ?_⟩
  obtain ⟨hb, _, hsl⟩ := intsOf_some hs
  have f1 : ∀ A n, frz A n a = a := fun A n => arcsOf_frz hl A n
  have f3 := arcsOf_noRef hl
  have m1 : M28 [.int .i64 n, a, .int .i64 p] = some (.bool (decide (Ready n l p))) := by simp only [M28, hl, Option.map_some]
  have hlen := hb.len
  have hlen' : (s.map (AV.int .i64)).length = s.length := by simp
  rw [hlen'] at hlen
  have m2 := M32_eq (s.length : Int) 1 200
  rw [show decide (RefOk n l p s) = decide (Ready n l p ∧ (1 ≤ s.length ∧ s.length ≤ 200) ∧ inIdx l s ∧ ringP l s ∧ 0 < sumL p l s) from by simp only [refOk_iff]]
  rw [evP_run _ _ rfl]
  by_cases hr : Ready n l p
  rotate_left
  · rw [decide_eq_false hr] at m1
    rw [decide_eq_false (show ¬ (Ready n l p ∧ _) from fun h => hr h.1)]
    simp [mf22, f1, f3, m1, frz_i, frz_b, scalarB, -frz, -evLenSl]
  rw [decide_eq_true hr] at m1
  by_cases h1 : 1 ≤ s.length ∧ s.length ≤ 200
  rotate_left
  · rw [decide_eq_false (by omega)] at m2
    rw [decide_eq_false (show ¬ (Ready n l p ∧ (1 ≤ s.length ∧ s.length ≤ 200) ∧ _) from fun h => h1 h.2.1)]
    simp [mf22, f1, f3, m1, hlen, m2, frz_i, frz_b, scalarB, -frz, -evLenSl]
  rw [decide_eq_true (by omega)] at m2
  have hl200 := hr.1.2.1
  have hrange : (∀ i, i < s.length → 0 ≤ s.getD i 0 ∧ s.getD i 0 ≤ (l.length : Int) - 1) ↔ inIdx l s := by
    constructor
    · intro h x hx
      obtain ⟨i, hi, rfl⟩ := List.mem_iff_getElem.1 hx
      have := h i hi
      rw [List.getD_eq_getElem?_getD, List.getElem?_eq_getElem hi] at this
      exact this
    · intro h i hi
      rw [List.getD_eq_getElem?_getD, List.getElem?_eq_getElem hi]
      exact h _ (List.getElem_mem _)
  have lp1 := iter_search (E := envOf GC fs20') (fuel := 300) (a := lp22x0) (mask := mask22x0) (fun i => st22x0 a (.int .i64 p) b (.int .i64 (i : Int))) (fun _ => []) s.length (fun i => ¬ (0 ≤ s.getD i 0 ∧ s.getD i 0 ≤ (l.length : Int) - 1))
    (oF := fun i => .ret [.undef, a, .int .i64 p, b, .bool false, .undef, .int .i64 (i : Int), .undef, .undef, .undef, .undef, .bool true, .bool true, .undef, .undef] []) (oE := .exit 0 ((st22x0 a (.int .i64 p) b (.int .i64 (s.length : Int))).set 11 (.bool false)) [])
    (fun _ => cl22x0) (fun _ _ _ h => by cases h) (fun _ _ h => by cases h)
    (fun i hi hp => by
      rw [round22a _ [] hl hl200 hb h1.2 hi]
      exact if_pos (Classical.not_not.1 hp))
    (fun i hi hp => by
      rw [round22a _ [] hl hl200 hb h1.2 hi]
      exact if_neg hp)
    (by simp [lp22x0, hlen, -evLenSl]) (show s.length < 300 by omega)
  rcases lp1 with ⟨i, hi, hp, hj, lp1⟩ | ⟨hp, lp1⟩
  · have lp1 : iter (evC (envOf GC fs20') 300 lp22x0) mask22x0 300 (st22x0 a (.int .i64 p) b (.int .i64 0)) [] = _ := lp1
    rw [decide_eq_false (show ¬ (Ready n l p ∧ (1 ≤ s.length ∧ s.length ≤ 200) ∧ inIdx l s ∧ _) from fun h => hp (hrange.2 h.2.2.1 i hi))]
    simp [mf22, f1, f3, m1, hlen, m2, go22x0 lp1, frz_i, frz_b, scalarB, -frz, -evLenSl]
  have lp1 : iter (evC (envOf GC fs20') 300 lp22x0) mask22x0 300 (st22x0 a (.int .i64 p) b (.int .i64 0)) [] = _ := lp1
  have hin := hrange.1 fun i hi => Classical.not_not.1 (hp i hi)
  have lp2 := iter_search (E := envOf GC fs20') (fuel := 300) (a := lp22x1) (mask := mask22x1) (fun i => st22x1 a (.int .i64 p) b (.int .i64 (sumT p l s i)) (.int .i64 (i : Int))) (fun _ => []) s.length (fun i => ¬ (arcZ l (s.getD i 0)).t = (arcZ l (s.getD (nxt s.length i) 0)).f)
    (oF := fun i => .ret [.undef, a, .int .i64 p, b, .bool false, .undef, .undef, .int .i64 (sumT p l s i), .int .i64 (i : Int), .int .i64 (s.getD (nxt s.length i) 0), .undef, .undef, .undef, .bool true, .bool true] []) (oE := .exit 2 ((st22x1 a (.int .i64 p) b (.int .i64 (sumT p l s s.length)) (.int .i64 (s.length : Int))).set 13 (.bool false)) [])
    (fun _ => cl22x1) (fun _ _ _ h => by cases h) (fun _ _ h => by cases h)
    (fun i hi hp => by
      rw [round22b _ [] hl (by have := hr.1.1; omega) hr.2 hr.1.2.2 hb h1.2 hin hi]
      exact if_pos (Classical.not_not.1 hp))
    (fun i hi hp => by
      rw [round22b _ [] hl (by have := hr.1.1; omega) hr.2 hr.1.2.2 hb h1.2 hin hi]
      exact if_neg hp)
    (by simp [lp22x1, hlen, -evLenSl]) (show s.length < 300 by omega)
  have h0 : sumT p l s 0 = 0 := by simp [sumT, sumL]
  have hgs : ∀ i x, s[i]? = some x → s.getD i 0 = x := fun i x h => by rw [List.getD_eq_getElem?_getD, h]; rfl
  rcases lp2 with ⟨i, hi, hp2, hj, lp2⟩ | ⟨hp2, lp2⟩
  · have lp2 : iter (evC (envOf GC fs20') 300 lp22x1) mask22x1 300 (st22x1 a (.int .i64 p) b (.int .i64 (sumT p l s 0)) (.int .i64 0)) [] = _ := lp2
    rw [h0] at lp2
    have hnx : nxt s.length i < s.length := by unfold nxt; split <;> omega
    rw [decide_eq_false (show ¬ (Ready n l p ∧ (1 ≤ s.length ∧ s.length ≤ 200) ∧ inIdx l s ∧ ringP l s ∧ _) from fun h => hp2 (by
      have := h.2.2.2.1 i s[i] s[nxt s.length i] (List.getElem?_eq_getElem hi) (List.getElem?_eq_getElem hnx)
      rw [hgs _ _ (List.getElem?_eq_getElem hi), hgs _ _ (List.getElem?_eq_getElem hnx)]; exact this))]
    simp [mf22, f1, f3, m1, hlen, m2, go22x0 lp1, go22x1 lp2, frz_i, frz_b, scalarB, -frz, -evLenSl]
  · have lp2 : iter (evC (envOf GC fs20') 300 lp22x1) mask22x1 300 (st22x1 a (.int .i64 p) b (.int .i64 (sumT p l s 0)) (.int .i64 0)) [] = _ := lp2
    rw [h0] at lp2
    have hring : ringP l s := fun i x y hx hy => by
      have hi := (List.getElem?_eq_some_iff.1 hx).1
      have := Classical.not_not.1 (hp2 i hi)
      rw [hgs _ _ hx, hgs _ _ hy] at this
      exact this
    have hsum : sumT p l s s.length = sumL p l s := by unfold sumT; rw [List.take_length]
    rw [hsum] at lp2
    have b1 := evGtr (sumL p l s) 0
    have e : decide (Ready n l p ∧ (1 ≤ s.length ∧ s.length ≤ 200) ∧ inIdx l s ∧ ringP l s ∧ 0 < sumL p l s) = decide (sumL p l s > 0) := by
      rw [Bool.eq_iff_iff, decide_eq_true_eq, decide_eq_true_eq]
      exact ⟨fun h => h.2.2.2.2, fun h => ⟨hr, h1, hin, hring, h⟩⟩
    rw [e]
    obtain ⟨z, hz⟩ : ∃ z, z = sumL p l s := ⟨_, rfl⟩
    rw [← hz] at lp2 b1 ⊢
    obtain ⟨d, hd⟩ : ∃ d, d = decide (z > 0) := ⟨_, rfl⟩
    rw [← hd] at b1 ⊢
    simp [mf22, f1, f3, m1, hlen, m2, b1, go22x0 lp1, go22x1 lp2, frz_i, frz_b, scalarB, -frz, -evLenSl, -evBin]
end Go.Proofs.Ytfmlfekcdbfioaa
/-
  The function longest of the reference, compiled; written by wip/gen.
-/
namespace Go.Proofs.Ytfmlfekcdbfioaa
open Go
def lp29zx0 : MC := .seq (.seq (.region [⟨none, .mv (.var 8), none⟩, ⟨none, .mv (.var 0), none⟩, ⟨some 13, .bin .lss (.tmp 0) (.tmp 1), none⟩]) (.cond (.var 13) .skip (.exit 4))) (.seq (.seq (.block 5 (.region [⟨none, .mv (.var 6), none⟩, ⟨none, .mv (.var 7), none⟩, ⟨none, .indexSl 1 (.tmp 0) (.tmp 1), none⟩, ⟨none, .load false 1 (.tmp 2), none⟩, ⟨none, .mv (.var 8), none⟩, ⟨none, .indexSl 1 (.tmp 3) (.tmp 4), none⟩, ⟨none, .store 1 (.tmp 5) (.cst (.int .i64 (-1125899906842624))), none⟩])) (.kill [3, 9, 10, 11, 12, 13, 14, 15, 16])) (.region [⟨none, .mv (.var 8), none⟩, ⟨none, .bin .add (.tmp 0) (.cst (.int .i64 1)), none⟩, ⟨some 8, .mv (.tmp 1), none⟩]))
def lp29zx1 : MC := .seq (.seq (.region [⟨none, .mv (.var 9), none⟩, ⟨none, .mv (.var 1), none⟩, ⟨none, .lenSl (.tmp 1), none⟩, ⟨some 15, .bin .lss (.tmp 0) (.tmp 2), none⟩]) (.cond (.var 15) .skip (.exit 6))) (.seq (.seq (.block 7 (.seq (.region [⟨none, .mv (.var 4), none⟩, ⟨none, .mv (.var 5), none⟩, ⟨none, .bin .sub (.tmp 1) (.cst (.int .i64 1)), none⟩, ⟨none, .indexSl 1 (.tmp 0) (.tmp 2), none⟩, ⟨none, .load false 1 (.tmp 3), none⟩, ⟨none, .mv (.var 7), none⟩, ⟨none, .indexSl 1 (.tmp 4) (.tmp 5), none⟩, ⟨none, .load false 1 (.tmp 6), none⟩, ⟨none, .mv (.var 1), none⟩, ⟨none, .mv (.var 9), none⟩, ⟨none, .indexSl 4 (.tmp 8) (.tmp 9), none⟩, ⟨none, .fieldAddr 0 (.tmp 10), none⟩, ⟨none, .load false 1 (.tmp 11), none⟩, ⟨none, .indexSl 1 (.tmp 7) (.tmp 12), none⟩, ⟨none, .load false 1 (.tmp 13), none⟩, ⟨some 10, .mv (.tmp 14), none⟩]) (.seq (.region [⟨none, .mv (.var 10), none⟩, ⟨some 16, .bin .gtr (.tmp 0) (.cst (.int .i64 (-1125899906842624))), none⟩]) (.cond (.var 16) (.region [⟨none, .mv (.var 6), none⟩, ⟨none, .mv (.var 7), none⟩, ⟨none, .indexSl 1 (.tmp 0) (.tmp 1), none⟩, ⟨none, .load false 1 (.tmp 2), none⟩, ⟨none, .mv (.var 1), none⟩, ⟨none, .mv (.var 9), none⟩, ⟨none, .indexSl 4 (.tmp 4) (.tmp 5), none⟩, ⟨none, .fieldAddr 1 (.tmp 6), none⟩, ⟨none, .load false 1 (.tmp 7), none⟩, ⟨none, .mv (.var 6), none⟩, ⟨none, .mv (.var 7), none⟩, ⟨none, .indexSl 1 (.tmp 9) (.tmp 10), none⟩, ⟨none, .load false 1 (.tmp 11), none⟩, ⟨none, .mv (.var 1), none⟩, ⟨none, .mv (.var 9), none⟩, ⟨none, .indexSl 4 (.tmp 13) (.tmp 14), none⟩, ⟨none, .fieldAddr 1 (.tmp 15), none⟩, ⟨none, .load false 1 (.tmp 16), none⟩, ⟨none, .indexSl 1 (.tmp 12) (.tmp 17), none⟩, ⟨none, .load false 1 (.tmp 18), none⟩, ⟨none, .mv (.var 10), none⟩, ⟨none, .mv (.var 1), none⟩, ⟨none, .mv (.var 9), none⟩, ⟨none, .indexSl 4 (.tmp 21) (.tmp 22), none⟩, ⟨none, .load true 4 (.tmp 23), none⟩, ⟨none, .mv (.var 2), none⟩, ⟨none, .call (.fn 39) [.tmp 24, .tmp 25], none⟩, ⟨none, .bin .add (.tmp 20) (.tmp 26), none⟩, ⟨none, .minmax true (.tmp 19) [.tmp 27], none⟩, ⟨none, .indexSl 1 (.tmp 3) (.tmp 8), none⟩, ⟨none, .store 1 (.tmp 29) (.tmp 28), none⟩]) .skip)))) (.kill [3, 8, 10, 11, 12, 13, 14, 15, 16])) (.region [⟨none, .mv (.var 9), none⟩, ⟨none, .bin .add (.tmp 0) (.cst (.int .i64 1)), none⟩, ⟨some 9, .mv (.tmp 1), none⟩]))
def lp29zx2 : MC := .seq (.seq (.region [⟨none, .mv (.var 7), none⟩, ⟨none, .mv (.var 0), none⟩, ⟨some 12, .bin .lss (.tmp 0) (.tmp 1), none⟩]) (.cond (.var 12) .skip (.exit 2))) (.seq (.seq (.block 3 (.seq (.region [⟨none, .mv (.var 6), none⟩, ⟨none, .mv (.var 7), none⟩, ⟨none, .mv (.var 0), none⟩, ⟨none, .makeSlice 1 8 (.int .i64 0) (.tmp 2) (.tmp 2), none⟩, ⟨none, .indexSl 1 (.tmp 0) (.tmp 1), none⟩, ⟨none, .store 1 (.tmp 4) (.tmp 3), none⟩]) (.seq (.seq (.region [⟨some 8, .mv (.cst (.int .i64 0)), none⟩]) (.seq (.block 4 (.loop [3, 9, 10, 11, 12, 13, 14, 15, 16] lp29zx0)) (.kill [3, 8, 9, 10, 11, 12, 13, 14, 15, 16]))) (.seq (.seq (.region [⟨none, .mv (.var 5), none⟩, ⟨some 14, .bin .eql (.tmp 0) (.cst (.int .i64 0)), none⟩]) (.cond (.var 14) (.seq (.region [⟨none, .mv (.var 6), none⟩, ⟨none, .mv (.var 7), none⟩, ⟨none, .indexSl 1 (.tmp 0) (.tmp 1), none⟩, ⟨none, .load false 1 (.tmp 2), none⟩, ⟨none, .mv (.var 7), none⟩, ⟨none, .indexSl 1 (.tmp 3) (.tmp 4), none⟩, ⟨none, .store 1 (.tmp 5) (.cst (.int .i64 0)), none⟩]) (.exit 3)) .skip)) (.seq (.region [⟨some 9, .mv (.cst (.int .i64 0)), none⟩]) (.seq (.block 6 (.loop [3, 8, 10, 11, 12, 13, 14, 15, 16] lp29zx1)) (.kill [3, 8, 9, 10, 11, 12, 13, 14, 15, 16]))))))) (.kill [3, 8, 9, 10, 11, 12, 13, 14, 15, 16])) (.region [⟨none, .mv (.var 7), none⟩, ⟨none, .bin .add (.tmp 0) (.cst (.int .i64 1)), none⟩, ⟨some 7, .mv (.tmp 1), none⟩]))
def lp29zx3 : MC := .seq (.seq (.region [⟨none, .mv (.var 5), none⟩, ⟨none, .mv (.var 0), none⟩, ⟨some 11, .bin .leq (.tmp 0) (.tmp 1), none⟩]) (.cond (.var 11) .skip (.exit 0))) (.seq (.seq (.block 1 (.seq (.region [⟨none, .mv (.var 0), none⟩, ⟨none, .makeSlice 1 24 .nilS (.tmp 0) (.tmp 0), none⟩, ⟨some 6, .mv (.tmp 1), none⟩]) (.seq (.seq (.region [⟨some 7, .mv (.cst (.int .i64 0)), none⟩]) (.seq (.block 2 (.loop [3, 8, 9, 10, 11, 12, 13, 14, 15, 16] lp29zx2)) (.kill [3, 7, 8, 9, 10, 11, 12, 13, 14, 15, 16]))) (.region [⟨none, .mv (.var 4), none⟩, ⟨none, .mv (.var 6), none⟩, ⟨none, .buildSlice 1 [.tmp 1], none⟩, ⟨none, .append 1 24 (.tmp 0) (.tmp 2), none⟩, ⟨some 4, .mv (.tmp 3), none⟩])))) (.kill [3, 6, 7, 8, 9, 10, 11, 12, 13, 14, 15, 16])) (.region [⟨none, .mv (.var 5), none⟩, ⟨none, .bin .add (.tmp 0) (.cst (.int .i64 1)), none⟩, ⟨some 5, .mv (.tmp 1), none⟩]))
def mf29z : MFun := ⟨3, 17, .seq (.region [⟨some 3, .mv (.cst .nilS), none⟩]) (.seq (.region [⟨some 4, .mv (.cst .nilS), none⟩]) (.seq (.seq (.region [⟨some 5, .mv (.cst (.int .i64 0)), none⟩]) (.seq (.block 0 (.loop [3, 6, 7, 8, 9, 10, 11, 12, 13, 14, 15, 16] lp29zx3)) (.kill [0, 1, 2, 3, 5, 6, 7, 8, 9, 10, 11, 12, 13, 14, 15, 16]))) (.seq (.region [⟨none, .mv (.var 4), none⟩, ⟨some 3, .mv (.tmp 0), none⟩]) .ret))), [.tmp 3]⟩
def mask29zx0 : List Nat := [3, 9, 10, 11, 12, 13, 14, 15, 16]
abbrev st29zx0 (v0 v1 v2 v4 v5 v6 v7 v8 : AV) : List AV := [v0, v1, v2, .undef, v4, v5, v6, v7, v8, .undef, .undef, .undef, .undef, .undef, .undef, .undef, .undef]
theorem cl29zx0 {v0 v1 v2 d3 v4 v5 v6 v7 v8 d9 d10 d11 d12 d13 d14 d15 d16 : AV} : clear mask29zx0 [v0, v1, v2, d3, v4, v5, v6, v7, v8, d9, d10, d11, d12, d13, d14, d15, d16] = st29zx0 v0 v1 v2 v4 v5 v6 v7 v8 := by simp only [mask29zx0, clear, List.foldl_cons, List.foldl_nil, List.set_cons_zero, List.set_cons_succ]
theorem go29zx0 {E : Env} {fuel : Nat} {A : Arena} {o : Out} {k : List KC} {v0 v1 v2 d3 v4 v5 v6 v7 v8 d9 d10 d11 d12 d13 d14 d15 d16 : AV} (h : iter (evC E fuel lp29zx0) mask29zx0 fuel (st29zx0 v0 v1 v2 v4 v5 v6 v7 v8) A = some o) :
    run E fuel (.code (.loop [3, 9, 10, 11, 12, 13, 14, 15, 16] lp29zx0) :: k) [v0, v1, v2, d3, v4, v5, v6, v7, v8, d9, d10, d11, d12, d13, d14, d15, d16] A = after E fuel k o := run_loopC mask29zx0 _ _ (by rw [cl29zx0]; exact h)
def mask29zx1 : List Nat := [3, 8, 10, 11, 12, 13, 14, 15, 16]
abbrev st29zx1 (v0 v1 v2 v4 v5 v6 v7 v9 : AV) : List AV := [v0, v1, v2, .undef, v4, v5, v6, v7, .undef, v9, .undef, .undef, .undef, .undef, .undef, .undef, .undef]
theorem cl29zx1 {v0 v1 v2 d3 v4 v5 v6 v7 d8 v9 d10 d11 d12 d13 d14 d15 d16 : AV} : clear mask29zx1 [v0, v1, v2, d3, v4, v5, v6, v7, d8, v9, d10, d11, d12, d13, d14, d15, d16] = st29zx1 v0 v1 v2 v4 v5 v6 v7 v9 := by simp only [mask29zx1, clear, List.foldl_cons, List.foldl_nil, List.set_cons_zero, List.set_cons_succ]
theorem go29zx1 {E : Env} {fuel : Nat} {A : Arena} {o : Out} {k : List KC} {v0 v1 v2 d3 v4 v5 v6 v7 d8 v9 d10 d11 d12 d13 d14 d15 d16 : AV} (h : iter (evC E fuel lp29zx1) mask29zx1 fuel (st29zx1 v0 v1 v2 v4 v5 v6 v7 v9) A = some o) :
    run E fuel (.code (.loop [3, 8, 10, 11, 12, 13, 14, 15, 16] lp29zx1) :: k) [v0, v1, v2, d3, v4, v5, v6, v7, d8, v9, d10, d11, d12, d13, d14, d15, d16] A = after E fuel k o := run_loopC mask29zx1 _ _ (by rw [cl29zx1]; exact h)
def mask29zx2 : List Nat := [3, 8, 9, 10, 11, 12, 13, 14, 15, 16]
abbrev st29zx2 (v0 v1 v2 v4 v5 v6 v7 : AV) : List AV := [v0, v1, v2, .undef, v4, v5, v6, v7, .undef, .undef, .undef, .undef, .undef, .undef, .undef, .undef, .undef]
theorem cl29zx2 {v0 v1 v2 d3 v4 v5 v6 v7 d8 d9 d10 d11 d12 d13 d14 d15 d16 : AV} : clear mask29zx2 [v0, v1, v2, d3, v4, v5, v6, v7, d8, d9, d10, d11, d12, d13, d14, d15, d16] = st29zx2 v0 v1 v2 v4 v5 v6 v7 := by simp only [mask29zx2, clear, List.foldl_cons, List.foldl_nil, List.set_cons_zero, List.set_cons_succ]
theorem go29zx2 {E : Env} {fuel : Nat} {A : Arena} {o : Out} {k : List KC} {v0 v1 v2 d3 v4 v5 v6 v7 d8 d9 d10 d11 d12 d13 d14 d15 d16 : AV} (h : iter (evC E fuel lp29zx2) mask29zx2 fuel (st29zx2 v0 v1 v2 v4 v5 v6 v7) A = some o) :
    run E fuel (.code (.loop [3, 8, 9, 10, 11, 12, 13, 14, 15, 16] lp29zx2) :: k) [v0, v1, v2, d3, v4, v5, v6, v7, d8, d9, d10, d11, d12, d13, d14, d15, d16] A = after E fuel k o := run_loopC mask29zx2 _ _ (by rw [cl29zx2]; exact h)
def mask29zx3 : List Nat := [3, 6, 7, 8, 9, 10, 11, 12, 13, 14, 15, 16]
abbrev st29zx3 (v0 v1 v2 v4 v5 : AV) : List AV := [v0, v1, v2, .undef, v4, v5, .undef, .undef, .undef, .undef, .undef, .undef, .undef, .undef, .undef, .undef, .undef]
theorem cl29zx3 {v0 v1 v2 d3 v4 v5 d6 d7 d8 d9 d10 d11 d12 d13 d14 d15 d16 : AV} : clear mask29zx3 [v0, v1, v2, d3, v4, v5, d6, d7, d8, d9, d10, d11, d12, d13, d14, d15, d16] = st29zx3 v0 v1 v2 v4 v5 := by simp only [mask29zx3, clear, List.foldl_cons, List.foldl_nil, List.set_cons_zero, List.set_cons_succ]
theorem go29zx3 {E : Env} {fuel : Nat} {A : Arena} {o : Out} {k : List KC} {v0 v1 v2 d3 v4 v5 d6 d7 d8 d9 d10 d11 d12 d13 d14 d15 d16 : AV} (h : iter (evC E fuel lp29zx3) mask29zx3 fuel (st29zx3 v0 v1 v2 v4 v5) A = some o) :
    run E fuel (.code (.loop [3, 6, 7, 8, 9, 10, 11, 12, 13, 14, 15, 16] lp29zx3) :: k) [v0, v1, v2, d3, v4, v5, d6, d7, d8, d9, d10, d11, d12, d13, d14, d15, d16] A = after E fuel k o := run_loopC mask29zx3 _ _ (by rw [cl29zx3]; exact h)
set_option maxHeartbeats 4000000 in
theorem comp29z : compFun Try.prog Try.f29 3 [0, 1, 2, 6, 7, 8, 9, 10, 11, 12, 13, 16, 23, 33, 43, 53, 72] [39] false ([[3, 6, 7, 8, 9, 10, 11, 12, 13, 14, 15, 16], [3, 8, 9, 10, 11, 12, 13, 14, 15, 16], [3, 9, 10, 11, 12, 13, 14, 15, 16], [3, 8, 10, 11, 12, 13, 14, 15, 16]], [[3, 9, 10, 11, 12, 13, 14, 15, 16], [3, 8, 9, 10, 11, 12, 13, 14, 15, 16], [3, 8, 10, 11, 12, 13, 14, 15, 16], [3, 8, 9, 10, 11, 12, 13, 14, 15, 16], [3, 8, 9, 10, 11, 12, 13, 14, 15, 16], [3, 7, 8, 9, 10, 11, 12, 13, 14, 15, 16], [3, 6, 7, 8, 9, 10, 11, 12, 13, 14, 15, 16], [0, 1, 2, 3, 5, 6, 7, 8, 9, 10, 11, 12, 13, 14, 15, 16]]) = some mf29z := by kernel_rfl
end Go.Proofs.Ytfmlfekcdbfioaa
/-
  Cycle, plain: ways, arc by arc at their end; the reference's numbers.
-/
namespace Go.Proofs.Ytfmlfekcdbfioaa
open Go

theorem best_unique {P : Int → Prop} {x y : LP} (h1 : bestOf P x) (h2 : bestOf P y) : x = y := by
  rcases h1 with ⟨e1, a1⟩ | ⟨e1, a1, b1⟩ <;> rcases h2 with ⟨e2, a2⟩ | ⟨e2, a2, b2⟩
  · rw [e1, e2]
  · exact absurd a2 (a1 _)
  · exact absurd a1 (a2 _)
  · have := b1 _ a2
    have := b2 _ a1
    obtain ⟨x1, x2⟩ := x
    obtain ⟨y1, y2⟩ := y
    simp only at *
    rw [e1, e2]
    congr 1; omega
theorem WL_snoc {L : List LArc} {u v j : Nat} {z : Int} : WL L u v (j + 1) z ↔ ∃ a ∈ L, a.2.1 = v ∧ ∃ z', WL L u a.1 j z' ∧ z = z' + a.2.2 := by
  constructor
  · rintro ⟨r, h1, h2, h3⟩
    have hne : r ≠ [] := fun e => by rw [e] at h2; simp at h2
    obtain ⟨q, a, rfl⟩ : ∃ q a, r = q ++ [a] := ⟨r.dropLast, r.getLast hne, (List.dropLast_concat_getLast hne).symm⟩
    obtain ⟨m, k1, k2, k3, k4⟩ := isW_app.1 h1
    refine ⟨a, k2, k4, lenW q, ⟨q, by rw [k3]; exact k1, by simpa using h2, rfl⟩, ?_⟩
    rw [← h3, lenW_app]; simp [lenW]
  · rintro ⟨a, h1, h2, z', ⟨q, k1, k2, rfl⟩, rfl⟩
    exact ⟨q ++ [a], isW_app.2 ⟨a.1, k1, h1, rfl, h2⟩, by simp [k2], by rw [lenW_app]; simp [lenW]⟩
theorem WL_bd {L : List LArc} {n : Nat} (hok : ArcsOk n L) : ∀ {j u v : Nat} {z : Int}, WL L u v j z → -(3000000 * (j : Int)) ≤ z ∧ z ≤ 3000000 * j
  | 0, u, v, z, h => by have := (WL_zero.1 h).2; omega
  | j + 1, u, v, z, h => by
    obtain ⟨a, h1, h2, z', h3, rfl⟩ := WL_succ.1 h
    have := WL_bd hok h3
    have := (hok a h1).2.2
    omega
def stF (prev cur : Nat → LP) (a : LArc) : Nat → LP := fun v => if v = a.2.1 then moreP (cur v) (plusP (prev a.1) a.2.2) else cur v
theorem stF_best {L0 : List LArc} {n u j : Nat} (hok : ArcsOk n L0) {prev : Nat → LP} (hp : ∀ v, v < n → bestOf (WL L0 u v j) (prev v)) : ∀ (L : List LArc), (∀ a ∈ L, a ∈ L0) → ∀ (cur : Nat → LP) (D : Nat → Int → Prop), (∀ v, v < n → bestOf (D v) (cur v)) →
    ∀ v, v < n → bestOf (fun z => D v z ∨ ∃ a ∈ L, a.2.1 = v ∧ ∃ z', WL L0 u a.1 j z' ∧ z = z' + a.2.2) (L.foldl (stF prev) cur v)
  | [], _, cur, D, hD, v, hv => (hD v hv).congr fun z => ⟨.inl, fun h => h.elim id fun ⟨a, h, _⟩ => by cases h⟩
  | a :: L, hL, cur, D, hD, v, hv => by
    obtain ⟨o1, o2, _⟩ := hok a (hL a (by simp))
    have := stF_best hok hp L (fun b hb => hL b (by simp [hb])) (stF prev cur a) (fun v z => D v z ∨ (a.2.1 = v ∧ ∃ z', WL L0 u a.1 j z' ∧ z = z' + a.2.2)) (fun w hw => by
      unfold stF
      by_cases haw : w = a.2.1
      · rw [if_pos haw]
        exact (best_more (hD w hw) (best_plus (hp _ o1) a.2.2)).congr fun z => by
          constructor
          · rintro (h | ⟨z', h1, h2⟩)
            · exact .inl h
            · exact .inr ⟨haw.symm, z', h1, by omega⟩
          · rintro (h | ⟨_, z', h1, h2⟩)
            · exact .inl h
            · exact .inr ⟨z', h1, by omega⟩
      · rw [if_neg haw]
        exact (hD w hw).congr fun z => ⟨.inl, fun h => h.elim id fun h => absurd h.1.symm haw⟩) v hv
    rw [List.foldl_cons]
    refine this.congr fun z => ?_
    constructor
    · rintro ((h | ⟨h1, h2⟩) | ⟨b, h1, h2⟩)
      · exact .inl h
      · exact .inr ⟨a, by simp, h1, h2⟩
      · exact .inr ⟨b, by simp [h1], h2⟩
    · rintro (h | ⟨b, h1, h2⟩)
      · exact .inl (.inl h)
      · rcases List.mem_cons.1 h1 with rfl | h1
        · exact .inl (.inr h2)
        · exact .inr ⟨b, h1, h2⟩
/-- the greatest length of a way with j arcs from u to v -/
def bst (L : List LArc) (n j u v : Nat) : LP := (hm L n v j).getD u noL
theorem bst_best {L : List LArc} {n j u v : Nat} (hok : ArcsOk n L) (hu : u < n) (hv : v < n) : bestOf (WL L u v j) (bst L n j u v) := hm_best hok hv j u hu
theorem bst_fold {L : List LArc} {n j u v : Nat} (hok : ArcsOk n L) (hu : u < n) (hv : v < n) : L.foldl (stF (bst L n j u)) (fun _ => noL) v = bst L n (j + 1) u v := by
  refine best_unique (P := WL L u v (j + 1)) ?_ (bst_best hok hu hv)
  exact (stF_best hok (fun w hw => bst_best hok hu hw) L (fun _ h => h) (fun _ => noL) (fun _ _ => False) (fun _ _ => best_none) v hv).congr fun z => by
    rw [WL_snoc]
    exact ⟨fun h => h.elim False.elim id, .inr⟩
theorem bst_zero {L : List LArc} {n u v : Nat} (_hu : u < n) (hv : v < n) : bst L n 0 u v = if v = u then (0, true) else noL := by
  unfold bst hm
  rw [getD_setP _ _ _ _ _ (by simpa using hv), rep_get]
/-- what has no way, as the reference writes it -/
def enc (x : LP) : Int := if x.2 = true then x.1 else -1125899906842624
def Wf (x : LP) : Prop := x = noL ∨ (x.2 = true ∧ -1000000000 ≤ x.1 ∧ x.1 ≤ 1000000000)
theorem best_wf {L : List LArc} {n j u v : Nat} (hok : ArcsOk n L) (hj : j ≤ 33) {P : Int → Prop} {x : LP} (h : bestOf P x) (hP : ∀ z, P z → WL L u v j z) : Wf x := by
  rcases h with ⟨e, _⟩ | ⟨e, a, _⟩
  · exact .inl e
  · have := WL_bd hok (hP _ a)
    exact .inr ⟨e, by omega, by omega⟩
theorem enc_step {x y : LP} {w : Int} (hx : Wf x) (hy : Wf y) (hw : -3000000 ≤ w ∧ w ≤ 3000000) : enc (moreP x (plusP y w)) = if enc y > -1125899906842624 then max (enc x) (enc y + w) else enc x := by
  rcases hy with rfl | ⟨e, h1, h2⟩
  · have : plusP noL w = noL := rfl
    rw [this, if_neg (by simp [enc, noL])]
    rcases hx with rfl | ⟨e, _⟩
    · rfl
    · have : moreP x noL = x := if_neg (by rw [e]; rintro (h | ⟨h, _⟩) <;> cases h)
      rw [this]
  · obtain ⟨y1, y2⟩ := y
    simp only at e h1 h2
    subst e
    have e1 : enc (y1, true) = y1 := rfl
    have e2 : plusP (y1, true) w = (y1 + w, true) := if_neg (by rintro ⟨h, _⟩; cases h)
    rw [e1, e2, if_pos (by omega)]
    rcases hx with rfl | ⟨e, h3, h4⟩
    · have : moreP noL (y1 + w, true) = (y1 + w, true) := rfl
      rw [this]
      show y1 + w = max (-1125899906842624) (y1 + w)
      omega
    · obtain ⟨x1, x2⟩ := x
      simp only at e h3 h4
      subst e
      show enc (if (true = false ∨ (true = true ∧ y1 + w > x1)) then (y1 + w, true) else (x1, true)) = max x1 (y1 + w)
      by_cases h : y1 + w > x1
      · rw [if_pos (.inr ⟨rfl, h⟩)]
        show y1 + w = _
        omega
      · rw [if_neg (by rintro (h' | ⟨_, h'⟩); cases h'; exact h h')]
        show x1 = _
        omega
end Go.Proofs.Ytfmlfekcdbfioaa
/-
  Cycle: the reference's longest, its inner loops.
-/
namespace Go.Proofs.Ytfmlfekcdbfioaa
open Go

def rowA (n : Nat) (m : Nat → Int) : List AV := (List.range n).map fun v => .int .i64 (m v)
theorem rowA_get {n v : Nat} (m : Nat → Int) (h : v < n) : (rowA n m)[v]? = some (.int .i64 (m v)) := by
  unfold rowA; rw [List.getElem?_map, List.getElem?_range h]; rfl
theorem rowA_set (n : Nat) (m : Nat → Int) (t : Nat) (z : Int) : (rowA n m).set t (.int .i64 z) = rowA n (fun v => if v = t then z else m v) := by
  unfold rowA
  apply List.ext_getElem?
  intro j
  by_cases hj : t = j
  · subst hj
    by_cases ht : t < n
    · rw [List.getElem?_set_self (by simpa using ht), List.getElem?_map, List.getElem?_range ht]; simp
    · rw [List.set_eq_of_length_le (by simp; omega), List.getElem?_eq_none (by simp; omega), List.getElem?_eq_none (by simp; omega)]
  · rw [List.getElem?_set_ne hj]
    by_cases hjn : j < n
    · rw [List.getElem?_map, List.getElem?_map, List.getElem?_range hjn]
      simp [Ne.symm hj]
    · rw [List.getElem?_eq_none (by simp; omega), List.getElem?_eq_none (by simp; omega)]
theorem rowA_congr {n : Nat} {m m' : Nat → Int} (h : ∀ v, v < n → m v = m' v) : rowA n m = rowA n m' := by
  unfold rowA
  apply List.map_congr_left
  intro v hv
  rw [h v (List.mem_range.1 hv)]
theorem set_same {A : Arena} {n : Nat} {e : Ent} (h : A[n]? = some e) : A.set n e = A := by
  apply List.ext_getElem?
  intro i
  by_cases hi : n = i
  · subst hi; rw [List.getElem?_set_self (List.getElem?_eq_some_iff.1 h).1, h]
  · rw [List.getElem?_set_ne hi]
abbrev N50 : Int := -1125899906842624
noncomputable def fs29 : List (FuncId × HModel) := [(39, pureH 4 M39)]
@[simp] theorem fs29_39 : lookM fs29 39 = some (pureH 4 M39) := rfl
theorem sound29 : ∀ f M, lookM fs29 f = some M → FnSpecY Try.prog GC f M := lookM_cons (FnSpecY.of_pure spec39 4) lookM_nil
section
variable {X : Arena} {es : List AV} {n b r s : Nat}
set_option maxRecDepth 100000 in
theorem round29v (fuel : Nat) (hb : X[b]? = some (.row 1 false es)) (he : es[s]? = some (.sl r 0 n)) {R : List AV} (hr : X[r]? = some (.row 1 false R)) (hs : s < n) (hn : n ≤ 32) {v : Nat} (hv : v < n) {x : AV} (hx : R[v]? = some x) (v1 v2 v4 v5 : AV) :
    run (envOf GC fs29) fuel [.code lp29zx0] (st29zx0 (.int .i64 (n : Int)) v1 v2 v4 v5 (.sl b 0 n) (.int .i64 (s : Int)) (.int .i64 (v : Int))) X =
      some (.normal (st29zx0 (.int .i64 (n : Int)) v1 v2 v4 v5 (.sl b 0 n) (.int .i64 (s : Int)) (.int .i64 ((v + 1 : Nat) : Int))) (X.set r (.row 1 false (R.set v (.int .i64 N50))))) := by
  have b1 := lt_nat v n .i64
  rw [decide_eq_true hv] at b1
  have b3 := add1_nat v (by omega)
  obtain ⟨i1, hi1⟩ : ∃ i1 : Nat, i1 = v + 1 := ⟨_, rfl⟩
  rw [← hi1] at b3 ⊢
  have k1 : evIndexSl 1 X (.sl b 0 n) (.int .i64 (s : Int)) = some (.ptr b s 0) := by simp [evIndexSl, hb, hs]
  have k2 : evIndexSl 1 X (.sl r 0 n) (.int .i64 (v : Int)) = some (.ptr r v 0) := by simp [evIndexSl, hr, hv]
  simp [lp29zx0, b1, b3, k1, k2, hb, he, hr, hx, storeElem, -evBin, -evIndexSl]
theorem loop29v (fuel : Nat) (hf : 40 < fuel) (hb : X[b]? = some (.row 1 false es)) (he : es[s]? = some (.sl r 0 n)) {m0 : Nat → Int} (hr : X[r]? = some (.row 1 false (rowA n m0))) (hbr : b ≠ r) (hs : s < n) (hn : n ≤ 32) (v1 v2 v4 v5 : AV) :
    iter (evC (envOf GC fs29) fuel lp29zx0) mask29zx0 fuel (st29zx0 (.int .i64 (n : Int)) v1 v2 v4 v5 (.sl b 0 n) (.int .i64 (s : Int)) (.int .i64 0)) X =
      some (.exit 4 ((st29zx0 (.int .i64 (n : Int)) v1 v2 v4 v5 (.sl b 0 n) (.int .i64 (s : Int)) (.int .i64 (n : Int))).set 13 (.bool false)) (X.set r (.row 1 false (rowA n fun _ => N50)))) := by
  have hrl := (List.getElem?_eq_some_iff.1 hr).1
  have lp := iter_up (E := envOf GC fs29) (fuel := fuel) (a := lp29zx0) (mask := mask29zx0) (fun i => st29zx0 (.int .i64 (n : Int)) v1 v2 v4 v5 (.sl b 0 n) (.int .i64 (s : Int)) (.int .i64 (i : Int))) (fun i => X.set r (.row 1 false (rowA n fun v => if v < i then N50 else m0 v))) n
    (o := .exit 4 ((st29zx0 (.int .i64 (n : Int)) v1 v2 v4 v5 (.sl b 0 n) (.int .i64 (s : Int)) (.int .i64 (n : Int))).set 13 (.bool false)) (X.set r (.row 1 false (rowA n fun _ => N50))))
    (fun _ => cl29zx0) (fun _ _ h => by cases h) (fun i hi => by
      have := round29v (X := X.set r (.row 1 false (rowA n fun v => if v < i then N50 else m0 v))) fuel (by rw [List.getElem?_set_ne (Ne.symm hbr)]; exact hb) he (List.getElem?_set_self hrl) hs hn hi (rowA_get _ hi) v1 v2 v4 v5
      rw [this, List.set_set, rowA_set]
      have e : rowA n (fun v => if v = i then N50 else if v < i then N50 else m0 v) = rowA n (fun v => if v < i + 1 then N50 else m0 v) := rowA_congr fun v hv => by
        by_cases h1 : v = i
        · rw [if_pos h1, if_pos (by omega)]
        · by_cases h2 : v < i
          · rw [if_neg h1, if_pos h2, if_pos (by omega)]
          · rw [if_neg h1, if_neg h2, if_neg (by omega)]
      rw [e]) (by
      have e : rowA n (fun v => if v < n then N50 else m0 v) = rowA n (fun _ => N50) := rowA_congr fun v hv => by rw [if_pos hv]
      rw [e]
      simp [lp29zx0]) (show n < fuel by omega)
  have e0 : (X.set r (.row 1 false (rowA n fun v => if v < 0 then N50 else m0 v))) = X := by
    have : rowA n (fun v => if v < 0 then N50 else m0 v) = rowA n m0 := rowA_congr fun v hv => by rw [if_neg (by omega)]
    rw [this]; exact set_same hr
  have lp : iter (evC (envOf GC fs29) fuel lp29zx0) mask29zx0 fuel (st29zx0 (.int .i64 (n : Int)) v1 v2 v4 v5 (.sl b 0 n) (.int .i64 (s : Int)) (.int .i64 0)) (X.set r (.row 1 false (rowA n fun v => if v < 0 then N50 else m0 v))) = _ := lp
  rw [e0] at lp
  exact lp
end
theorem maxL (a b : Int) : evMinL true (.int .i64 a) [.int .i64 b] = some (.int .i64 (max a b)) := by
  simp only [evMinL, evMin2]
  simp only [if_true]
  by_cases h : b > a
  · rw [if_pos h, show max a b = b by omega]
  · rw [if_neg h, show max a b = a by omega]
/-- a level's numbers, as they lie in the arena -/
def Lv (A : Arena) (v : AV) (n : Nat) (m : Nat → Nat → Int) (o : Nat) : Prop := ∃ b es, v = .sl b 0 n ∧ b ≠ o ∧ A[b]? = some (.row 1 false es) ∧ es.length = n ∧ ∀ s, s < n → ∃ r, es[s]? = some (.sl r 0 n) ∧ r ≠ o ∧ A[r]? = some (.row 1 false (rowA n (m s)))
section
variable {X : Arena} {es eo es' : List AV} {n b r s k o b' r' : Nat} {p : Int} {l : List CArc} {a : AV} {gro : Bool}
set_option maxRecDepth 100000 in
set_option maxHeartbeats 1000000 in
theorem round29a (fuel : Nat) (ha : arcsOf a = some l) (hl200 : l.length ≤ 200) (hp : isPer p) (hv : ∀ x ∈ l, okA n x) (hb : X[b]? = some (.row 1 false es)) (he : es[s]? = some (.sl r 0 n)) {cur : Nat → LP} (hr : X[r]? = some (.row 1 false (rowA n fun v => enc (cur v)))) (hs : s < n) (hn : n ≤ 32) (hk : k ≤ 33)
    (ho : X[o]? = some (.row 1 gro eo)) (heo : eo[k]? = some (.sl b' 0 n)) (hb' : X[b']? = some (.row 1 false es')) (he' : es'[s]? = some (.sl r' 0 n)) {prev : Nat → LP} (hr' : X[r']? = some (.row 1 false (rowA n fun v => enc (prev v)))) (hpw : ∀ v, v < n → Wf (prev v)) (hcw : ∀ v, v < n → Wf (cur v)) {i : Nat} (hi : i < l.length) :
    run (envOf GC fs29) fuel [.code lp29zx1] (st29zx1 (.int .i64 (n : Int)) a (.int .i64 p) (.sl o 0 (k + 1)) (.int .i64 ((k + 1 : Nat) : Int)) (.sl b 0 n) (.int .i64 (s : Int)) (.int .i64 (i : Int))) X =
      some (.normal (st29zx1 (.int .i64 (n : Int)) a (.int .i64 p) (.sl o 0 (k + 1)) (.int .i64 ((k + 1 : Nat) : Int)) (.sl b 0 n) (.int .i64 (s : Int)) (.int .i64 ((i + 1 : Nat) : Int))) (X.set r (.row 1 false (rowA n fun v => enc (stF prev cur (l[i].f.toNat, l[i].t.toNat, l[i].len p) v))))) := by
  obtain ⟨hl, hm⟩ := arcsOf_len ha
  have x1 := arcsOf_at ha hi X .i64
  have b1 := lt_nat i l.length .i64
  rw [decide_eq_true hi] at b1
  have b3 := add1_nat i (by omega)
  have hok := hv _ (List.getElem_mem hi)
  obtain ⟨f, hf, hfn⟩ := nat_of hok.1
  obtain ⟨t, ht, htn⟩ := nat_of hok.2.1
  have m := m39 (by omega) hok hp
  have hle := len_in (n := 32) (a := l[i]) ⟨by have := hok.1; omega, by have := hok.2.1; omega, hok.2.2.1, hok.2.2.2⟩ hp
  have e1 : l[i].f.toNat = f := by omega
  have e2 : l[i].t.toNat = t := by omega
  rw [e1, e2]
  rw [hf, ht] at x1 m
  obtain ⟨w, hw⟩ : ∃ w, w = l[i].len p := ⟨_, rfl⟩
  rw [← hw] at m hle ⊢
  have hfn' : f < n := by omega
  have htn' : t < n := by omega
  have b0 : evBin .sub (.int .i64 ((k + 1 : Nat) : Int)) (.int .i64 1) = some (.int .i64 (k : Int)) := by
    rw [evSub (by omega)]; congr 2; omega
  have k0 : evIndexSl 1 X (.sl o 0 (k + 1)) (.int .i64 (k : Int)) = some (.ptr o k 0) := by simp [evIndexSl, ho]; omega
  have k1 : evIndexSl 1 X (.sl b' 0 n) (.int .i64 (s : Int)) = some (.ptr b' s 0) := by simp [evIndexSl, hb', hs]
  have k2 : evIndexSl 1 X (.sl r' 0 n) (.int .i64 (f : Int)) = some (.ptr r' f 0) := by simp [evIndexSl, hr', hfn']
  have k3 : evIndexSl 1 X (.sl b 0 n) (.int .i64 (s : Int)) = some (.ptr b s 0) := by simp [evIndexSl, hb, hs]
  have k4 : evIndexSl 1 X (.sl r 0 n) (.int .i64 (t : Int)) = some (.ptr r t 0) := by simp [evIndexSl, hr, htn']
  have g1 := rowA_get (fun v => enc (prev v)) hfn'
  have g2 := rowA_get (fun v => enc (cur v)) htn'
  have hst := enc_step (hcw t htn') (hpw f hfn') (w := w) (by omega)
  have hset := rowA_set n (fun v => enc (cur v)) t (max (enc (cur t)) (enc (prev f) + w))
  have hb2 : enc (prev f) > N50 → -1000000000 ≤ enc (prev f) ∧ enc (prev f) ≤ 1000000000 := fun h => by
    rcases hpw f hfn' with e | ⟨e, h1, h2⟩
    · rw [e] at h; simp [enc, noL] at h
    · have : enc (prev f) = (prev f).1 := by unfold enc; rw [if_pos e]
      rw [this]; exact ⟨h1, h2⟩
  have b2 := evGtr (enc (prev f)) N50
  have mx := maxL (enc (cur t)) (enc (prev f) + w)
  have key : ∀ v, enc (stF prev cur (f, t, w) v) = if v = t then enc (moreP (cur t) (plusP (prev f) w)) else enc (cur v) := fun v => by
    unfold stF
    by_cases h : v = t
    · simp [h]
    · simp [h]
  obtain ⟨i1, hi1⟩ : ∃ i1 : Nat, i1 = i + 1 := ⟨_, rfl⟩
  rw [← hi1] at b3 ⊢
  obtain ⟨k5, hk5⟩ : ∃ k5 : Nat, k5 = k + 1 := ⟨_, rfl⟩
  rw [← hk5] at b0 k0 ⊢
  obtain ⟨z, hz⟩ : ∃ z, z = enc (prev f) := ⟨_, rfl⟩
  obtain ⟨y, hy⟩ : ∃ z, z = enc (cur t) := ⟨_, rfl⟩
  rw [← hz] at g1 b2 mx hst hset hb2
  rw [← hy] at g2 mx hst hset
  obtain ⟨RP, hRP⟩ : ∃ R, R = rowA n fun v => enc (prev v) := ⟨_, rfl⟩
  obtain ⟨RC, hRC⟩ : ∃ R, R = rowA n fun v => enc (cur v) := ⟨_, rfl⟩
  rw [← hRP] at hr' g1
  rw [← hRC] at hr g2 hset
  by_cases h : z > N50
  · rw [decide_eq_true h] at b2
    rw [if_pos h] at hst
    have hzb := hb2 h
    have b4 := evAdd (a := z) (b := w) (by omega)
    have e3 : rowA n (fun v => enc (stF prev cur (f, t, w) v)) = RC.set t (.int .i64 (max y (z + w))) := by
      rw [hset]
      refine rowA_congr fun v hv => ?_
      rw [key, hst]
    rw [e3]
    obtain ⟨mz, hmz⟩ : ∃ mz, mz = max y (z + w) := ⟨_, rfl⟩
    rw [← hmz] at mx ⊢
    obtain ⟨zw, hzw⟩ : ∃ zw, zw = z + w := ⟨_, rfl⟩
    rw [← hzw] at b4 mx
    simp [lp29zx1, hl, b0, b1, b2, b3, b4, k0, k1, k2, k3, k4, x1, m, mx, ho, heo, hb', he', hr', g1, hb, he, hr, g2, storeElem, -evBin, -evIndexSl, -evLenSl, -evMinL]
  · rw [decide_eq_false h] at b2
    rw [if_neg h] at hst
    have e3 : rowA n (fun v => enc (stF prev cur (f, t, w) v)) = RC := by
      rw [hRC]
      refine rowA_congr fun v hv => ?_
      rw [key, hst]
      by_cases hvt : v = t
      · rw [if_pos hvt, hvt, hy]
      · rw [if_neg hvt]
    rw [e3, set_same hr]
    simp [lp29zx1, hl, b0, b1, b2, b3, k0, k1, k2, x1, ho, heo, hb', he', hr', g1, -evBin, -evIndexSl, -evLenSl, -evMinL]
theorem loop29a (fuel : Nat) (hf : 250 < fuel) (ha : arcsOf a = some l) (hl200 : l.length ≤ 200) (hp : isPer p) (hv : ∀ x ∈ l, okA n x) (hb : X[b]? = some (.row 1 false es)) (he : es[s]? = some (.sl r 0 n)) (hr : X[r]? = some (.row 1 false (rowA n fun _ => N50))) (hs : s < n) (hn : n ≤ 32) (hk : k ≤ 32)
    (ho : X[o]? = some (.row 1 gro eo)) (heo : eo[k]? = some (.sl b' 0 n)) (hb' : X[b']? = some (.row 1 false es')) (he' : es'[s]? = some (.sl r' 0 n)) (hr' : X[r']? = some (.row 1 false (rowA n fun v => enc (bst (lar p l) n k s v)))) (h1 : b ≠ r) (h2 : o ≠ r) (h3 : b' ≠ r) (h4 : r' ≠ r) :
    iter (evC (envOf GC fs29) fuel lp29zx1) mask29zx1 fuel (st29zx1 (.int .i64 (n : Int)) a (.int .i64 p) (.sl o 0 (k + 1)) (.int .i64 ((k + 1 : Nat) : Int)) (.sl b 0 n) (.int .i64 (s : Int)) (.int .i64 0)) X =
      some (.exit 6 ((st29zx1 (.int .i64 (n : Int)) a (.int .i64 p) (.sl o 0 (k + 1)) (.int .i64 ((k + 1 : Nat) : Int)) (.sl b 0 n) (.int .i64 (s : Int)) (.int .i64 (l.length : Int))).set 15 (.bool false)) (X.set r (.row 1 false (rowA n fun v => enc (bst (lar p l) n (k + 1) s v))))) := by
  have hrl := (List.getElem?_eq_some_iff.1 hr).1
  have hok := lar_ok hn hp hv
  have hlen : (lar p l).length = l.length := by simp [lar]
  have hpw : ∀ v, v < n → Wf (bst (lar p l) n k s v) := fun v hv' => best_wf hok (by omega) (bst_best hok hs hv') fun z h => h
  have hcw : ∀ i v, v < n → Wf (((lar p l).take i).foldl (stF (bst (lar p l) n k s)) (fun _ => noL) v) := fun i v hv' => by
    have := stF_best hok (u := s) (j := k) (fun w hw => bst_best hok hs hw) ((lar p l).take i) (fun _ h => List.mem_of_mem_take h) (fun _ => noL) (fun _ _ => False) (fun _ _ => best_none) v hv'
    refine best_wf hok (show k + 1 ≤ 33 by omega) (u := s) (v := v) this fun z h => ?_
    rcases h with h | ⟨x, hx, h⟩
    · exact h.elim
    · exact WL_snoc.2 ⟨x, List.mem_of_mem_take hx, h⟩
  have lp := iter_up (E := envOf GC fs29) (fuel := fuel) (a := lp29zx1) (mask := mask29zx1) (fun i => st29zx1 (.int .i64 (n : Int)) a (.int .i64 p) (.sl o 0 (k + 1)) (.int .i64 ((k + 1 : Nat) : Int)) (.sl b 0 n) (.int .i64 (s : Int)) (.int .i64 (i : Int))) (fun i => X.set r (.row 1 false (rowA n fun v => enc (((lar p l).take i).foldl (stF (bst (lar p l) n k s)) (fun _ => noL) v)))) l.length
    (o := .exit 6 ((st29zx1 (.int .i64 (n : Int)) a (.int .i64 p) (.sl o 0 (k + 1)) (.int .i64 ((k + 1 : Nat) : Int)) (.sl b 0 n) (.int .i64 (s : Int)) (.int .i64 (l.length : Int))).set 15 (.bool false)) (X.set r (.row 1 false (rowA n fun v => enc (bst (lar p l) n (k + 1) s v)))))
    (fun _ => cl29zx1) (fun _ _ h => by cases h) (fun i hi => by
      have := round29a (X := X.set r (.row 1 false (rowA n fun v => enc (((lar p l).take i).foldl (stF (bst (lar p l) n k s)) (fun _ => noL) v)))) fuel ha hl200 hp hv (by rw [List.getElem?_set_ne (Ne.symm h1)]; exact hb) he (List.getElem?_set_self hrl) hs hn (show k ≤ 33 by omega) (by rw [List.getElem?_set_ne (Ne.symm h2)]; exact ho) heo (by rw [List.getElem?_set_ne (Ne.symm h3)]; exact hb') he' (by rw [List.getElem?_set_ne (Ne.symm h4)]; exact hr') hpw (hcw i) hi
      rw [this, List.set_set]
      have e : (lar p l).take (i + 1) = (lar p l).take i ++ [(l[i].f.toNat, l[i].t.toNat, l[i].len p)] := by
        rw [List.take_succ_eq_append_getElem (by omega)]; simp [lar]
      rw [e, List.foldl_append]
      rfl) (by
      have e : rowA n (fun v => enc (((lar p l).take l.length).foldl (stF (bst (lar p l) n k s)) (fun _ => noL) v)) = rowA n (fun v => enc (bst (lar p l) n (k + 1) s v)) := rowA_congr fun v hv' => by
        rw [List.take_of_length_le (by omega), bst_fold hok hs hv']
      rw [e]
      simp [lp29zx1, (arcsOf_len ha).1, -evLenSl]) (show l.length < fuel by omega)
  have e0 : (X.set r (.row 1 false (rowA n fun v => enc (((lar p l).take 0).foldl (stF (bst (lar p l) n k s)) (fun _ => noL) v)))) = X := set_same hr
  have lp : iter (evC (envOf GC fs29) fuel lp29zx1) mask29zx1 fuel (st29zx1 (.int .i64 (n : Int)) a (.int .i64 p) (.sl o 0 (k + 1)) (.int .i64 ((k + 1 : Nat) : Int)) (.sl b 0 n) (.int .i64 (s : Int)) (.int .i64 0)) (X.set r (.row 1 false (rowA n fun v => enc (((lar p l).take 0).foldl (stF (bst (lar p l) n k s)) (fun _ => noL) v)))) = _ := lp
  rw [e0] at lp
  exact lp
end
end Go.Proofs.Ytfmlfekcdbfioaa
/-
  Cycle: the reference's longest.
-/
namespace Go.Proofs.Ytfmlfekcdbfioaa
open Go

/-- the levels so far -/
def OutI (A : Arena) (v : AV) (L : List LArc) (n k : Nat) : Prop := (v = .nilS ∧ k = 0) ∨ ∃ o gr eo, v = .sl o 0 k ∧ k ≠ 0 ∧ A[o]? = some (.row 1 gr eo) ∧ eo.length = k ∧ ∀ j, j < k → ∃ w, eo[j]? = some w ∧ Lv A w n (fun s v => enc (bst L n j s v)) o
/-- a level under way, behind s rows -/
def SI (A0 A : Arena) (L : List LArc) (n k s : Nat) : Prop := ∃ es, A[A0.length]? = some (.row 1 false es) ∧ es.length = n ∧ (∀ s', s' < s → ∃ r, es[s']? = some (.sl r 0 n) ∧ A0.length < r ∧ A[r]? = some (.row 1 false (rowA n fun v => enc (bst L n k s' v)))) ∧ ∀ j, j < A0.length → A[j]? = A0[j]?
set_option maxRecDepth 100000 in
set_option maxHeartbeats 1000000 in
theorem round29s (fuel : Nat) (hf : 250 < fuel) {A0 A : Arena} {n k s : Nat} {p : Int} {l : List CArc} {a outv : AV} (ha : arcsOf a = some l) (hl200 : l.length ≤ 200) (hp : isPer p) (hv : ∀ x ∈ l, okA n x) (hn : n ≤ 32) (hk : k ≤ n) (hs : s < n) (hO : OutI A0 outv (lar p l) n k) (hI : SI A0 A (lar p l) n k s) :
    ∃ A', run (envOf GC fs29) fuel [.code lp29zx2] (st29zx2 (.int .i64 (n : Int)) a (.int .i64 p) outv (.int .i64 (k : Int)) (.sl A0.length 0 n) (.int .i64 (s : Int))) A = some (.normal (st29zx2 (.int .i64 (n : Int)) a (.int .i64 p) outv (.int .i64 (k : Int)) (.sl A0.length 0 n) (.int .i64 ((s + 1 : Nat) : Int))) A') ∧ SI A0 A' (lar p l) n k (s + 1) := by
  obtain ⟨es, h1, h2, h3, h4⟩ := hI
  have hbl := (List.getElem?_eq_some_iff.1 h1).1
  obtain ⟨r, hr⟩ : ∃ r, r = A.length := ⟨_, rfl⟩
  obtain ⟨es1, hes1⟩ : ∃ es1, es1 = es.set s (.sl r 0 n) := ⟨_, rfl⟩
  obtain ⟨A1, hA1⟩ : ∃ A1, A1 = (A ++ [Ent.row 1 false (rowA n fun _ => 0)]).set A0.length (.row 1 false es1) := ⟨_, rfl⟩
  have a1b : A1[A0.length]? = some (.row 1 false es1) := by rw [hA1]; exact List.getElem?_set_self (by simp; omega)
  have a1r : A1[r]? = some (.row 1 false (rowA n fun _ => 0)) := by rw [hA1, List.getElem?_set_ne (by omega), hr]; simp
  have a1o : ∀ j, j < A.length → j ≠ A0.length → A1[j]? = A[j]? := fun j hj hne => by rw [hA1, List.getElem?_set_ne (Ne.symm hne), List.getElem?_append_left hj]
  have e1s : es1[s]? = some (.sl r 0 n) := by rw [hes1]; exact List.getElem?_set_self (by omega)
  have hbr : A0.length ≠ r := by omega
  have lpv := loop29v (X := A1) fuel (by omega) a1b e1s a1r hbr hs hn a (.int .i64 p) outv (.int .i64 (k : Int))
  obtain ⟨A2, hA2⟩ : ∃ A2, A2 = A1.set r (.row 1 false (rowA n fun _ => N50)) := ⟨_, rfl⟩
  rw [← hA2] at lpv
  have a2o : ∀ j, j ≠ r → A2[j]? = A1[j]? := fun j hj => by rw [hA2, List.getElem?_set_ne (Ne.symm hj)]
  have a2r : A2[r]? = some (.row 1 false (rowA n fun _ => N50)) := by rw [hA2]; exact List.getElem?_set_self (List.getElem?_eq_some_iff.1 a1r).1
  have a2b := (a2o A0.length hbr).trans a1b
  obtain ⟨A3, hA3⟩ : ∃ A3, A3 = A2.set r (.row 1 false (rowA n fun v => enc (bst (lar p l) n k s v))) := ⟨_, rfl⟩
  have a3o : ∀ j, j ≠ r → A3[j]? = A2[j]? := fun j hj => by rw [hA3, List.getElem?_set_ne (Ne.symm hj)]
  have a3r : A3[r]? = some (.row 1 false (rowA n fun v => enc (bst (lar p l) n k s v))) := by rw [hA3]; exact List.getElem?_set_self (List.getElem?_eq_some_iff.1 a2r).1
  have hall : ∀ j, j < A.length → j ≠ A0.length → A3[j]? = A[j]? := fun j hj hne => by
    rw [a3o j (by omega), a2o j (by omega), a1o j hj hne]
  have b1 := lt_nat s n .i64
  rw [decide_eq_true hs] at b1
  have b3 := add1_nat s (by omega)
  obtain ⟨i1, hi1⟩ : ∃ i1 : Nat, i1 = s + 1 := ⟨_, rfl⟩
  rw [← hi1] at b3 ⊢
  have mk : evMake 1 8 (.int .i64 0) A (.int .i64 (n : Int)) (.int .i64 (n : Int)) = some (.sl r 0 n, A ++ [.row 1 false (rowA n fun _ => 0)]) := by
    have : rowA n (fun _ => 0) = List.replicate n (.int .i64 0) := by
      unfold rowA
      apply List.ext_getElem (by simp)
      intro j _ _; simp
    rw [this, hr]; simp [evMake]; omega
  have hAb : (A ++ [.row 1 false (rowA n fun _ => 0)])[A0.length]? = some (.row 1 false es) := by rw [List.getElem?_append_left hbl]; exact h1
  have k1 : evIndexSl 1 (A ++ [.row 1 false (rowA n fun _ => 0)]) (.sl A0.length 0 n) (.int .i64 (s : Int)) = some (.ptr A0.length s 0) := by simp [evIndexSl, hAb, hs]
  obtain ⟨x, hx⟩ : ∃ x, es[s]? = some x := ⟨es[s]'(by omega), List.getElem?_eq_getElem _⟩
  have st : evStore 1 (A ++ [.row 1 false (rowA n fun _ => 0)]) (.ptr A0.length s 0) (.sl r 0 n) = some A1 := by
    rw [hA1, hes1]; simp [evStore, hAb, hx, storeElem]
  obtain ⟨AA, hAA⟩ : ∃ AA, AA = A ++ [.row 1 false (rowA n fun _ => 0)] := ⟨_, rfl⟩
  rw [← hAA] at mk k1 st
  have hfin : SI A0 A3 (lar p l) n k i1 := by
    refine ⟨es1, ?_, by rw [hes1]; simp [h2], fun s' hs' => ?_, fun j hj => ?_⟩
    · rw [a3o _ hbr]; exact a2b
    · by_cases hss : s' = s
      · subst hss
        exact ⟨r, e1s, by omega, a3r⟩
      · obtain ⟨r', q1, q2, q3⟩ := h3 s' (by omega)
        have hr'l := (List.getElem?_eq_some_iff.1 q3).1
        exact ⟨r', by rw [hes1, List.getElem?_set_ne (Ne.symm hss)]; exact q1, q2, by rw [hall r' hr'l (by omega)]; exact q3⟩
    · rw [hall j (by omega) (by omega), h4 j hj]
  refine ⟨A3, ?_, hfin⟩
  have b4 := evEql (k : Int) 0
  rcases hO with ⟨rfl, rfl⟩ | ⟨o, gr, eo, rfl, hk0, ho1, ho2, ho3⟩
  · -- the first level
    rw [decide_eq_true (show ((0 : Nat) : Int) = 0 from rfl)] at b4
    have k2 : evIndexSl 1 A2 (.sl A0.length 0 n) (.int .i64 (s : Int)) = some (.ptr A0.length s 0) := by simp [evIndexSl, a2b, hs]
    have k3 : evIndexSl 1 A2 (.sl r 0 n) (.int .i64 (s : Int)) = some (.ptr r s 0) := by simp [evIndexSl, a2r, hs]
    have e3 : rowA n (fun v => enc (bst (lar p l) n 0 s v)) = (rowA n fun _ => N50).set s (.int .i64 0) := by
      rw [rowA_set]
      refine rowA_congr fun v hv' => ?_
      rw [bst_zero hs hv']
      by_cases h : v = s
      · rw [if_pos h, if_pos h]; rfl
      · rw [if_neg h, if_neg h]; rfl
    rw [hA3, e3]
    have g1 := rowA_get (fun _ => N50) hs
    obtain ⟨R, hR⟩ : ∃ R, R = rowA n fun _ => N50 := ⟨_, rfl⟩
    rw [← hR] at a2r g1 ⊢
    have st2 : evStore 1 A2 (.ptr r s 0) (.int .i64 0) = some (A2.set r (.row 1 false (R.set s (.int .i64 0)))) := by simp [evStore, a2r, g1, storeElem]
    simp only [Int.natCast_zero] at lpv b4 ⊢
    simp [lp29zx2, b1, b3, b4, mk, k1, st, st2, go29zx0 lpv, k2, k3, a2b, e1s, -evBin, -evMake, -evIndexSl, -evStore]
  · obtain ⟨k', rfl⟩ : ∃ k', k = k' + 1 := ⟨k - 1, by omega⟩
    rw [decide_eq_false (by omega)] at b4
    obtain ⟨w, q1, b', es', rfl, q2, q3, q4, q5⟩ := ho3 k' (by omega)
    obtain ⟨r', q6, q7, q8⟩ := q5 s hs
    have hol := (List.getElem?_eq_some_iff.1 ho1).1
    have hbl' := (List.getElem?_eq_some_iff.1 q3).1
    have hrl' := (List.getElem?_eq_some_iff.1 q8).1
    have low : ∀ j, j < A0.length → A2[j]? = A0[j]? := fun j hj => by rw [a2o j (by omega), a1o j (by omega) (by omega), h4 j hj]
    have lpa := loop29a (X := A2) (es := es1) (r := r) fuel hf ha hl200 hp hv a2b e1s a2r hs hn (show k' ≤ 32 by omega) ((low o hol).trans ho1) q1 ((low b' hbl').trans q3) q6 ((low r' hrl').trans q8) hbr (by omega) (by omega) (by omega)
    rw [← hA3] at lpa
    obtain ⟨kk, hkk⟩ : ∃ kk : Nat, kk = k' + 1 := ⟨_, rfl⟩
    rw [← hkk] at lpv lpa b4 ⊢
    simp [lp29zx2, b1, b3, b4, mk, k1, st, go29zx0 lpv, go29zx1 lpa, -evBin, -evMake, -evIndexSl, -evStore]
theorem loop29s (fuel : Nat) (hf : 250 < fuel) {A0 A : Arena} {n k : Nat} {p : Int} {l : List CArc} {a outv : AV} (ha : arcsOf a = some l) (hl200 : l.length ≤ 200) (hp : isPer p) (hv : ∀ x ∈ l, okA n x) (hn : n ≤ 32) (hk : k ≤ n) (hO : OutI A0 outv (lar p l) n k) (hI : SI A0 A (lar p l) n k 0) :
    ∃ A', SI A0 A' (lar p l) n k n ∧ iter (evC (envOf GC fs29) fuel lp29zx2) mask29zx2 fuel (st29zx2 (.int .i64 (n : Int)) a (.int .i64 p) outv (.int .i64 (k : Int)) (.sl A0.length 0 n) (.int .i64 0)) A = some (.exit 2 ((st29zx2 (.int .i64 (n : Int)) a (.int .i64 p) outv (.int .i64 (k : Int)) (.sl A0.length 0 n) (.int .i64 (n : Int))).set 12 (.bool false)) A') := by
  obtain ⟨o, h1, A', h2, h3⟩ := iter_inv (E := envOf GC fs29) (fuel := fuel) (a := lp29zx2) (mask := mask29zx2)
    (fun κ σ A => ∃ s, s + κ = n ∧ σ = st29zx2 (.int .i64 (n : Int)) a (.int .i64 p) outv (.int .i64 (k : Int)) (.sl A0.length 0 n) (.int .i64 (s : Int)) ∧ SI A0 A (lar p l) n k s)
    (fun o => ∃ A', SI A0 A' (lar p l) n k n ∧ o = .exit 2 ((st29zx2 (.int .i64 (n : Int)) a (.int .i64 p) outv (.int .i64 (k : Int)) (.sl A0.length 0 n) (.int .i64 (n : Int))).set 12 (.bool false)) A')
    (by
      rintro κ σ A ⟨s, hsk, rfl, hI⟩
      rw [cl29zx2]
      by_cases hs : s < n
      · obtain ⟨A', c1, c2⟩ := round29s fuel hf ha hl200 hp hv hn hk hs hO hI
        exact .inl ⟨_, _, c1, κ - 1, by omega, s + 1, by omega, rfl, c2⟩
      · obtain rfl : s = n := by omega
        refine .inr ⟨_, ?_, ?_, A, hI, rfl⟩
        · simp [lp29zx2]
        · intro _ _ h; cases h)
    fuel n (st29zx2 (.int .i64 (n : Int)) a (.int .i64 p) outv (.int .i64 (k : Int)) (.sl A0.length 0 n) (.int .i64 0)) A (by omega) ⟨0, by omega, rfl, hI⟩
  exact ⟨A', h2, by rw [← h3]; exact h1⟩
set_option maxRecDepth 100000 in
theorem round29k (fuel : Nat) (hf : 250 < fuel) {A0 : Arena} {n k : Nat} {p : Int} {l : List CArc} {a outv : AV} (ha : arcsOf a = some l) (hl200 : l.length ≤ 200) (hp : isPer p) (hv : ∀ x ∈ l, okA n x) (h1n : 1 ≤ n) (hn : n ≤ 32) (hk : k ≤ n) (hO : OutI A0 outv (lar p l) n k) :
    ∃ A' o', run (envOf GC fs29) fuel [.code lp29zx3] (st29zx3 (.int .i64 (n : Int)) a (.int .i64 p) outv (.int .i64 (k : Int))) A0 = some (.normal (st29zx3 (.int .i64 (n : Int)) a (.int .i64 p) (.sl o' 0 (k + 1)) (.int .i64 ((k + 1 : Nat) : Int))) A') ∧ OutI A' (.sl o' 0 (k + 1)) (lar p l) n (k + 1) := by
  obtain ⟨A', ⟨es, q1, q2, q3, q4⟩, lp⟩ := loop29s fuel hf (A := A0 ++ [.row 1 false (List.replicate n .nilS)]) ha hl200 hp hv hn hk hO ⟨List.replicate n .nilS, by simp, by simp, fun s' h => by omega, fun j hj => by rw [List.getElem?_append_left hj]⟩
  have mk : evMake 1 24 .nilS A0 (.int .i64 (n : Int)) (.int .i64 (n : Int)) = some (.sl A0.length 0 n, A0 ++ [.row 1 false (List.replicate n .nilS)]) := by
    simp [evMake]; omega
  have hbl := (List.getElem?_eq_some_iff.1 q1).1
  obtain ⟨D, hD⟩ : ∃ D, D = A' ++ [Ent.row 1 false [.sl A0.length 0 n]] := ⟨_, rfl⟩
  have hDl : D.length = A'.length + 1 := by rw [hD]; simp
  have hDo : ∀ j, j < A'.length → D[j]? = A'[j]? := fun j hj => by rw [hD, List.getElem?_append_left hj]
  have hDn : D[A'.length]? = some (.row 1 false [.sl A0.length 0 n]) := by rw [hD]; simp
  have b1 := evLeq (k : Int) n
  rw [decide_eq_true (by omega)] at b1
  have b3 := add1_nat k (by omega)
  have hsrc : srcElems 1 D (.sl A'.length 0 1) = some [.sl A0.length 0 n] := by simp [srcElems, hDn]
  -- the new level
  have lvNew : ∀ (o : Nat) (A2 : Arena), o ≠ A0.length → (∀ r, A0.length < r → r < A'.length → o ≠ r) → (∀ j, j < A'.length → j ≠ o → A2[j]? = A'[j]?) → Lv A2 (.sl A0.length 0 n) n (fun s v => enc (bst (lar p l) n k s v)) o := fun o A2 ho ho2 hA2 => by
    refine ⟨A0.length, es, rfl, Ne.symm ho, by rw [hA2 _ hbl (Ne.symm ho)]; exact q1, q2, fun s hs => ?_⟩
    obtain ⟨r, r1, r2, r3⟩ := q3 s hs
    have hrl := (List.getElem?_eq_some_iff.1 r3).1
    exact ⟨r, r1, Ne.symm (ho2 r r2 hrl), by rw [hA2 r hrl (Ne.symm (ho2 r r2 hrl))]; exact r3⟩
  obtain ⟨A0x, hA0x⟩ : ∃ A0x, A0x = A0 ++ [Ent.row 1 false (List.replicate n .nilS)] := ⟨_, rfl⟩
  rw [← hA0x] at lp mk
  obtain ⟨i1, hi1⟩ : ∃ i1 : Nat, i1 = k + 1 := ⟨_, rfl⟩
  obtain ⟨b0, hb0⟩ : ∃ b0, b0 = A0.length := ⟨_, rfl⟩
  rcases hO with ⟨rfl, rfl⟩ | ⟨o, gr, eo, rfl, hk0, ho1, ho2, ho3⟩
  · refine ⟨D ++ [.row 1 false [.sl A0.length 0 n]], D.length, ?_, .inr ⟨D.length, false, [.sl A0.length 0 n], rfl, by omega, by simp, rfl, fun j hj => ?_⟩⟩
    · have ap : evAppend 1 24 D .nilS (.sl A'.length 0 1) = some (.sl D.length 0 1, D ++ [.row 1 false [.sl A0.length 0 n]]) := by
        simp only [evAppend, hsrc]; simp
      rw [hD] at ap ⊢
      rw [← hb0] at ap mk lp ⊢
      simp only [Int.natCast_zero] at lp b1 b3 ⊢
      simp [lp29zx3, b1, b3, mk, go29zx2 lp, ap, -evBin, -evMake]
    · obtain rfl : j = 0 := by omega
      refine ⟨_, rfl, lvNew D.length _ (by omega) (fun r h1 h2 => by omega) fun j hj hne => ?_⟩
      rw [List.getElem?_append_left (by omega), hDo j hj]
  · have hol := (List.getElem?_eq_some_iff.1 ho1).1
    have hDo1 : D[o]? = some (.row 1 gr eo) := by rw [hDo o (by omega), q4 o hol]; exact ho1
    have hset : ∀ j, j ≠ o → (D.set o (.row 1 true (eo ++ [.sl A0.length 0 n])))[j]? = D[j]? := fun j hj => by rw [List.getElem?_set_ne (Ne.symm hj)]
    refine ⟨D.set o (.row 1 true (eo ++ [.sl A0.length 0 n])), o, ?_, .inr ⟨o, true, eo ++ [.sl A0.length 0 n], rfl, by omega, List.getElem?_set_self (by omega), by simp [ho2], fun j hj => ?_⟩⟩
    · have ap : evAppend 1 24 D (.sl o 0 k) (.sl A'.length 0 1) = some (.sl o 0 (k + 1), D.set o (.row 1 true (eo ++ [.sl A0.length 0 n]))) := by
        simp only [evAppend, hsrc, hDo1]
        simp [ho2, hk0]; omega
      rw [hD] at ap ⊢
      rw [← hb0] at ap mk lp ⊢
      rw [← hi1] at ap b3 ⊢
      simp [lp29zx3, b1, b3, mk, go29zx2 lp, ap, -evBin, -evMake]
    · by_cases hjk : j = k
      · subst hjk
        refine ⟨.sl A0.length 0 n, by rw [← ho2]; simp, lvNew o _ (by omega) (fun r h1 h2 => by omega) fun j hj hne => ?_⟩
        rw [hset j hne, hDo j hj]
      · obtain ⟨w, w1, b', es', rfl, w2, w3, w4, w5⟩ := ho3 j (by omega)
        have hb'l := (List.getElem?_eq_some_iff.1 w3).1
        refine ⟨.sl b' 0 n, by rw [List.getElem?_append_left (by omega)]; exact w1, b', es', rfl, w2, ?_, w4, fun s hs => ?_⟩
        · rw [hset b' w2, hDo b' (by omega), q4 b' hb'l]; exact w3
        · obtain ⟨r', r1, r2, r3⟩ := w5 s hs
          have hr'l := (List.getElem?_eq_some_iff.1 r3).1
          exact ⟨r', r1, r2, by rw [hset r' r2, hDo r' (by omega), q4 r' hr'l]; exact r3⟩
/-- the reference's numbers, as a tree -/
def lvlT (L : List LArc) (n j : Nat) : AV := .fs 1 ((List.range n).map fun s => .fs 1 (rowA n fun v => enc (bst L n j s v)))
def lonT (L : List LArc) (n k : Nat) : AV := .fs 1 ((List.range k).map fun j => lvlT L n j)
theorem frz_rowA (A : Arena) (m n : Nat) (f : Nat → Int) : (rowA n f).map (frz A m) = rowA n f := by
  unfold rowA; rw [List.map_map]; apply List.map_congr_left; intro v _; cases m <;> rfl
theorem OutI.frz {A : Arena} {v : AV} {L : List LArc} {n k : Nat} (h : OutI A v L n k) (hk : k ≠ 0) (m : Nat) : Proofs.Ytfmlfekcdbfioaa.frz A (m + 3) v = lonT L n k := by
  rcases h with ⟨_, h⟩ | ⟨o, gr, eo, rfl, _, h1, h2, h3⟩
  · exact absurd h hk
  · show Proofs.Ytfmlfekcdbfioaa.frz A (m + 2 + 1) _ = _
    simp only [Proofs.Ytfmlfekcdbfioaa.frz, h1, List.drop_zero]
    rw [List.take_of_length_le (by omega)]
    unfold lonT
    congr 1
    apply List.ext_getElem (by simp [h2])
    intro j j1 j2
    obtain ⟨w, w1, b, es, rfl, w2, w3, w4, w5⟩ := h3 j (by simpa using j2)
    have e : eo[j]'(by simpa using j1) = .sl b 0 n := by
      rw [List.getElem?_eq_getElem (by simpa using j1)] at w1; exact Option.some.inj w1
    simp only [List.getElem_map, e, List.getElem_range]
    show Proofs.Ytfmlfekcdbfioaa.frz A (m + 1 + 1) _ = _
    simp only [Proofs.Ytfmlfekcdbfioaa.frz, w3, List.drop_zero]
    rw [List.take_of_length_le (by omega)]
    unfold lvlT
    congr 1
    apply List.ext_getElem (by simp [w4])
    intro s s1 s2
    obtain ⟨r, r1, r2, r3⟩ := w5 s (by simpa using s2)
    have e : es[s]'(by simpa using s1) = .sl r 0 n := by
      rw [List.getElem?_eq_getElem (by simpa using s1)] at r1; exact Option.some.inj r1
    simp only [List.getElem_map, e, List.getElem_range]
    show Proofs.Ytfmlfekcdbfioaa.frz A (m + 1) _ = _
    simp only [Proofs.Ytfmlfekcdbfioaa.frz, r3, List.drop_zero]
    rw [List.take_of_length_le (by simp [rowA]), frz_rowA]
noncomputable def M29 : PModel := fun args => evP (envOf GC fs29) 300 mf29z 5 args
theorem spec29 : PureSpec Try.prog GC 29 M29 := PureSpec.of_ev (E := envOf GC fs29) (envOf_sound sound29) rfl at29 comp29z 5 fun _ _ h => ⟨300, h⟩
set_option maxRecDepth 100000 in
theorem M29_eq {n : Nat} {p : Int} {l : List CArc} {a : AV} (ha : arcsOf a = some l) (hr : Ready n l p) : M29 [.int .i64 (n : Int), a, .int .i64 p] = some (lonT (lar p l) n (n + 1)) := by
  obtain ⟨⟨hn, hl200, hv⟩, hp⟩ := hr
  obtain ⟨o, h1, A', o', h2, rfl⟩ := iter_inv (E := envOf GC fs29) (fuel := 300) (a := lp29zx3) (mask := mask29zx3)
    (fun κ σ A => ∃ k outv, k + κ = n + 1 ∧ σ = st29zx3 (.int .i64 (n : Int)) a (.int .i64 p) outv (.int .i64 (k : Int)) ∧ OutI A outv (lar p l) n k)
    (fun o => ∃ A' outv, OutI A' outv (lar p l) n (n + 1) ∧ o = .exit 0 ((st29zx3 (.int .i64 (n : Int)) a (.int .i64 p) outv (.int .i64 ((n + 1 : Nat) : Int))).set 11 (.bool false)) A')
    (by
      rintro κ σ A ⟨k, outv, hk, rfl, hO⟩
      rw [cl29zx3]
      by_cases hkn : k ≤ n
      · obtain ⟨A', o', c1, c2⟩ := round29k 300 (by omega) ha hl200 hp hv (by omega) (by omega) hkn hO
        exact .inl ⟨_, _, c1, κ - 1, by omega, k + 1, _, by omega, rfl, c2⟩
      · obtain rfl : k = n + 1 := by omega
        have b1 := evLeq ((n + 1 : Nat) : Int) n
        rw [decide_eq_false (by omega)] at b1
        obtain ⟨kk, hkk⟩ : ∃ kk : Nat, kk = n + 1 := ⟨_, rfl⟩
        rw [← hkk] at b1 hO ⊢
        refine .inr ⟨_, ?_, ?_, A, outv, hO, rfl⟩
        · simp [lp29zx3, b1, -evBin]
        · intro _ _ h; cases h)
    300 (n + 1) (st29zx3 (.int .i64 (n : Int)) a (.int .i64 p) .nilS (.int .i64 0)) [] (by omega) ⟨0, .nilS, by omega, rfl, .inl ⟨rfl, rfl⟩⟩
  have z := h2.frz (by omega) 2
  unfold M29
  rw [evP_run _ _ rfl]
  have p1 : pack [o'] = o' := rfl
  simp [mf29z, go29zx3 h1, z, -frz]
end Go.Proofs.Ytfmlfekcdbfioaa
/-
  Cycle: the reference's first, its search for the next arc.
-/
namespace Go.Proofs.Ytfmlfekcdbfioaa
open Go

theorem good_enc {h : List LP} {p sum : Int} {x : NArc} {y : LP} (hy : y = h.getD x.1.t.toNat noL) (hw : Wf y) (_hs : -1000000000 ≤ sum ∧ sum ≤ 1000000000) (_hl : -3000000 ≤ x.1.len p ∧ x.1.len p ≤ 3000000) : good h p sum x = (decide (enc y > N50) && decide (sum + x.1.len p + enc y > 0)) := by
  have hN50 : N50 = -1125899906842624 := rfl
  unfold good
  rw [← hy]
  rcases hw with rfl | ⟨e, h1, h2⟩
  · have e1 : plusP noL (sum + x.1.len p) = noL := rfl
    have e2 : enc noL = N50 := rfl
    rw [e1, e2]
    simp [noL]
  · obtain ⟨y1, y2⟩ := y
    simp only at e h1 h2
    subst e
    have e1 : enc (y1, true) = y1 := rfl
    have e2 : plusP (y1, true) (sum + x.1.len p) = (y1 + (sum + x.1.len p), true) := if_neg (by rintro ⟨h, _⟩; cases h)
    rw [e1, e2]
    simp only [Bool.true_and]
    have e3 : enc (y1, true) = y1 := rfl
    rw [decide_eq_true (show y1 > N50 by omega), Bool.true_and]
    congr 1
    rw [eq_iff_iff]
    constructor <;> intro h <;> omega
theorem lonT_at {L : List LArc} {n k r t s : Nat} (hr : r < k) (ht : t < n) (hs : s < n) : (∀ A, evIndexSl 1 A (lonT L n k) (.int .i64 (r : Int)) = some (.fp [lvlT L n r])) ∧ (∀ A, evIndexSl 1 A (lvlT L n r) (.int .i64 (t : Int)) = some (.fp [.fs 1 (rowA n fun v => enc (bst L n r t v))])) ∧ (∀ A, evIndexSl 1 A (.fs 1 (rowA n fun v => enc (bst L n r t v))) (.int .i64 (s : Int)) = some (.fp [.int .i64 (enc (bst L n r t s))])) := by
  refine ⟨fun A => ?_, fun A => ?_, fun A => ?_⟩
  · exact (show SlA 1 ((List.range k).map fun j => lvlT L n j) (lonT L n k) from .inr rfl).index1 (A := A) (by rw [List.getElem?_map, List.getElem?_range hr]; rfl) rfl rfl .i64
  · exact (show SlA 1 ((List.range n).map fun s => .fs 1 (rowA n fun v => enc (bst L n r s v))) (lvlT L n r) from .inr rfl).index1 (A := A) (by rw [List.getElem?_map, List.getElem?_range ht]; rfl) rfl rfl .i64
  · exact (show SlA 1 (rowA n fun v => enc (bst L n r t v)) (.fs 1 (rowA n fun v => enc (bst L n r t v))) from .inr rfl).index1 (A := A) (rowA_get _ hs) rfl rfl .i64
/-- is it the next arc: of the way's j-th arc, at a node -/
def nxQ (L : List LArc) (n r s : Nat) (p sum : Int) (j i : Nat) (at_ : Int) (x : NArc) : Bool := !((decide (j = 0) && decide (x.2 ≠ i)) || decide (x.1.f ≠ at_)) && good (hm L n s r) p sum x
section
variable {n : Nat} {p : Int} {l : List CArc} {a : AV}
set_option maxRecDepth 100000 in
set_option maxHeartbeats 2000000 in
theorem round30m (fuel : Nat) (A : Arena) (ha : arcsOf a = some l) (hl200 : l.length ≤ 200) (hp : isPer p) (hv : ∀ x ∈ l, okA n x) (hn : n ≤ 32) {k j i s r m : Nat} (hk : k ≤ n) (hjk : j < k) (hr : r = k - 1 - j) (hs : s < n) {sum at_ : Int} (hsum : -1000000000 ≤ sum ∧ sum ≤ 1000000000) (hm' : m < l.length) (v9 : AV) :
    run (envOf GC fs29) fuel [.code lp30x0] (st30x0 a (.int .i64 p) (lonT (lar p l) n (n + 1)) (.int .i64 (k : Int)) (.int .i64 (i : Int)) (.int .i64 (s : Int)) (.int .i64 sum) (.int .i64 at_) v9 (.int .i64 (j : Int)) (.int .i64 (-1)) (.int .i64 (m : Int))) A =
      some (.normal (st30x0 a (.int .i64 p) (lonT (lar p l) n (n + 1)) (.int .i64 (k : Int)) (.int .i64 (i : Int)) (.int .i64 (s : Int)) (.int .i64 sum) (.int .i64 at_) v9 (.int .i64 (j : Int)) (.int .i64 (if nxQ (lar p l) n r s p sum j i at_ (l[m], m) = true then (m : Int) else -1)) (.int .i64 ((m + 1 : Nat) : Int))) A) := by
  have hN50 : N50 = -1125899906842624 := rfl
  obtain ⟨hl, hmm⟩ := arcsOf_len ha
  have x1 := arcsOf_at ha hm' A .i64
  have b1 := lt_nat m l.length .i64
  rw [decide_eq_true hm'] at b1
  have b2 := evLss (-1) 0
  rw [decide_eq_true (by omega)] at b2
  have b3 := add1_nat m (by omega)
  have hok := hv _ (List.getElem_mem hm')
  obtain ⟨t, ht, htn⟩ := nat_of hok.2.1
  have mm := m39 (by omega) hok hp
  have hle := len_in (n := 32) (a := l[m]) ⟨by have := hok.1; omega, by have := hok.2.1; omega, hok.2.2.1, hok.2.2.2⟩ hp
  have htn' : t < n := by omega
  have hw : Wf (bst (lar p l) n r t s) := best_wf (lar_ok hn hp hv) (by omega) (bst_best (lar_ok hn hp hv) htn' hs) fun z h => h
  have e2 : l[m].t.toNat = t := by omega
  have hgood := good_enc (h := hm (lar p l) n s r) (p := p) (sum := sum) (x := (l[m], m)) (y := bst (lar p l) n r t s) (by unfold bst; rw [e2]) hw hsum ⟨hle.1, hle.2.1⟩
  unfold nxQ
  rw [hgood]
  obtain ⟨y1, y2, y3⟩ := lonT_at (L := lar p l) (n := n) (k := n + 1) (r := r) (t := t) (s := s) (by omega) htn' hs
  simp only
  obtain ⟨w, hw1⟩ : ∃ w, w = l[m].len p := ⟨_, rfl⟩
  rw [← hw1] at mm hle ⊢
  rw [ht] at x1 mm
  obtain ⟨f, hf⟩ : ∃ f, f = l[m].f := ⟨_, rfl⟩
  rw [← hf] at x1 mm ⊢
  have hN : N50 ≤ enc (bst (lar p l) n r t s) ∧ enc (bst (lar p l) n r t s) ≤ 1000000000 := by
    rcases hw with e | ⟨e, h1, h2⟩
    · rw [e]; simp [enc, noL]
    · have : enc (bst (lar p l) n r t s) = (bst (lar p l) n r t s).1 := by unfold enc; rw [if_pos e]
      rw [this]; omega
  have c1 := evEql (j : Int) 0
  have c2 := evNeq (m : Int) i
  have c3 := evNeq f at_
  have b4 := evSub (a := (k : Int)) (b := 1) (by omega)
  have b5 := evSub (a := (k : Int) - 1) (b := j) (by omega)
  have b6 := evGtr (enc (bst (lar p l) n r t s)) N50
  have b7 := evAdd (a := sum) (b := w) (by omega)
  have b8 := evAdd (a := sum + w) (b := enc (bst (lar p l) n r t s)) (by omega)
  have b9 := evGtr (sum + w + enc (bst (lar p l) n r t s)) 0
  rw [show (k : Int) - 1 - j = (r : Int) by omega] at b5
  rw [show decide ((j : Int) = 0) = decide (j = 0) by rw [Bool.eq_iff_iff, decide_eq_true_eq, decide_eq_true_eq]; omega] at c1
  rw [show decide ((m : Int) ≠ (i : Int)) = decide (m ≠ i) by rw [Bool.eq_iff_iff, decide_eq_true_eq, decide_eq_true_eq]; omega] at c2
  obtain ⟨z, hz⟩ : ∃ z, z = enc (bst (lar p l) n r t s) := ⟨_, rfl⟩
  rw [← hz] at y3 b6 b8 b9 ⊢
  obtain ⟨k1, hk1⟩ : ∃ k1, k1 = (k : Int) - 1 := ⟨_, rfl⟩
  rw [← hk1] at b4 b5
  obtain ⟨sw, hsw⟩ : ∃ sw, sw = sum + w := ⟨_, rfl⟩
  rw [← hsw] at b7 b8 b9 ⊢
  obtain ⟨sz, hsz⟩ : ∃ sz, sz = sw + z := ⟨_, rfl⟩
  rw [← hsz] at b8 b9 ⊢
  obtain ⟨d1, hd1⟩ : ∃ d, d = decide (j = 0) := ⟨_, rfl⟩
  obtain ⟨d2, hd2⟩ : ∃ d, d = decide (m ≠ i) := ⟨_, rfl⟩
  obtain ⟨d3, hd3⟩ : ∃ d, d = decide (f ≠ at_) := ⟨_, rfl⟩
  obtain ⟨d4, hd4⟩ : ∃ d, d = decide (z > N50) := ⟨_, rfl⟩
  obtain ⟨d5, hd5⟩ : ∃ d, d = decide (sz > 0) := ⟨_, rfl⟩
  rw [← hd1] at c1 ⊢
  rw [← hd2] at c2 ⊢
  rw [← hd3] at c3 ⊢
  rw [← hd4] at b6 ⊢
  rw [← hd5] at b9 ⊢
  obtain ⟨i1, hi1⟩ : ∃ i1 : Nat, i1 = m + 1 := ⟨_, rfl⟩
  rw [← hi1] at b3 ⊢
  obtain ⟨LT, hLT⟩ : ∃ LT, LT = lonT (lar p l) n (n + 1) := ⟨_, rfl⟩
  obtain ⟨VT, hVT⟩ : ∃ T, lvlT (lar p l) n r = .fs 1 T := ⟨_, rfl⟩
  rw [← hLT] at y1 ⊢
  rw [hVT] at y1 y2
  obtain ⟨RR, hRR⟩ : ∃ R, R = rowA n fun v => enc (bst (lar p l) n r t v) := ⟨_, rfl⟩
  rw [← hRR] at y2 y3
  have tail : (d1 && d2 || d3) = false → run (envOf GC fs29) fuel [.code lp30x0] (st30x0 a (.int .i64 p) LT (.int .i64 (k : Int)) (.int .i64 (i : Int)) (.int .i64 (s : Int)) (.int .i64 sum) (.int .i64 at_) v9 (.int .i64 (j : Int)) (.int .i64 (-1)) (.int .i64 (m : Int))) A = some (.normal (st30x0 a (.int .i64 p) LT (.int .i64 (k : Int)) (.int .i64 (i : Int)) (.int .i64 (s : Int)) (.int .i64 sum) (.int .i64 at_) v9 (.int .i64 (j : Int)) (.int .i64 (if (d4 && d5) = true then (m : Int) else -1)) (.int .i64 (i1 : Int))) A) := by
    intro h
    cases d3
    rotate_left
    · simp at h
    cases d1
    · cases d4
      · simp [lp30x0, hl, b1, b2, b3, b4, b5, b6, c1, c3, x1, y1, y2, y3, -evBin, -evIndexSl, -evLenSl]
      · cases d5 <;> simp [lp30x0, hl, b1, b2, b3, b4, b5, b6, b7, b8, b9, c1, c3, x1, y1, y2, y3, mm, -evBin, -evIndexSl, -evLenSl]
    · cases d2
      rotate_left
      · simp at h
      cases d4
      · simp [lp30x0, hl, b1, b2, b3, b4, b5, b6, c1, c2, c3, x1, y1, y2, y3, -evBin, -evIndexSl, -evLenSl]
      · cases d5 <;> simp [lp30x0, hl, b1, b2, b3, b4, b5, b6, b7, b8, b9, c1, c2, c3, x1, y1, y2, y3, mm, -evBin, -evIndexSl, -evLenSl]
  cases hskip : (d1 && d2 || d3) with
  | false =>
    rw [tail hskip]; simp
  | true =>
    simp only [Bool.not_true, Bool.false_and, Bool.false_eq_true, if_false]
    cases d1
    · cases d3
      · simp at hskip
      · simp [lp30x0, hl, b1, b2, b3, c1, c3, x1, -evBin, -evIndexSl, -evLenSl]
    · cases d2
      · cases d3
        · simp at hskip
        · simp [lp30x0, hl, b1, b2, b3, c1, c2, c3, x1, -evBin, -evIndexSl, -evLenSl]
      · simp [lp30x0, hl, b1, b2, b3, c1, c2, -evBin, -evIndexSl, -evLenSl]
end
end Go.Proofs.Ytfmlfekcdbfioaa
/-
  Cycle: the reference's first.
-/
namespace Go.Proofs.Ytfmlfekcdbfioaa
open Go

theorem find_filter {α : Type} (q g : α → Bool) (xs : List α) : xs.find? (fun x => q x && g x) = (xs.filter q).find? g := by
  rw [List.find?_filter]
  congr 1
  funext x
  cases q x <;> cases g x <;> rfl
theorem idx_find {l : List CArc} (Q : NArc → Bool) : idxZ Q (num l) = match (num l).find? Q with
    | none => -1
    | some b => (b.2 : Int) := by
  rcases find_idx Q (num l) with ⟨h1, h2⟩ | ⟨i, hi, h1, h2, _⟩
  · rw [h1, h2]
  · rw [h1, h2]
    have hil : i < l.length := by rw [num_len] at hi; exact hi
    have e : (num l)[i] = (l[i], i) := by
      have := num_get l i hil
      rw [List.getElem?_eq_getElem hi] at this
      exact Option.some.inj this
    rw [e]
/-- what the search finds is what walk finds -/
theorem nx_find {L : List LArc} {n r s : Nat} {p sum : Int} {l : List CArc} {n' : Int} (_hv : ∀ x ∈ l, okA n' x) {j i : Nat} (hi : i < l.length) {at_ : Int} (hat : 0 ≤ at_) (hj : j = 0 → at_ = l[i].f) :
    (num l).find? (nxQ L n r s p sum j i at_) = (if j = 0 then [(l[i], i)] else outL l at_.toNat).find? (good (hm L n s r) p sum) := by
  by_cases h0 : j = 0
  · rw [if_pos h0]
    have hq : ∀ x ∈ num l, nxQ L n r s p sum j i at_ x = true ↔ x = (l[i], i) ∧ good (hm L n s r) p sum (l[i], i) = true := fun x hx => by
      unfold nxQ
      simp only [h0, decide_true, Bool.true_and, Bool.and_eq_true, Bool.not_eq_true', Bool.or_eq_false_iff, decide_eq_false_iff_not, Classical.not_not]
      constructor
      · rintro ⟨⟨h1, h2⟩, h3⟩
        obtain ⟨hx1, hx2⟩ := num_mem hx
        have e : x = (l[i], i) := by
          obtain ⟨x1, x2⟩ := x
          simp only at h1 hx2
          subst h1
          rw [← hx2]
        exact ⟨e, by rw [← e]; exact h3⟩
      · rintro ⟨e, h3⟩
        subst e
        exact ⟨⟨rfl, (hj h0).symm⟩, h3⟩
    have hmem : (l[i], i) ∈ num l := List.mem_of_getElem? (num_get l i hi)
    by_cases hg : good (hm L n s r) p sum (l[i], i) = true
    · have : [(l[i], i)].find? (good (hm L n s r) p sum) = some (l[i], i) := by simp [hg]
      rw [this]
      cases hf : (num l).find? (nxQ L n r s p sum j i at_) with
      | none =>
        rw [List.find?_eq_none] at hf
        exact absurd ((hq _ hmem).2 ⟨rfl, hg⟩) (hf _ hmem)
      | some y =>
        rw [((hq y (List.mem_of_find?_eq_some hf)).1 (List.find?_some hf)).1]
    · have : [(l[i], i)].find? (good (hm L n s r) p sum) = none := by simp [hg]
      rw [this, List.find?_eq_none]
      intro x hx h
      exact hg ((hq x hx).1 h).2
  · rw [if_neg h0]
    have e : nxQ L n r s p sum j i at_ = fun x => decide (x.1.f = at_) && good (hm L n s r) p sum x := by
      funext x
      unfold nxQ
      rw [decide_eq_false h0, Bool.false_and, Bool.false_or]
      congr 1
      by_cases h : x.1.f = at_ <;> simp [h]
    rw [e, find_filter]
    unfold outL
    rw [show ((at_.toNat : Nat) : Int) = at_ by omega]
section
variable {n : Nat} {p : Int} {l : List CArc} {a : AV}
set_option maxRecDepth 100000 in
theorem loop30m (fuel : Nat) (hf : 250 < fuel) (A : Arena) (ha : arcsOf a = some l) (hl200 : l.length ≤ 200) (hp : isPer p) (hv : ∀ x ∈ l, okA n x) (hn : n ≤ 32) {k j i s r : Nat} (hk : k ≤ n) (hjk : j < k) (hr : r = k - 1 - j) (hs : s < n) {sum at_ : Int} (hsum : -1000000000 ≤ sum ∧ sum ≤ 1000000000) (v9 : AV) :
    ∃ m' : Nat, iter (evC (envOf GC fs29) fuel lp30x0) mask30x0 fuel (st30x0 a (.int .i64 p) (lonT (lar p l) n (n + 1)) (.int .i64 (k : Int)) (.int .i64 (i : Int)) (.int .i64 (s : Int)) (.int .i64 sum) (.int .i64 at_) v9 (.int .i64 (j : Int)) (.int .i64 (-1)) (.int .i64 0)) A =
      some (.exit 4 ((st30x0 a (.int .i64 p) (lonT (lar p l) n (n + 1)) (.int .i64 (k : Int)) (.int .i64 (i : Int)) (.int .i64 (s : Int)) (.int .i64 sum) (.int .i64 at_) v9 (.int .i64 (j : Int)) (.int .i64 (idxZ (nxQ (lar p l) n r s p sum j i at_) (num l))) (.int .i64 (m' : Int))).set 16 (.bool false)) A) := by
  obtain ⟨hl, hmm⟩ := arcsOf_len ha
  have hnm : ∀ i (hi : i < l.length), (num l)[i]'(by rw [num_len]; exact hi) = (l[i], i) := fun i hi => by
    have := num_get l i hi
    rw [List.getElem?_eq_getElem (by rw [num_len]; exact hi)] at this
    exact Option.some.inj this
  cases h : (num l).findIdx? (nxQ (lar p l) n r s p sum j i at_) with
  | none =>
    have e : idxZ (nxQ (lar p l) n r s p sum j i at_) (num l) = -1 := by unfold idxZ; rw [h]
    rw [List.findIdx?_eq_none_iff] at h
    rw [e]
    refine ⟨l.length, ?_⟩
    exact iter_up (E := envOf GC fs29) (fuel := fuel) (a := lp30x0) (mask := mask30x0) (fun m => st30x0 a (.int .i64 p) (lonT (lar p l) n (n + 1)) (.int .i64 (k : Int)) (.int .i64 (i : Int)) (.int .i64 (s : Int)) (.int .i64 sum) (.int .i64 at_) v9 (.int .i64 (j : Int)) (.int .i64 (-1)) (.int .i64 (m : Int))) (fun _ => A) l.length
      (fun _ => cl30x0) (fun _ _ h => by cases h) (fun m hm' => by
        have := round30m fuel A ha hl200 hp hv hn hk hjk hr hs (i := i) (at_ := at_) hsum hm' v9
        rw [h _ (List.mem_of_getElem? (num_get l m hm'))] at this
        rw [if_neg (by simp)] at this
        exact this) (by
        obtain ⟨LT, hLT⟩ : ∃ LT, LT = lonT (lar p l) n (n + 1) := ⟨_, rfl⟩
        rw [← hLT]
        simp [lp30x0, hl, -evLenSl]) (show l.length < fuel by omega)
  | some i0 =>
    have e : idxZ (nxQ (lar p l) n r s p sum j i at_) (num l) = (i0 : Int) := by unfold idxZ; rw [h]
    obtain ⟨h1, h2, h3⟩ := List.findIdx?_eq_some_iff_getElem.1 h
    rw [num_len] at h1
    rw [hnm i0 h1] at h2
    rw [e]
    refine ⟨i0 + 1, ?_⟩
    have lp := iter_up (E := envOf GC fs29) (fuel := fuel) (a := lp30x0) (mask := mask30x0) (fun m => st30x0 a (.int .i64 p) (lonT (lar p l) n (n + 1)) (.int .i64 (k : Int)) (.int .i64 (i : Int)) (.int .i64 (s : Int)) (.int .i64 sum) (.int .i64 at_) v9 (.int .i64 (j : Int)) (.int .i64 (if m ≤ i0 then -1 else (i0 : Int))) (.int .i64 (m : Int))) (fun _ => A) (i0 + 1)
      (o := .exit 4 ((st30x0 a (.int .i64 p) (lonT (lar p l) n (n + 1)) (.int .i64 (k : Int)) (.int .i64 (i : Int)) (.int .i64 (s : Int)) (.int .i64 sum) (.int .i64 at_) v9 (.int .i64 (j : Int)) (.int .i64 (i0 : Int)) (.int .i64 ((i0 + 1 : Nat) : Int))).set 16 (.bool false)) A)
      (fun _ => cl30x0) (fun _ _ h => by cases h) (fun m hm' => by
        have := round30m fuel A ha hl200 hp hv hn hk hjk hr hs (i := i) (at_ := at_) hsum (show m < l.length by omega) v9
        rw [if_pos (show m ≤ i0 by omega)]
        rw [this]
        by_cases hmi : m = i0
        · subst hmi
          rw [if_pos h2, if_neg (by omega)]
        · have h4 := h3 m (by omega)
          rw [hnm m (by omega)] at h4
          rw [if_neg h4, if_pos (by omega)]) (by
        rw [if_neg (show ¬ i0 + 1 ≤ i0 by omega)]
        have b1 := lt_nat (i0 + 1) l.length .i64
        have b2 := evLss (i0 : Int) 0
        rw [decide_eq_false (by omega)] at b2
        obtain ⟨q, hq⟩ : ∃ q, q = i0 + 1 := ⟨_, rfl⟩
        rw [← hq] at b1 ⊢
        obtain ⟨LT, hLT⟩ : ∃ LT, LT = lonT (lar p l) n (n + 1) := ⟨_, rfl⟩
        rw [← hLT]
        by_cases hql : q < l.length
        · rw [decide_eq_true hql] at b1
          simp [lp30x0, hl, b1, b2, -evLenSl, -evBin]
        · rw [decide_eq_false hql] at b1
          simp [lp30x0, hl, b1, -evLenSl, -evBin]) (show i0 + 1 < fuel by omega)
    have lp : iter (evC (envOf GC fs29) fuel lp30x0) mask30x0 fuel (st30x0 a (.int .i64 p) (lonT (lar p l) n (n + 1)) (.int .i64 (k : Int)) (.int .i64 (i : Int)) (.int .i64 (s : Int)) (.int .i64 sum) (.int .i64 at_) v9 (.int .i64 (j : Int)) (.int .i64 (if 0 ≤ i0 then -1 else (i0 : Int))) (.int .i64 0)) A = _ := lp
    rw [if_pos (by omega)] at lp
    exact lp
theorem walkM_len (p : Int) (l : List CArc) (hs : Nat → List LP) : ∀ (r : Nat) (sum : Int) (ch : List NArc) (out res : List Int), walkM p l hs r sum ch out = some res → res.length = out.length + r
  | 0, sum, ch, out, res, h => by simp only [walkM, Option.some.injEq] at h; rw [← h]; rfl
  | r + 1, sum, ch, out, res, h => by
    unfold walkM at h
    split at h
    · cases h
    · have := walkM_len p l hs r _ _ _ _ h
      rw [this]; simp; omega
set_option maxRecDepth 100000 in
set_option maxHeartbeats 1000000 in
theorem loop30j (fuel : Nat) (hf : 250 < fuel) (ha : arcsOf a = some l) (hl200 : l.length ≤ 200) (hp : isPer p) (hv : ∀ x ∈ l, okA n x) (hn : n ≤ 32) {k i s : Nat} (hk : k ≤ n) (hil : i < l.length) (hs : s < n) :
    ∀ (q j : Nat) (sum at_ : Int) (out : List Int) (v9 : AV) (A : Arena) (m : Nat), q < m → q + j = k → -(3000000 * (j : Int)) ≤ sum ∧ sum ≤ 3000000 * j → 0 ≤ at_ → (j = 0 → at_ = l[i].f) → out.length = j → SlotG 1 A v9 (intsA out) →
      ∃ w6 w7 w8 v9' w10 w11 w12 w13 w14 w15 w16 w17 w18 w19 w20 A' out', iter (evC (envOf GC fs29) fuel lp30x1) mask30x1 m (st30x1 a (.int .i64 p) (lonT (lar p l) n (n + 1)) (.int .i64 (k : Int)) (.int .i64 (i : Int)) (.int .i64 (s : Int)) (.int .i64 sum) (.int .i64 at_) v9 (.int .i64 (j : Int))) A =
        some (.exit 2 [a, .int .i64 p, lonT (lar p l) n (n + 1), .int .i64 (k : Int), .undef, .int .i64 (i : Int), w6, w7, w8, v9', w10, w11, w12, w13, w14, w15, w16, w17, w18, w19, w20] A') ∧ SlotG 1 A' v9' (intsA out') ∧
        match walkM p l (hm (lar p l) n s) q sum (if j = 0 then [(l[i], i)] else outL l at_.toNat) out with
        | some res => out' = res
        | none => out'.length < k := by
  intro q
  induction q with
  | zero =>
    intro j sum at_ out v9 A m hm0 hq hsum hat hj ho hI
    obtain ⟨m, rfl⟩ : ∃ j, m = j + 1 := ⟨m - 1, by omega⟩
    have hjk : j = k := by omega
    subst hjk
    refine ⟨.int .i64 (s : Int), .int .i64 sum, .int .i64 at_, v9, .int .i64 (j : Int), .undef, .undef, .undef, .undef, .bool false, .undef, .undef, .undef, .undef, .undef, A, out, ?_, hI, rfl⟩
    · rw [iter_succ, cl30x1]
      obtain ⟨LT, hLT⟩ : ∃ LT, LT = lonT (lar p l) n (n + 1) := ⟨_, rfl⟩
      rw [← hLT]
      simp [lp30x1]
  | succ q ih =>
    intro j sum at_ out v9 A m hm0 hq hsum hat hj ho hI
    obtain ⟨m, rfl⟩ : ∃ j, m = j + 1 := ⟨m - 1, by omega⟩
    obtain ⟨m', lp⟩ := loop30m fuel hf A ha hl200 hp hv hn hk (show j < k by omega) (show q = k - 1 - j by omega) hs (i := i) (at_ := at_) (show -1000000000 ≤ sum ∧ sum ≤ 1000000000 by omega) v9
    rw [idx_find, nx_find hv hil hat hj] at lp
    have b1 := lt_nat j k .i64
    rw [decide_eq_true (by omega)] at b1
    rw [iter_succ, cl30x1]
    unfold walkM
    cases hfd : (if j = 0 then [(l[i], i)] else outL l at_.toNat).find? (good (hm (lar p l) n s q) p sum) with
    | none =>
      rw [hfd] at lp
      simp only at lp
      have b2 := evLss (-1) 0
      rw [decide_eq_true (by omega)] at b2
      refine ⟨.int .i64 (s : Int), .int .i64 sum, .undef, v9, .int .i64 (j : Int), .int .i64 (-1), .undef, .undef, .undef, .undef, .undef, .undef, .undef, .bool true, .undef, A, out, ?_, hI, by simp only; omega⟩
      obtain ⟨LT, hLT⟩ : ∃ LT, LT = lonT (lar p l) n (n + 1) := ⟨_, rfl⟩
      rw [← hLT] at lp ⊢
      simp [lp30x1, b1, b2, go30x0 lp, -evBin]
    | some b =>
      rw [hfd] at lp
      simp only at lp
      have hbm : b ∈ num l := by
        have := List.mem_of_find?_eq_some hfd
        split at this
        · have e : b = (l[i], i) := by simpa using this
          rw [e]; exact List.mem_of_getElem? (num_get l i hil)
        · exact (List.mem_filter.1 this).1
      obtain ⟨hb1, hb2⟩ := num_mem hbm
      have hok := num_ok hv hbm
      have hle := len_in (n := 32) (a := b.1) ⟨by have := hok.1; omega, by have := hok.2.1; omega, hok.2.2.1, hok.2.2.2⟩ hp
      have x1 := fun A => arcsOf_at ha hb1 A .i64
      have mm := m39 (show (n : Int) ≤ 32 by omega) (show okA n l[b.2] by rw [hb2]; exact hok) hp
      rw [hb2] at x1 mm
      have b2 := evLss (b.2 : Int) 0
      rw [decide_eq_false (by omega)] at b2
      have b3 := add1_nat j (by omega)
      have b4 := evAdd (a := sum) (b := b.1.len p) (by omega)
      obtain ⟨s', k', C, ap, c1, c2, c3, c4⟩ := hI.append (bytes := 8) (.int .i64 (b.2 : Int)) (by omega) (by omega) (by rw [intsA_len]; omega)
      have e1 : intsA out ++ [.int .i64 (b.2 : Int)] = intsA (out ++ [(b.2 : Int)]) := by simp [intsA]
      rw [e1] at c1
      obtain ⟨w6, w7, w8, v9', w10, w11, w12, w13, w14, w15, w16, w17, w18, w19, w20, A', out', k1, k2, k3⟩ := ih (j + 1) (sum + b.1.len p) b.1.t (out ++ [(b.2 : Int)]) (.sl s' 0 k') C m (by omega) (by omega) (by omega) hok.2.1.1 (fun h => by omega) (by simp [ho]) c1
      rw [if_neg (show ¬ j + 1 = 0 by omega)] at k3
      refine ⟨w6, w7, w8, v9', w10, w11, w12, w13, w14, w15, w16, w17, w18, w19, w20, A', out', ?_, k2, k3⟩
      obtain ⟨LT, hLT⟩ : ∃ LT, LT = lonT (lar p l) n (n + 1) := ⟨_, rfl⟩
      rw [← hLT] at lp k1 ⊢
      obtain ⟨i1, hi1⟩ : ∃ i1 : Nat, i1 = j + 1 := ⟨_, rfl⟩
      rw [← hi1] at b3 k1
      obtain ⟨sw, hsw⟩ : ∃ sw, sw = sum + b.1.len p := ⟨_, rfl⟩
      rw [← hsw] at b4 k1
      have hrun : run (envOf GC fs29) fuel [.code lp30x1] (st30x1 a (.int .i64 p) LT (.int .i64 (k : Int)) (.int .i64 (i : Int)) (.int .i64 (s : Int)) (.int .i64 sum) (.int .i64 at_) v9 (.int .i64 (j : Int))) A = some (.normal (st30x1 a (.int .i64 p) LT (.int .i64 (k : Int)) (.int .i64 (i : Int)) (.int .i64 (s : Int)) (.int .i64 sw) (.int .i64 b.1.t) (.sl s' 0 k') (.int .i64 (i1 : Int))) C) := by
        simp [lp30x1, b1, b2, b3, b4, go30x0 lp, ap, x1, mm, -evBin, -evIndexSl]
      rw [hrun]
      exact k1
set_option maxRecDepth 100000 in
theorem round30i (fuel : Nat) (hf : 250 < fuel) (A : Arena) (ha : arcsOf a = some l) (hl200 : l.length ≤ 200) (hp : isPer p) (hv : ∀ x ∈ l, okA n x) (hn : n ≤ 32) {k i : Nat} (_hk1 : 1 ≤ k) (hk : k ≤ n) (hil : i < l.length) :
    (∃ res, wk p l n k (l[i], i) = some res ∧ ∃ v6 v7 v8 v9 v10 v11 v12 v13 v14 v15 v16 v17 v18 v19 v20 A', SlotG 1 A' v9 (intsA res) ∧ run (envOf GC fs29) fuel [.code lp30x2] (st30x2 a (.int .i64 p) (lonT (lar p l) n (n + 1)) (.int .i64 (k : Int)) (.int .i64 (i : Int))) A = some (.ret [a, .int .i64 p, lonT (lar p l) n (n + 1), .int .i64 (k : Int), v9, .int .i64 (i : Int), v6, v7, v8, v9, v10, v11, v12, v13, v14, v15, v16, v17, v18, v19, v20] A')) ∨
    (wk p l n k (l[i], i) = none ∧ ∃ A', run (envOf GC fs29) fuel [.code lp30x2] (st30x2 a (.int .i64 p) (lonT (lar p l) n (n + 1)) (.int .i64 (k : Int)) (.int .i64 (i : Int))) A = some (.normal (st30x2 a (.int .i64 p) (lonT (lar p l) n (n + 1)) (.int .i64 (k : Int)) (.int .i64 ((i + 1 : Nat) : Int))) A')) := by
  obtain ⟨hl, hmm⟩ := arcsOf_len ha
  have x1 := fun A => arcsOf_at ha hil A .i64
  have hok := hv _ (List.getElem_mem hil)
  obtain ⟨f, hf1, hfn⟩ := nat_of hok.1
  obtain ⟨w6, w7, w8, v9', w10, w11, w12, w13, w14, w15, w16, w17, w18, w19, w20, A', out', k1, k2, k3⟩ := loop30j fuel hf ha hl200 hp hv hn hk hil (show f < n by omega) k 0 0 l[i].f [] .nilS A fuel (by omega) (by omega) (by omega) hok.1.1 (fun _ => rfl) rfl (.inl ⟨rfl, rfl⟩)
  rw [if_pos rfl] at k3
  have ew : wk p l n k (l[i], i) = walkM p l (hm (lar p l) n f) k 0 [(l[i], i)] [] := by
    unfold wk
    simp only
    rw [show l[i].f.toNat = f by omega]
  rw [ew]
  have b1 := lt_nat i l.length .i64
  rw [decide_eq_true hil] at b1
  have b3 := add1_nat i (by omega)
  obtain ⟨i1, hi1⟩ : ∃ i1 : Nat, i1 = i + 1 := ⟨_, rfl⟩
  rw [← hi1] at b3 ⊢
  have hlen : evLenSl v9' = some (.int .i64 (out'.length : Int)) := by
    rcases k2 with ⟨e1, e2⟩ | ⟨id, gr, e1, _⟩
    · have : out' = [] := by
        cases out' with
        | nil => rfl
        | cons _ _ => simp [intsA] at e2
      rw [e1, this]; rfl
    · rw [e1]; simp [evLenSl, intsA_len]
  have b2 := evEql (out'.length : Int) k
  rw [hf1] at x1 k1
  have e0 : ((0 : Nat) : Int) = 0 := rfl
  rw [e0] at k1
  obtain ⟨LT, hLT⟩ : ∃ LT, LT = lonT (lar p l) n (n + 1) := ⟨_, rfl⟩
  rw [← hLT] at k1 ⊢
  cases hw : walkM p l (hm (lar p l) n f) k 0 [(l[i], i)] [] with
  | some res =>
    rw [hw] at k3
    simp only at k3
    have hlr := walkM_len p l _ _ _ _ _ _ hw
    rw [k3] at b2 hlen k2
    rw [decide_eq_true (by simp at hlr; omega)] at b2
    refine .inl ⟨res, rfl, .undef, .undef, .undef, v9', .undef, .undef, .undef, .undef, .undef, .undef, .undef, .undef, .undef, .undef, .bool true, A', k2, ?_⟩
    simp [lp30x2, hl, b1, b2, hlen, x1, go30x1 k1, -evBin, -evLenSl, -evIndexSl]
  | none =>
    rw [hw] at k3
    simp only at k3
    rw [decide_eq_false (by omega)] at b2
    refine .inr ⟨rfl, A', ?_⟩
    simp [lp30x2, hl, b1, b2, b3, hlen, x1, go30x1 k1, -evBin, -evLenSl, -evIndexSl]
noncomputable def M30 : PModel := fun args => evP (envOf GC fs29) 300 mf30 5 args
theorem spec30 : PureSpec Try.prog GC 30 M30 := PureSpec.of_ev (E := envOf GC fs29) (envOf_sound sound29) rfl at30 comp30 5 fun _ _ h => ⟨300, h⟩
set_option maxRecDepth 100000 in
theorem M30_eq (ha : arcsOf a = some l) (hr : Ready n l p) {k : Nat} (hk1 : 1 ≤ k) (hk : k ≤ n) : M30 [a, .int .i64 p, lonT (lar p l) n (n + 1), .int .i64 (k : Int)] = some (slA 1 (intsA ((firstK p l n k).getD []))) := by
  obtain ⟨⟨hn, hl200, hv⟩, hp⟩ := hr
  obtain ⟨hl, hmm⟩ := arcsOf_len ha
  have hn32 : n ≤ 32 := by omega
  have hnm : ∀ i (hi : i < l.length), (num l)[i]'(by rw [num_len]; exact hi) = (l[i], i) := fun i hi => by
    have := num_get l i hi
    rw [List.getElem?_eq_getElem (by rw [num_len]; exact hi)] at this
    exact Option.some.inj this
  obtain ⟨o, h1, h2⟩ := iter_inv (E := envOf GC fs29) (fuel := 300) (a := lp30x2) (mask := mask30x2)
    (fun κ σ A => ∃ i, i + κ = l.length ∧ σ = st30x2 a (.int .i64 p) (lonT (lar p l) n (n + 1)) (.int .i64 (k : Int)) (.int .i64 (i : Int)) ∧ ∀ j x, j < i → (num l)[j]? = some x → wk p l n k x = none)
    (fun o => (∃ i res v6 v7 v8 v9 v10 v11 v12 v13 v14 v15 v16 v17 v18 v19 v20 A', firstK p l n k = some res ∧ SlotG 1 A' v9 (intsA res) ∧ o = .ret [a, .int .i64 p, lonT (lar p l) n (n + 1), .int .i64 (k : Int), v9, .int .i64 (i : Int), v6, v7, v8, v9, v10, v11, v12, v13, v14, v15, v16, v17, v18, v19, v20] A') ∨
      (firstK p l n k = none ∧ ∃ A', o = .exit 0 ((st30x2 a (.int .i64 p) (lonT (lar p l) n (n + 1)) (.int .i64 (k : Int)) (.int .i64 (l.length : Int))).set 14 (.bool false)) A'))
    (by
      rintro κ σ A ⟨i, hik, rfl, hno⟩
      rw [cl30x2]
      by_cases hi : i < l.length
      · rcases round30i 300 (by omega) A ha hl200 hp hv hn32 hk1 hk hi with ⟨res, hw, v6, v7, v8, v9, v10, v11, v12, v13, v14, v15, v16, v17, v18, v19, v20, A', c1, c2⟩ | ⟨hw, A', c2⟩
        · refine .inr ⟨_, c2, (fun _ _ h => by cases h), .inl ⟨i, res, v6, v7, v8, v9, v10, v11, v12, v13, v14, v15, v16, v17, v18, v19, v20, A', ?_, c1, rfl⟩⟩
          unfold firstK
          rcases first_cases (wk p l n k) (num l) with ⟨q1, q2⟩ | ⟨m, hm0, r, q1, q2, q3⟩
          · have := q2 _ (List.mem_of_getElem? (num_get l i hi))
            rw [hw] at this; cases this
          · rw [q1]
            have hml : m < l.length := by rw [num_len] at hm0; exact hm0
            rcases Nat.lt_trichotomy m i with h | h | h
            · have := hno m _ h (List.getElem?_eq_getElem hm0)
              rw [q2] at this; cases this
            · subst h
              rw [hnm m hml, hw] at q2
              exact q2.symm
            · have := q3 i h
              rw [hnm i hi, hw] at this; cases this
        · refine .inl ⟨_, _, c2, κ - 1, by omega, i + 1, by omega, rfl, fun j x hj hx => ?_⟩
          by_cases hji : j = i
          · subst hji
            rw [num_get l j hi] at hx
            injection hx with hx
            rw [← hx]; exact hw
          · exact hno j x (by omega) hx
      · obtain rfl : i = l.length := by omega
        refine .inr ⟨_, ?_, (fun _ _ h => by cases h), .inr ⟨?_, A, rfl⟩⟩
        · obtain ⟨LT, hLT⟩ : ∃ LT, LT = lonT (lar p l) n (n + 1) := ⟨_, rfl⟩
          rw [← hLT]
          simp [lp30x2, hl, -evLenSl]
        · unfold firstK
          rw [List.findSome?_eq_none_iff]
          intro x hx
          obtain ⟨j, hj, rfl⟩ := List.mem_iff_getElem.1 hx
          exact hno j _ (by rw [num_len] at hj; exact hj) (List.getElem?_eq_getElem hj))
    300 l.length (st30x2 a (.int .i64 p) (lonT (lar p l) n (n + 1)) (.int .i64 (k : Int)) (.int .i64 0)) [] (by omega) ⟨0, by omega, rfl, fun j x hj => by omega⟩
  unfold M30
  rw [evP_run _ _ rfl]
  obtain ⟨LT, hLT⟩ : ∃ LT, LT = lonT (lar p l) n (n + 1) := ⟨_, rfl⟩
  rw [← hLT] at h1 h2 ⊢
  rcases h2 with ⟨i, res, v6, v7, v8, v9, v10, v11, v12, v13, v14, v15, v16, v17, v18, v19, v20, A', q1, q2, rfl⟩ | ⟨q1, A', rfl⟩
  · rw [q1]
    have z := q2.frz 4 (fun x hx => by obtain ⟨w, _, rfl⟩ := List.mem_map.1 hx; rfl)
    have p1 : pack [v9] = v9 := rfl
    simp [mf30, go30x2 h1, z, -frz]
  · rw [q1]
    simp [mf30, go30x2 h1, slA, intsA]
end
end Go.Proofs.Ytfmlfekcdbfioaa
/-
  Cycle: the reference's Levels.
-/
namespace Go.Proofs.Ytfmlfekcdbfioaa
open Go

/-- the reference's starts under way: not greater than the least ones, and not less than the ways so far -/
def PS (L : List LArc) (n : Nat) (st : List Int) (k s v : Nat) (f : Nat → Int) : Prop := (∀ w, w < n → 0 ≤ f w ∧ f w ≤ st.getD w 0) ∧ ∀ k' s' v', v' < n → s' < n → (k' < k ∨ (k' = k ∧ (s' < s ∨ (s' = s ∧ v' < v)))) → enc (bst L n k' s' v') ≤ f v'
section
variable {L : List LArc} {n : Nat} (hok : ArcsOk n L) (hlv : (levels L n).2 = true)
include hok hlv
theorem enc_le {k s v : Nat} (hs : s < n) (hv : v < n) : enc (bst L n k s v) ≤ (levels L n).1.getD v 0 := by
  have hL : ∀ a ∈ L, a.1 < n ∧ a.2.1 < n := fun a ha => ⟨(hok a ha).1, (hok a ha).2.1⟩
  obtain ⟨h1, h2, h3, h4, h5⟩ := levels_least hL
  have h6 : 0 ≤ (levels L n).1.getD v 0 := h2 v
  rcases bst_best (j := k) hok hs hv with ⟨e, _⟩ | ⟨e, ⟨r, a1, a2, a3⟩, _⟩
  · have e0 : enc noL = -1125899906842624 := rfl
    rw [e, e0]; exact Int.le_trans (by decide) h6
  · have := keeps_way (h4 hlv) a1
    have := h2 s
    have e1 : enc (bst L n k s v) = (bst L n k s v).1 := by unfold enc; rw [if_pos e]
    omega
theorem enc_all {f : Nat → Int} (h : PS L n (levels L n).1 (n + 1) 0 0 f) : ∀ v, v < n → f v = (levels L n).1.getD v 0 := fun v hv => by
  have hL : ∀ a ∈ L, a.1 < n ∧ a.2.1 < n := fun a ha => ⟨(hok a ha).1, (hok a ha).2.1⟩
  obtain ⟨h1, h2, h3, h4, h5⟩ := levels_least hL
  obtain ⟨p1, p2⟩ := h
  have hle := (p1 v hv).2
  obtain ⟨u, r, k1, k2, k3⟩ := h3 v hv
  obtain ⟨r', j1, j2, j3⟩ := short hL ((levels_ok hL).1 hlv) _ r u v rfl k1 k2
  have hp := p2 r'.length u v hv k1 (.inl (by omega))
  rcases bst_best (j := r'.length) hok k1 hv with ⟨e, e2⟩ | ⟨e, _, e2⟩
  · exact absurd ⟨r', j1, rfl, rfl⟩ (e2 (lenW r'))
  · have e1 : enc (bst L n r'.length u v) = (bst L n r'.length u v).1 := by unfold enc; rw [if_pos e]
    have := e2 _ ⟨r', j1, rfl, rfl⟩
    omega
theorem PS.step {k s v : Nat} {f : Nat → Int} (hs : s < n) (hv : v < n) (h : PS L n (levels L n).1 k s v f) : PS L n (levels L n).1 k s (v + 1) (fun w => if w = v then max (f v) (enc (bst L n k s v)) else f w) := by
  obtain ⟨p1, p2⟩ := h
  have he := enc_le hok hlv (k := k) hs hv
  refine ⟨fun w hw => ?_, fun k' s' v' hv' hs' hh => ?_⟩
  · have := p1 w hw
    dsimp only
    split
    · rename_i e; subst e; omega
    · exact this
  · dsimp only
    by_cases hvv : v' = v
    · subst hvv
      rw [if_pos rfl]
      by_cases hold : k' < k ∨ (k' = k ∧ (s' < s ∨ (s' = s ∧ v' < v')))
      · have := p2 k' s' v' hv' hs' hold
        omega
      · obtain ⟨rfl, rfl⟩ : k' = k ∧ s' = s := by omega
        omega
    · rw [if_neg hvv]
      exact p2 k' s' v' hv' hs' (by omega)
end
section
variable {n : Nat} {p : Int} {l : List CArc}
theorem PS.nextS {L : List LArc} {st : List Int} {k s : Nat} {f : Nat → Int} (h : PS L n st k s n f) : PS L n st k (s + 1) 0 f := ⟨h.1, fun k' s' v' hv hs hh => h.2 k' s' v' hv hs (by omega)⟩
theorem PS.nextK {L : List LArc} {st : List Int} {k : Nat} {f : Nat → Int} (h : PS L n st k n 0 f) : PS L n st (k + 1) 0 0 f := ⟨h.1, fun k' s' v' hv hs hh => h.2 k' s' v' hv hs (by omega)⟩
noncomputable def fs15 : List (FuncId × HModel) := [(28, pureH 4 M28), (29, pureH 4 M29), (30, pureH 4 M30)]
@[simp] theorem fs15_28 : lookM fs15 28 = some (pureH 4 M28) := rfl
@[simp] theorem fs15_29 : lookM fs15 29 = some (pureH 4 M29) := rfl
@[simp] theorem fs15_30 : lookM fs15 30 = some (pureH 4 M30) := rfl
theorem sound15 : ∀ f M, lookM fs15 f = some M → FnSpecY Try.prog GC f M := lookM_cons (FnSpecY.of_pure spec28 4) (lookM_cons (FnSpecY.of_pure spec29 4) (lookM_cons (FnSpecY.of_pure spec30 4) lookM_nil))
set_option maxRecDepth 100000 in
theorem round15v (fuel : Nat) {k s v : Nat} (hk : k ≤ n) (hs : s < n) (hv : v < n) (hn : n ≤ 32) (f : Nat → Int) (L : List LArc) :
    run (envOf GC fs15) fuel [.code lp15x1] (st15x1 (.int .i64 (n : Int)) (lonT L n (n + 1)) (.sl 0 0 n) (.int .i64 (k : Int)) (.int .i64 (s : Int)) (.int .i64 (v : Int))) [.row 1 false (rowA n f)] =
      some (.normal (st15x1 (.int .i64 (n : Int)) (lonT L n (n + 1)) (.sl 0 0 n) (.int .i64 (k : Int)) (.int .i64 (s : Int)) (.int .i64 ((v + 1 : Nat) : Int))) [.row 1 false (rowA n fun w => if w = v then max (f v) (enc (bst L n k s v)) else f w)]) := by
  have b1 := lt_nat v n .i64
  rw [decide_eq_true hv] at b1
  have b3 := add1_nat v (by omega)
  obtain ⟨y1, y2, y3⟩ := lonT_at (L := L) (n := n) (k := n + 1) (r := k) (t := s) (s := v) (by omega) hs hv
  have g := rowA_get f hv
  have mx := maxL (f v) (enc (bst L n k s v))
  have e := rowA_set n f v (max (f v) (enc (bst L n k s v)))
  rw [← e]
  obtain ⟨z, hz⟩ : ∃ z, z = enc (bst L n k s v) := ⟨_, rfl⟩
  rw [← hz] at y3 mx ⊢
  obtain ⟨mz, hmz⟩ : ∃ mz, mz = max (f v) z := ⟨_, rfl⟩
  rw [← hmz] at mx ⊢
  obtain ⟨LT, hLT⟩ : ∃ LT, LT = lonT L n (n + 1) := ⟨_, rfl⟩
  obtain ⟨VT, hVT⟩ : ∃ T, lvlT L n k = .fs 1 T := ⟨_, rfl⟩
  rw [← hLT] at y1 ⊢
  rw [hVT] at y1 y2
  obtain ⟨RR, hRR⟩ : ∃ R, R = rowA n fun v => enc (bst L n k s v) := ⟨_, rfl⟩
  rw [← hRR] at y2 y3
  obtain ⟨R, hR⟩ : ∃ R, R = rowA n f := ⟨_, rfl⟩
  rw [← hR] at g ⊢
  have k1 : evIndexSl 1 [.row 1 false R] (.sl 0 0 n) (.int .i64 (v : Int)) = some (.ptr 0 v 0) := by simp [evIndexSl, hv]
  obtain ⟨i1, hi1⟩ : ∃ i1 : Nat, i1 = v + 1 := ⟨_, rfl⟩
  rw [← hi1] at b3 ⊢
  simp [lp15x1, b1, b3, k1, y1, y2, y3, g, mx, storeElem, -evBin, -evIndexSl, -evMinL]
theorem loop15v (fuel : Nat) (hf : 40 < fuel) {L : List LArc} (hok : ArcsOk n L) (hlv : (levels L n).2 = true) {k s : Nat} (hk : k ≤ n) (hs : s < n) (hn : n ≤ 32) {f : Nat → Int} (hP : PS L n (levels L n).1 k s 0 f) :
    ∃ f', PS L n (levels L n).1 k (s + 1) 0 f' ∧ iter (evC (envOf GC fs15) fuel lp15x1) mask15x1 fuel (st15x1 (.int .i64 (n : Int)) (lonT L n (n + 1)) (.sl 0 0 n) (.int .i64 (k : Int)) (.int .i64 (s : Int)) (.int .i64 0)) [.row 1 false (rowA n f)] = some (.exit 6 ((st15x1 (.int .i64 (n : Int)) (lonT L n (n + 1)) (.sl 0 0 n) (.int .i64 (k : Int)) (.int .i64 (s : Int)) (.int .i64 (n : Int))).set 19 (.bool false)) [.row 1 false (rowA n f')]) := by
  obtain ⟨o, h1, f', h2, h3⟩ := iter_inv (E := envOf GC fs15) (fuel := fuel) (a := lp15x1) (mask := mask15x1)
    (fun κ σ A => ∃ v f, v + κ = n ∧ σ = st15x1 (.int .i64 (n : Int)) (lonT L n (n + 1)) (.sl 0 0 n) (.int .i64 (k : Int)) (.int .i64 (s : Int)) (.int .i64 (v : Int)) ∧ A = [.row 1 false (rowA n f)] ∧ PS L n (levels L n).1 k s v f)
    (fun o => ∃ f', PS L n (levels L n).1 k (s + 1) 0 f' ∧ o = .exit 6 ((st15x1 (.int .i64 (n : Int)) (lonT L n (n + 1)) (.sl 0 0 n) (.int .i64 (k : Int)) (.int .i64 (s : Int)) (.int .i64 (n : Int))).set 19 (.bool false)) [.row 1 false (rowA n f')])
    (by
      rintro κ σ A ⟨v, f, hv, rfl, rfl, hI⟩
      rw [cl15x1]
      by_cases hvn : v < n
      · exact .inl ⟨_, _, round15v fuel hk hs hvn hn f L, κ - 1, by omega, v + 1, _, by omega, rfl, rfl, hI.step hok hlv hs hvn⟩
      · obtain rfl : v = n := by omega
        refine .inr ⟨_, ?_, (fun _ _ h => by cases h), f, hI.nextS, rfl⟩
        obtain ⟨LT, hLT⟩ : ∃ LT, LT = lonT L v (v + 1) := ⟨_, rfl⟩
        rw [← hLT]
        simp [lp15x1])
    fuel n (st15x1 (.int .i64 (n : Int)) (lonT L n (n + 1)) (.sl 0 0 n) (.int .i64 (k : Int)) (.int .i64 (s : Int)) (.int .i64 0)) _ (by omega) ⟨0, f, by omega, rfl, rfl, hP⟩
  exact ⟨f', h2, by rw [← h3]; exact h1⟩
theorem loop15s (fuel : Nat) (hf : 40 < fuel) {L : List LArc} (hok : ArcsOk n L) (hlv : (levels L n).2 = true) {k : Nat} (hk : k ≤ n) (hn : n ≤ 32) {f : Nat → Int} (hP : PS L n (levels L n).1 k 0 0 f) :
    ∃ f', PS L n (levels L n).1 (k + 1) 0 0 f' ∧ iter (evC (envOf GC fs15) fuel lp15x2) mask15x2 fuel (st15x2 (.int .i64 (n : Int)) (lonT L n (n + 1)) (.sl 0 0 n) (.int .i64 (k : Int)) (.int .i64 0)) [.row 1 false (rowA n f)] = some (.exit 4 ((st15x2 (.int .i64 (n : Int)) (lonT L n (n + 1)) (.sl 0 0 n) (.int .i64 (k : Int)) (.int .i64 (n : Int))).set 18 (.bool false)) [.row 1 false (rowA n f')]) := by
  obtain ⟨o, h1, f', h2, h3⟩ := iter_inv (E := envOf GC fs15) (fuel := fuel) (a := lp15x2) (mask := mask15x2)
    (fun κ σ A => ∃ s f, s + κ = n ∧ σ = st15x2 (.int .i64 (n : Int)) (lonT L n (n + 1)) (.sl 0 0 n) (.int .i64 (k : Int)) (.int .i64 (s : Int)) ∧ A = [.row 1 false (rowA n f)] ∧ PS L n (levels L n).1 k s 0 f)
    (fun o => ∃ f', PS L n (levels L n).1 (k + 1) 0 0 f' ∧ o = .exit 4 ((st15x2 (.int .i64 (n : Int)) (lonT L n (n + 1)) (.sl 0 0 n) (.int .i64 (k : Int)) (.int .i64 (n : Int))).set 18 (.bool false)) [.row 1 false (rowA n f')])
    (by
      rintro κ σ A ⟨s, f, hs, rfl, rfl, hI⟩
      rw [cl15x2]
      by_cases hsn : s < n
      · obtain ⟨f', c1, c2⟩ := loop15v fuel hf hok hlv hk hsn hn hI
        have b1 := lt_nat s n .i64
        rw [decide_eq_true hsn] at b1
        have b3 := add1_nat s (by omega)
        refine .inl ⟨st15x2 (.int .i64 (n : Int)) (lonT L n (n + 1)) (.sl 0 0 n) (.int .i64 (k : Int)) (.int .i64 ((s + 1 : Nat) : Int)), [.row 1 false (rowA n f')], ?_, κ - 1, by omega, s + 1, f', by omega, rfl, rfl, c1⟩
        obtain ⟨i1, hi1⟩ : ∃ i1 : Nat, i1 = s + 1 := ⟨_, rfl⟩
        rw [← hi1] at b3 ⊢
        obtain ⟨LT, hLT⟩ : ∃ LT, LT = lonT L n (n + 1) := ⟨_, rfl⟩
        rw [← hLT] at c2 ⊢
        simp [lp15x2, b1, b3, go15x1 c2, -evBin]
      · obtain rfl : s = n := by omega
        refine .inr ⟨_, ?_, (fun _ _ h => by cases h), f, hI.nextK, rfl⟩
        obtain ⟨LT, hLT⟩ : ∃ LT, LT = lonT L s (s + 1) := ⟨_, rfl⟩
        rw [← hLT]
        simp [lp15x2])
    fuel n (st15x2 (.int .i64 (n : Int)) (lonT L n (n + 1)) (.sl 0 0 n) (.int .i64 (k : Int)) (.int .i64 0)) _ (by omega) ⟨0, f, by omega, rfl, rfl, hP⟩
  exact ⟨f', h2, by rw [← h3]; exact h1⟩
theorem loop15k (fuel : Nat) (hf : 40 < fuel) {L : List LArc} (hok : ArcsOk n L) (hlv : (levels L n).2 = true) (hn : n ≤ 32) {f : Nat → Int} (hP : PS L n (levels L n).1 0 0 0 f) :
    ∃ f', PS L n (levels L n).1 (n + 1) 0 0 f' ∧ iter (evC (envOf GC fs15) fuel lp15x3) mask15x3 fuel (st15x3 (.int .i64 (n : Int)) (lonT L n (n + 1)) (.sl 0 0 n) (.int .i64 0)) [.row 1 false (rowA n f)] = some (.exit 2 ((st15x3 (.int .i64 (n : Int)) (lonT L n (n + 1)) (.sl 0 0 n) (.int .i64 ((n + 1 : Nat) : Int))).set 17 (.bool false)) [.row 1 false (rowA n f')]) := by
  obtain ⟨o, h1, f', h2, h3⟩ := iter_inv (E := envOf GC fs15) (fuel := fuel) (a := lp15x3) (mask := mask15x3)
    (fun κ σ A => ∃ k f, k + κ = n + 1 ∧ σ = st15x3 (.int .i64 (n : Int)) (lonT L n (n + 1)) (.sl 0 0 n) (.int .i64 (k : Int)) ∧ A = [.row 1 false (rowA n f)] ∧ PS L n (levels L n).1 k 0 0 f)
    (fun o => ∃ f', PS L n (levels L n).1 (n + 1) 0 0 f' ∧ o = .exit 2 ((st15x3 (.int .i64 (n : Int)) (lonT L n (n + 1)) (.sl 0 0 n) (.int .i64 ((n + 1 : Nat) : Int))).set 17 (.bool false)) [.row 1 false (rowA n f')])
    (by
      rintro κ σ A ⟨k, f, hk, rfl, rfl, hI⟩
      rw [cl15x3]
      have b1 := evLeq (k : Int) n
      by_cases hkn : k ≤ n
      · obtain ⟨f', c1, c2⟩ := loop15s fuel hf hok hlv hkn hn hI
        rw [decide_eq_true (by omega)] at b1
        have b3 := add1_nat k (by omega)
        refine .inl ⟨st15x3 (.int .i64 (n : Int)) (lonT L n (n + 1)) (.sl 0 0 n) (.int .i64 ((k + 1 : Nat) : Int)), [.row 1 false (rowA n f')], ?_, κ - 1, by omega, k + 1, f', by omega, rfl, rfl, c1⟩
        obtain ⟨i1, hi1⟩ : ∃ i1 : Nat, i1 = k + 1 := ⟨_, rfl⟩
        rw [← hi1] at b3 ⊢
        obtain ⟨LT, hLT⟩ : ∃ LT, LT = lonT L n (n + 1) := ⟨_, rfl⟩
        rw [← hLT] at c2 ⊢
        simp [lp15x3, b1, b3, go15x2 c2, -evBin]
      · obtain rfl : k = n + 1 := by omega
        rw [decide_eq_false (by omega)] at b1
        refine .inr ⟨_, ?_, (fun _ _ h => by cases h), f, hI, rfl⟩
        obtain ⟨LT, hLT⟩ : ∃ LT, LT = lonT L n (n + 1) := ⟨_, rfl⟩
        rw [← hLT]
        obtain ⟨i1, hi1⟩ : ∃ i1 : Nat, i1 = n + 1 := ⟨_, rfl⟩
        rw [← hi1] at b1 ⊢
        simp [lp15x3, b1, -evBin])
    fuel (n + 1) (st15x3 (.int .i64 (n : Int)) (lonT L n (n + 1)) (.sl 0 0 n) (.int .i64 0)) _ (by omega) ⟨0, f, by omega, rfl, rfl, hP⟩
  exact ⟨f', h2, by rw [← h3]; exact h1⟩
end
end Go.Proofs.Ytfmlfekcdbfioaa
/-
  Cycle: the reference's Levels.
-/
namespace Go.Proofs.Ytfmlfekcdbfioaa
open Go

section
variable {n : Nat} {p : Int} {l : List CArc} {a : AV}
set_option maxRecDepth 100000 in
theorem round15c (fuel : Nat) (ha : arcsOf a = some l) (hr : Ready n l p) {k : Nat} (hk1 : 1 ≤ k) (hk : k ≤ n) :
    (firstK p l n k = none ∧ run (envOf GC fs15) fuel [.code lp15x0] (st15x0 (.int .i64 (n : Int)) a (.int .i64 p) (lonT (lar p l) n (n + 1)) (.int .i64 (k : Int))) [] = some (.normal (st15x0 (.int .i64 (n : Int)) a (.int .i64 p) (lonT (lar p l) n (n + 1)) (.int .i64 ((k + 1 : Nat) : Int))) [])) ∨
    (∃ res v6 v8 v9 v10 v11 v12 v13 v14 v15 v16 v17 v18 v19, firstK p l n k = some res ∧ run (envOf GC fs15) fuel [.code lp15x0] (st15x0 (.int .i64 (n : Int)) a (.int .i64 p) (lonT (lar p l) n (n + 1)) (.int .i64 (k : Int))) [] = some (.ret [.int .i64 (n : Int), a, .int .i64 p, .nilS, slA 1 (intsA res), .bool false, v6, lonT (lar p l) n (n + 1), v8, v9, v10, v11, v12, v13, v14, v15, v16, v17, v18, v19] [])) := by
  have hv := hr.1.2.2
  have hn := hr.1.1
  have b1 := evLeq (k : Int) n
  rw [decide_eq_true (by omega)] at b1
  have m := M30_eq ha hr hk1 hk
  have b3 := add1_nat k (by omega)
  obtain ⟨i1, hi1⟩ : ∃ i1 : Nat, i1 = k + 1 := ⟨_, rfl⟩
  rw [← hi1] at b3 ⊢
  have f1 : ∀ A n, frz A n a = a := fun A n => arcsOf_frz ha A n
  have f2 : ∀ A m, frz A m (lonT (lar p l) n (n + 1)) = lonT (lar p l) n (n + 1) := fun A m => by
    cases m <;> rfl
  have r1 : ∀ k, noRefB k a = true := fun k => arcsOf_noRef ha k
  have r2 : ∀ k, noRefB k (lonT (lar p l) n (n + 1)) = true := fun k => by cases k <;> rfl
  obtain ⟨LT, hLT⟩ : ∃ LT, LT = lonT (lar p l) n (n + 1) := ⟨_, rfl⟩
  rw [← hLT] at m f2 r2 ⊢
  cases hf : firstK p l n k with
  | none =>
    left
    rw [hf] at m
    refine ⟨rfl, ?_⟩
    have e : slA 1 (intsA ((none : Option (List Int)).getD [])) = .nilS := rfl
    rw [e] at m
    have b2 : evBin .gtr (.int .i64 0) (.int .i64 0) = some (.bool false) := by simp [evBin]
    simp [lp15x0, b1, b2, b3, m, f1, f2, r1, r2, frz_i, -frz, -evBin]
  | some res =>
    right
    rw [hf, Option.getD_some] at m
    obtain ⟨u, xs, k1, k2, k3, k4⟩ := firstK_some hv (by omega) hr.2 (show firstK p l n (k - 1 + 1) = some res by rw [show k - 1 + 1 = k by omega]; exact hf)
    have hlen : res.length = k := by rw [k1]; simp; omega
    have hl2 : evLenSl (slA 1 (intsA res)) = some (.int .i64 (res.length : Int)) := by
      obtain ⟨x, r, rfl⟩ : ∃ x r, res = x :: r := by cases res with
        | nil => simp at hlen; omega
        | cons x r => exact ⟨x, r, rfl⟩
      simp [slA, intsA, evLenSl]
    have b2 : evBin .gtr (.int .i64 (res.length : Int)) (.int .i64 0) = some (.bool true) := by simp [evBin]; omega
    have f3 : ∀ A m, frz A m (slA 1 (intsA res)) = slA 1 (intsA res) := fun A m => frz_slA A m 1 _
    obtain ⟨T, hT⟩ : ∃ T, T = slA 1 (intsA res) := ⟨_, rfl⟩
    rw [← hT] at m hl2 f3
    refine ⟨res, .undef, .int .i64 (k : Int), T, .undef, .undef, .undef, .undef, .undef, .bool true, .bool true, .undef, .undef, .undef, rfl, ?_⟩
    rw [← hT]
    simp [lp15x0, b1, b2, m, hl2, f1, f2, r1, r2, frz_i, -frz, -evBin, -evLenSl]
theorem loop15c (fuel : Nat) (hf : 40 < fuel) (ha : arcsOf a = some l) (hr : Ready n l p) :
    (cycM p l n = none ∧ iter (evC (envOf GC fs15) fuel lp15x0) mask15x0 fuel (st15x0 (.int .i64 (n : Int)) a (.int .i64 p) (lonT (lar p l) n (n + 1)) (.int .i64 1)) [] = some (.exit 0 ((st15x0 (.int .i64 (n : Int)) a (.int .i64 p) (lonT (lar p l) n (n + 1)) (.int .i64 ((n + 1 : Nat) : Int))).set 15 (.bool false)) [])) ∨
    (∃ res v6 v8 v9 v10 v11 v12 v13 v14 v15 v16 v17 v18 v19, cycM p l n = some res ∧ iter (evC (envOf GC fs15) fuel lp15x0) mask15x0 fuel (st15x0 (.int .i64 (n : Int)) a (.int .i64 p) (lonT (lar p l) n (n + 1)) (.int .i64 1)) [] = some (.ret [.int .i64 (n : Int), a, .int .i64 p, .nilS, slA 1 (intsA res), .bool false, v6, lonT (lar p l) n (n + 1), v8, v9, v10, v11, v12, v13, v14, v15, v16, v17, v18, v19] [])) := by
  have hn := hr.1.1
  have hc : ∀ k res, k < n → firstK p l n (k + 1) = some res → (∀ j, j < k → firstK p l n (j + 1) = none) → cycM p l n = some res := fun k res hk h1 h2 => by
    unfold cycM
    rcases first_cases (fun j => firstK p l n (j + 1)) (List.range n) with ⟨q1, q2⟩ | ⟨m, hm, r, q1, q2, q3⟩
    · have := q2 k (by simp; omega)
      rw [h1] at this; cases this
    · simp only [List.getElem_range] at q2 q3
      simp only [List.length_range] at hm
      rw [q1]
      rcases Nat.lt_trichotomy m k with h | h | h
      · rw [h2 m h] at q2; cases q2
      · rw [h] at q2; rw [h1] at q2; exact q2.symm
      · rw [q3 k h] at h1; cases h1
  have hc2 : (∀ j, j < n → firstK p l n (j + 1) = none) → cycM p l n = none := fun h => by
    unfold cycM
    rw [List.findSome?_eq_none_iff]
    intro j hj
    exact h j (by simpa using hj)
  obtain ⟨o, h1, h2⟩ := iter_inv (E := envOf GC fs15) (fuel := fuel) (a := lp15x0) (mask := mask15x0)
    (fun κ σ A => ∃ k, k + κ = n + 1 ∧ 1 ≤ k ∧ σ = st15x0 (.int .i64 (n : Int)) a (.int .i64 p) (lonT (lar p l) n (n + 1)) (.int .i64 (k : Int)) ∧ A = [] ∧ ∀ j, j + 1 < k → firstK p l n (j + 1) = none)
    (fun o => (cycM p l n = none ∧ o = .exit 0 ((st15x0 (.int .i64 (n : Int)) a (.int .i64 p) (lonT (lar p l) n (n + 1)) (.int .i64 ((n + 1 : Nat) : Int))).set 15 (.bool false)) []) ∨
      (∃ res v6 v8 v9 v10 v11 v12 v13 v14 v15 v16 v17 v18 v19, cycM p l n = some res ∧ o = .ret [.int .i64 (n : Int), a, .int .i64 p, .nilS, slA 1 (intsA res), .bool false, v6, lonT (lar p l) n (n + 1), v8, v9, v10, v11, v12, v13, v14, v15, v16, v17, v18, v19] []))
    (by
      rintro κ σ A ⟨k, hk, hk1, rfl, rfl, hno⟩
      rw [cl15x0]
      by_cases hkn : k ≤ n
      · rcases round15c fuel ha hr hk1 hkn with ⟨q1, c1⟩ | ⟨res, v6, v8, v9, v10, v11, v12, v13, v14, v15, v16, v17, v18, v19, q1, c1⟩
        · refine .inl ⟨_, _, c1, κ - 1, by omega, k + 1, by omega, by omega, rfl, rfl, fun j hj => ?_⟩
          by_cases hjk : j + 1 = k
          · rw [hjk]; exact q1
          · exact hno j (by omega)
        · exact .inr ⟨_, c1, (fun _ _ h => by cases h), .inr ⟨res, v6, v8, v9, v10, v11, v12, v13, v14, v15, v16, v17, v18, v19, hc (k - 1) res (by omega) (by rw [show k - 1 + 1 = k by omega]; exact q1) fun j hj => hno j (by omega), rfl⟩⟩
      · obtain rfl : k = n + 1 := by omega
        have b1 := evLeq ((n + 1 : Nat) : Int) n
        rw [decide_eq_false (by omega)] at b1
        refine .inr ⟨_, ?_, (fun _ _ h => by cases h), .inl ⟨hc2 fun j hj => hno j (by omega), rfl⟩⟩
        obtain ⟨LT, hLT⟩ : ∃ LT, LT = lonT (lar p l) n (n + 1) := ⟨_, rfl⟩
        rw [← hLT]
        obtain ⟨i1, hi1⟩ : ∃ i1 : Nat, i1 = n + 1 := ⟨_, rfl⟩
        rw [← hi1] at b1 ⊢
        simp [lp15x0, b1, -evBin])
    fuel n (st15x0 (.int .i64 (n : Int)) a (.int .i64 p) (lonT (lar p l) n (n + 1)) (.int .i64 1)) [] (by omega) ⟨1, by omega, by omega, rfl, rfl, fun j hj => by omega⟩
  rcases h2 with ⟨q1, rfl⟩ | ⟨res, v6, v8, v9, v10, v11, v12, v13, v14, v15, v16, v17, v18, v19, q1, rfl⟩
  · exact .inl ⟨q1, h1⟩
  · exact .inr ⟨res, v6, v8, v9, v10, v11, v12, v13, v14, v15, v16, v17, v18, v19, q1, h1⟩
end
noncomputable def M15 : PModel := fun args => match args with
  | [.int .i64 n, a, .int .i64 p] => (arcsOf a).map fun l => lvT (lvM n l p)
  | _ => none
open Classical in
set_option maxRecDepth 100000 in
theorem spec15 : PureSpec Try.prog GC 15 M15 := by
  refine PureSpec.of_ev (E := envOf GC fs15) (envOf_sound sound15) rfl at15 comp15 5 ?_
  intro args r h
  unfold M15 at h
  split at h
  rotate_left
  · cases h
  rename_i n a p
  simp only [Option.map_eq_some_iff] at h
  obtain ⟨l, hl, rfl⟩ := h
  refine ⟨300, ?_⟩
  rw [evP_run _ _ rfl]
  have m1 : M28 [.int .i64 n, a, .int .i64 p] = some (.bool (decide (Ready n l p))) := by simp only [M28, hl, Option.map_some]
  have f1 : ∀ A n, frz A n a = a := fun A n => arcsOf_frz hl A n
  have r1 : ∀ k, noRefB k a = true := fun k => arcsOf_noRef hl k
  have ft : ∀ A x y z, frz A 5 (.tup [x, y, z]) = .tup [frz A 4 x, frz A 4 y, frz A 4 z] := fun _ _ _ _ => rfl
  have fn : ∀ A n, frz A n .nilS = .nilS := fun A n => by cases n <;> rfl
  by_cases hr : Ready n l p
  rotate_left
  · have e : lvM n l p = ([], [], false) := if_neg hr
    rw [e]
    rw [show decide (Ready n l p) = false from decide_eq_false hr] at m1
    simp [mf15, m1, f1, r1, ft, fn, frz_b, frz_i, pack, lvT, slA, intsA, -frz]
  rw [show decide (Ready n l p) = true from decide_eq_true hr] at m1
  obtain ⟨m, rfl⟩ : ∃ m : Nat, n = (m : Int) := ⟨n.toNat, by have := hr.1.1; omega⟩
  have m2 := M29_eq hl hr
  have hv := hr.1.2.2
  have hn := hr.1.1
  have lp := loop15c 300 (by omega) hl hr
  obtain ⟨LT, hLT⟩ : ∃ LT, LT = lonT (lar p l) m (m + 1) := ⟨_, rfl⟩
  by_cases hok : (levels (lar p l) m).2 = true
  · have e : lvM m l p = ((levels (lar p l) m).1, [], true) := by
      unfold lvM; rw [if_pos hr, Int.toNat_natCast, if_pos hok]
    rw [e]
    have hno : cycM p l m = none := by
      have h := hok
      rw [levels_ok (lar_ends hv)] at h
      exact (cyc_none hv (by omega) hr.2).2 h
    rcases lp with ⟨_, lp⟩ | ⟨res, v6, v8, v9, v10, v11, v12, v13, v14, v15, v16, v17, v18, v19, q, _⟩
    rotate_left
    · rw [hno] at q; cases q
    have hok2 := lar_ok (show m ≤ 32 by omega) hr.2 hv
    have hll := (levels_least (lar_ends hv (n := m) (p := p))).1
    obtain ⟨f', c1, c2⟩ := loop15k 300 (by omega) hok2 hok (by omega) (f := fun _ => 0) ⟨fun w hw => ⟨Int.le_refl _, (levels_least (lar_ends hv)).2.1 w⟩, fun k' s' v' _ _ h => by omega⟩
    have c3 := enc_all hok2 hok c1
    have mk : evMake 1 8 (.int .i64 0) [] (.int .i64 (m : Int)) (.int .i64 (m : Int)) = some (.sl 0 0 m, [.row 1 false (rowA m fun _ => 0)]) := by
      have : rowA m (fun _ => 0) = List.replicate m (.int .i64 0) := by
        unfold rowA
        apply List.ext_getElem?
        intro i
        by_cases hi : i < m
        · rw [List.getElem?_map, List.getElem?_range hi]; simp [hi]
        · rw [List.getElem?_eq_none (by simp; omega), List.getElem?_eq_none (by simp; omega)]
      rw [this]; simp [evMake]; omega
    obtain ⟨xs, hxs⟩ : ∃ xs, xs = (levels (lar p l) m).1 := ⟨_, rfl⟩
    rw [← hxs] at c3 hll ⊢
    have e2 : rowA m f' = intsA xs := by
      unfold rowA intsA
      apply List.ext_getElem?
      intro i
      by_cases hi : i < m
      · rw [List.getElem?_map, List.getElem?_range hi, List.getElem?_map, List.getElem?_eq_getElem (by omega)]
        simp only [Option.map_some]
        rw [c3 i hi, List.getD_eq_getElem?_getD, List.getElem?_eq_getElem (by omega)]; rfl
      · rw [List.getElem?_eq_none (by simp; omega), List.getElem?_eq_none (by simp; omega)]
    rw [e2] at c2
    have z : ∀ k, frz [.row 1 false (intsA xs)] (k + 1) (.sl 0 0 m) = slA 1 (intsA xs) := fun k => by
      obtain ⟨x, r, rfl⟩ : ∃ x r, xs = x :: r := by cases xs with
        | nil => simp at hll; omega
        | cons x r => exact ⟨x, r, rfl⟩
      simp only [Proofs.Ytfmlfekcdbfioaa.frz, List.getElem?_cons_zero, List.drop_zero]
      rw [List.take_of_length_le (by simp [intsA]; simp at hll; omega)]
      simp [slA, intsA]
    rw [← hLT] at m2 lp c2
    obtain ⟨i1, hi1⟩ : ∃ i1 : Nat, i1 = m + 1 := ⟨_, rfl⟩
    rw [← hi1] at lp c2
    obtain ⟨R, hR⟩ : ∃ R, R = rowA m fun _ => 0 := ⟨_, rfl⟩
    rw [← hR] at mk c2
    obtain ⟨R2, hR2⟩ : ∃ R2, R2 = intsA xs := ⟨_, rfl⟩
    rw [← hR2] at c2 z
    have p1 : ∀ x y z, pack [x, y, z] = .tup [x, y, z] := fun _ _ _ => rfl
    simp [mf15, m1, m2, f1, r1, ft, fn, frz_b, frz_i, mk, go15x0 lp, go15x3 c2, z, lvT, ← hR2, -evMake, -frz]
    simp [slA, intsA]
  · have e : lvM m l p = ([], (cycM p l m).getD [], false) := by
      unfold lvM; rw [if_pos hr, Int.toNat_natCast, if_neg hok]
    rw [e]
    obtain ⟨res, u, xs, k1, k2, k3, k4, k5, k6, k7⟩ := cyc_of hr hok
    rcases lp with ⟨q, _⟩ | ⟨res', v6, v8, v9, v10, v11, v12, v13, v14, v15, v16, v17, v18, v19, q, lp⟩
    · rw [q] at k1; cases k1
    rw [q, Option.getD_some]
    rw [← hLT] at m2 lp
    have f3 : ∀ A m, frz A m (slA 1 (intsA res')) = slA 1 (intsA res') := fun A m => frz_slA A m 1 _
    obtain ⟨T, hT⟩ : ∃ T, T = slA 1 (intsA res') := ⟨_, rfl⟩
    rw [← hT] at lp f3
    simp [mf15, m1, m2, f1, f3, r1, ft, fn, frz_b, frz_i, pack, go15x0 lp, lvT, ← hT, -frz]
    simp [slA, intsA]
end Go.Proofs.Ytfmlfekcdbfioaa
/-
  Cycle: the reference's Smallest.
-/
namespace Go.Proofs.Ytfmlfekcdbfioaa
open Go

noncomputable def fs24 : List (FuncId × HModel) := [(15, pureH 4 M15), (28, pureH 4 M28), (39, pureH 4 M39)]
@[simp] theorem fs24_15 : lookM fs24 15 = some (pureH 4 M15) := rfl
@[simp] theorem fs24_28 : lookM fs24 28 = some (pureH 4 M28) := rfl
@[simp] theorem fs24_39 : lookM fs24 39 = some (pureH 4 M39) := rfl
theorem sound24 : ∀ f M, lookM fs24 f = some M → FnSpecY Try.prog GC f M := lookM_cons (FnSpecY.of_pure spec15 4) (lookM_cons (FnSpecY.of_pure spec28 4) (lookM_cons (FnSpecY.of_pure spec39 4) lookM_nil))
set_option maxRecDepth 100000 in
theorem loop24s (fuel : Nat) {n p : Int} {l : List CArc} {a c : AV} (v0 v3 : AV) (ha : arcsOf a = some l) (hn : n ≤ 32) (hp : isPer p) (hv : ∀ x ∈ l, okA n x) {res : List Int} (hb : SlA 1 (intsA res) c) (hlen : res.length ≤ 32) :
    ∀ (ys : List NArc) (pre : List Int) (s t : Int) (m : Nat), res = pre ++ ys.map (fun y => (y.2 : Int)) → (∀ y ∈ ys, y ∈ num l) → (-(3000000 * (pre.length : Int)) ≤ s ∧ s ≤ 3000000 * pre.length) → (-(2 * (pre.length : Int)) ≤ t ∧ t ≤ 2 * pre.length) → ys.length < m →
      iter (evC (envOf GC fs24) fuel lp24x0) mask24x0 m (st24x0 v0 a v3 (.int .i64 p) c (.int .i64 s) (.int .i64 t) (.int .i64 (pre.length : Int))) [] =
        some (.exit 2 ((st24x0 v0 a v3 (.int .i64 p) c (.int .i64 (s + lenN p ys)) (.int .i64 (t + tokN ys)) (.int .i64 (res.length : Int))).set 16 (.bool false)) [])
  | [], pre, s, t, m, hres, _, _, _, hm => by
    obtain ⟨m, rfl⟩ : ∃ k, m = k + 1 := ⟨m - 1, by simp at hm; omega⟩
    have hlc := hb.len
    rw [intsA_len] at hlc
    have e : pre.length = res.length := by rw [hres]; simp
    have e1 : s + lenN p [] = s := by simp [lenN]
    have e2 : t + tokN [] = t := by simp [tokN]
    rw [e, e1, e2, iter_succ, cl24x0]
    simp [lp24x0, hlc, -evLenSl]
  | y :: ys, pre, s, t, m, hres, hmem, hs, ht, hm => by
    obtain ⟨m, rfl⟩ : ∃ k, m = k + 1 := ⟨m - 1, by simp at hm; omega⟩
    have hlc := hb.len
    rw [intsA_len] at hlc
    obtain ⟨i, hi⟩ : ∃ i, i = pre.length := ⟨_, rfl⟩
    have hil : i < res.length := by rw [hres, hi]; simp
    have hri : res[i] = (y.2 : Int) := by
      simp only [hres, hi]
      rw [List.getElem_append_right (Nat.le_refl _)]
      simp
    have x1 := hb.int (A := []) _ _ (List.getElem?_eq_getElem hil) .i64
    rw [hri] at x1
    obtain ⟨hyl, hye⟩ := num_mem (hmem y (by simp))
    have x2 := arcsOf_at ha hyl [] .i64
    have hok := hv _ (List.getElem_mem hyl)
    have mm := m39 hn hok hp
    rw [hye] at x2 hok mm
    have hle := len_in (n := 32) (a := y.1) ⟨by have := hok.1; omega, by have := hok.2.1; omega, hok.2.2.1, hok.2.2.2⟩ hp
    have hk := hok.2.2.2
    have b1 := lt_nat i res.length .i64
    rw [decide_eq_true hil] at b1
    have b3 := add1_nat i (by omega)
    rw [← hi] at hs ht ⊢
    have b2 := evAdd (a := s) (b := y.1.len p) (by omega)
    have b4 := evAdd (a := t) (b := y.1.k) (by omega)
    have ih := loop24s fuel v0 v3 ha hn hp hv hb hlen ys (pre ++ [(y.2 : Int)]) (s + y.1.len p) (t + y.1.k) m (by rw [hres]; simp) (fun z hz => hmem z (by simp [hz])) (by rw [List.length_append, ← hi]; simp only [List.length_cons, List.length_nil]; omega) (by rw [List.length_append, ← hi]; simp only [List.length_cons, List.length_nil]; omega) (by simp at hm; omega)
    have e1 : s + y.1.len p + lenN p ys = s + lenN p (y :: ys) := by simp only [lenN, List.map_cons, List.sum_cons]; omega
    have e2 : t + y.1.k + tokN ys = t + tokN (y :: ys) := by simp only [tokN, List.map_cons, List.sum_cons]; omega
    have e3 : (pre ++ [(y.2 : Int)]).length = i + 1 := by simp [hi]
    rw [e1, e2, e3] at ih
    rw [iter_succ, cl24x0]
    obtain ⟨S, hS⟩ : ∃ S, S = s + lenN p (y :: ys) := ⟨_, rfl⟩
    obtain ⟨T, hT⟩ : ∃ T, T = t + tokN (y :: ys) := ⟨_, rfl⟩
    rw [← hS, ← hT] at ih ⊢
    obtain ⟨i1, hi1⟩ : ∃ i1 : Nat, i1 = i + 1 := ⟨_, rfl⟩
    rw [← hi1] at b3 ih
    obtain ⟨w, hw⟩ : ∃ w, w = y.1.len p := ⟨_, rfl⟩
    rw [← hw] at mm b2 ih
    obtain ⟨s1, hs1⟩ : ∃ s1, s1 = s + w := ⟨_, rfl⟩
    rw [← hs1] at b2 ih
    obtain ⟨t1, ht1⟩ : ∃ t1, t1 = t + y.1.k := ⟨_, rfl⟩
    rw [← ht1] at b4 ih
    obtain ⟨y2, hy2⟩ : ∃ y2 : Nat, y2 = y.2 := ⟨_, rfl⟩
    rw [← hy2] at x1 x2
    have hrun : run (envOf GC fs24) fuel [.code lp24x0] (st24x0 v0 a v3 (.int .i64 p) c (.int .i64 s) (.int .i64 t) (.int .i64 (i : Int))) [] = some (.normal (st24x0 v0 a v3 (.int .i64 p) c (.int .i64 s1) (.int .i64 t1) (.int .i64 (i1 : Int))) []) := by
      simp [lp24x0, hlc, b1, b2, b3, b4, x1, x2, mm, -evBin, -evIndexSl, -evLenSl]
    rw [hrun]
    exact ih
theorem NW_num {l : List CArc} : ∀ {ys : List NArc} {a b : Int}, isNW l a ys b → ∀ x ∈ ys, x ∈ num l
  | [], _, _, _, x, hx => by cases hx
  | y :: r, a, b, ⟨k1, _, k3⟩, x, hx => by
    rcases List.mem_cons.1 hx with rfl | hx
    · exact k1
    · exact NW_num k3 x hx
theorem smL_fuel {n : Nat} {l : List CArc} {hi : Int} : ∀ (m m' : Nat) (p : Int), hi - p + 1 < m → hi - p + 1 < m' → smL n l hi m p = smL n l hi m' p
  | 0, 0, p, _, _ => rfl
  | 0, m' + 1, p, h, _ => by
    unfold smL
    rw [if_neg (fun h2 => by have := h2.1; omega)]
  | m + 1, 0, p, _, h => by
    unfold smL
    rw [if_neg (fun h2 => by have := h2.1; omega)]
  | m + 1, m' + 1, p, h1, h2 => by
    unfold smL
    by_cases hp : p ≤ hi ∧ Ready n l p
    rotate_left
    · rw [if_neg hp, if_neg hp]
    rw [if_pos hp, if_pos hp]
    by_cases hl : (levels (lar p l) n).2 = true
    · rw [if_pos hl, if_pos hl]
    rw [if_neg hl, if_neg hl]
    obtain ⟨res, u, xs, k1, k2, k3, k4, k5, k6, k7⟩ := cyc_of hp.2 hl
    rw [k1, Option.getD_some, k7, Option.getD_some]
    simp only
    by_cases ht : tokN xs ≤ 0
    · rw [if_pos ht, if_pos ht]
    rw [if_neg ht, if_neg ht]
    obtain ⟨d1, _, _, _⟩ := step_div k6 (show 0 < tokN xs by omega)
    exact smL_fuel m m' _ (by omega) (by omega)
open Classical in
set_option maxRecDepth 100000 in
theorem loop24 (fuel : Nat) (hfu : 40 < fuel) {a : AV} {l : List CArc} (ha : arcsOf a = some l) (n : Int) {hi : Int} (hhi : isPer hi) : ∀ (m : Nat) (p : Int), 0 < m → hi - p + 1 < m →
    ∃ v4 v5 v6 v7 v8 v9 v10 v11 v12 v13 v14 v15 v16 v17, iter (evC (envOf GC fs24) fuel lp24x1) mask24x1 m (st24x1 (.int .i64 n) a (.int .i64 hi) (.int .i64 p)) [] = some (.ret [.int .i64 n, a, .undef, .int .i64 hi, v4, v5, v6, v7, v8, v9, v10, v11, v12, v13, v14, v15, v16, v17] []) ∧
      v4 = .int .i64 ((smL n.toNat l hi m p).getD 0) ∧ v5 = .bool (smL n.toNat l hi m p).isSome
  | 0, p, h0, hm => by omega
  | m + 1, p, h0, hm => by
    have f1 : ∀ A n, frz A n a = a := fun A n => arcsOf_frz ha A n
    have r1 : ∀ k, noRefB k a = true := fun k => arcsOf_noRef ha k
    have m1 : M28 [.int .i64 n, a, .int .i64 p] = some (.bool (decide (Ready n l p))) := by simp only [M28, ha, Option.map_some]
    have m2 : M28 [.int .i64 n, a, .int .i64 hi] = some (.bool (decide (Ready n l hi))) := by simp only [M28, ha, Option.map_some]
    have b1 := evGtr p hi
    unfold smL
    rw [iter_succ, cl24x1]
    by_cases hr : Ready n l p
    rotate_left
    · rw [if_neg (fun h => hr (by
        have h2 := h.2
        have h3 := h2.1.1
        have : ((n.toNat : Nat) : Int) = n := by omega
        rw [this] at h2; exact h2))]
      rw [show decide (Ready n l p) = false from decide_eq_false hr] at m1
      obtain ⟨d, hd⟩ : ∃ d, d = decide (Ready n l hi) := ⟨_, rfl⟩
      rw [← hd] at m2
      refine ⟨.int .i64 0, .bool false, .int .i64 p, .bool false, .bool d, .undef, .undef, .undef, .undef, .undef, .bool true, .undef, .undef, .undef, ?_, rfl, rfl⟩
      simp [lp24x1, m1, m2, f1, r1, frz_i, -frz, -evBin]
    obtain ⟨k, rfl⟩ : ∃ k : Nat, n = (k : Int) := ⟨n.toNat, by have := hr.1.1; omega⟩
    rw [Int.toNat_natCast]
    have hr2 : Ready k l hi := ⟨hr.1, hhi⟩
    rw [show decide (Ready (k : Int) l p) = true from decide_eq_true hr] at m1
    rw [show decide (Ready (k : Int) l hi) = true from decide_eq_true hr2] at m2
    by_cases hp : p ≤ hi
    rotate_left
    · rw [if_neg (fun h => hp h.1)]
      rw [decide_eq_true (by omega)] at b1
      refine ⟨.int .i64 0, .bool false, .int .i64 p, .bool true, .bool true, .undef, .undef, .undef, .undef, .undef, .bool true, .undef, .undef, .undef, ?_, rfl, rfl⟩
      simp [lp24x1, b1, m1, m2, f1, r1, frz_i, -frz, -evBin]
    rw [if_pos ⟨hp, hr⟩]
    rw [decide_eq_false (by omega)] at b1
    have m3 : M15 [.int .i64 (k : Int), a, .int .i64 p] = some (lvT (lvM k l p)) := by simp only [M15, ha, Option.map_some]
    by_cases hok : (levels (lar p l) k).2 = true
    · rw [if_pos hok]
      have e : lvM k l p = ((levels (lar p l) k).1, [], true) := by
        unfold lvM; rw [if_pos hr, Int.toNat_natCast, if_pos hok]
      rw [e] at m3
      unfold lvT at m3
      simp only at m3
      have f3 : ∀ A m, frz A m (slA 1 (intsA (levels (lar p l) k).1)) = slA 1 (intsA (levels (lar p l) k).1) := fun A m => frz_slA A m 1 _
      obtain ⟨T, hT⟩ : ∃ T, T = slA 1 (intsA (levels (lar p l) k).1) := ⟨_, rfl⟩
      rw [← hT] at m3 f3
      have e0 : slA 1 (intsA []) = .nilS := rfl
      rw [e0] at m3
      refine ⟨.int .i64 p, .bool true, .int .i64 p, .bool true, .bool true, .nilS, .bool true, .undef, .undef, .undef, .bool false, .bool true, .undef, .undef, ?_, rfl, rfl⟩
      simp [lp24x1, b1, m1, m2, m3, f1, r1, frz_i, -frz, -evBin]
    rw [if_neg hok]
    obtain ⟨res, u, xs, k1, k2, k3, k4, k5, k6, k7⟩ := cyc_of hr hok
    have hbd := lenN_bd (n := (k : Int)) (by have := hr.1.1; omega) hr.2 hr.1.2.2 k3
    have e : lvM k l p = ([], (cycM p l k).getD [], false) := by
      unfold lvM; rw [if_pos hr, Int.toNat_natCast, if_neg hok]
    rw [e, k1, Option.getD_some] at m3
    unfold lvT at m3
    simp only at m3
    rw [k1, Option.getD_some, k7, Option.getD_some]
    have hlr : res.length = xs.length := by rw [k2]; simp
    have lp := loop24s fuel (.int .i64 (k : Int)) (.int .i64 hi) ha (by have := hr.1.1; omega) hr.2 hr.1.2.2 (slA_holds 1 (intsA res)) (by omega) xs [] 0 0 fuel (by simpa using k2) (NW_num k3) (by simp) (by simp) (by omega)
    rw [List.length_nil, Int.natCast_zero, Int.zero_add, Int.zero_add] at lp
    have hnc : ∀ n, noRefB n (slA 1 (intsA res)) = true := fun n => noRef_slA n 1 _
    have hfc : ∀ A n, frz A n (slA 1 (intsA res)) = slA 1 (intsA res) := fun A n => frz_slA A n 1 _
    have e0 : slA 1 (intsA []) = .nilS := rfl
    rw [e0] at m3
    obtain ⟨C, hC⟩ : ∃ C, C = slA 1 (intsA res) := ⟨_, rfl⟩
    rw [← hC] at m3 lp hnc hfc
    simp only
    obtain ⟨s, hs⟩ : ∃ s, s = lenN p xs := ⟨_, rfl⟩
    obtain ⟨t, ht⟩ : ∃ t, t = tokN xs := ⟨_, rfl⟩
    rw [← hs, ← ht] at lp hbd ⊢
    rw [← hs] at k6
    obtain ⟨rl, hrl⟩ : ∃ rl : Nat, rl = res.length := ⟨_, rfl⟩
    rw [← hrl] at lp
    have b2 := evLeq t 0
    by_cases ht0 : t ≤ 0
    · rw [if_pos ht0]
      rw [decide_eq_true ht0] at b2
      refine ⟨.int .i64 0, .bool false, .int .i64 p, .undef, .undef, .undef, .undef, .int .i64 s, .int .i64 t, .undef, .undef, .undef, .undef, .bool true, ?_, rfl, rfl⟩
      simp [lp24x1, b1, b2, m1, m2, m3, go24x0 lp, f1, r1, frz_i, -frz, -evBin]
    rw [if_neg ht0]
    rw [decide_eq_false ht0] at b2
    obtain ⟨d1, d2, d3, d4⟩ := step_div k6 (show 0 < t by omega)
    have hper := hr.2
    unfold isPer at hper hhi
    have b3 := evAdd (a := s) (b := t) (by omega)
    have b4 := evSub (a := s + t) (b := 1) (by omega)
    have b5 : evBin .quo (.int .i64 (s + t - 1)) (.int .i64 t) = some (.int .i64 ((s + t - 1).tdiv t)) := by
      simp only [evBin]; rw [if_pos trivial, if_neg (show ¬ t = 0 by omega), wrapI (by unfold inI; omega)]
    obtain ⟨d, hd⟩ : ∃ d, d = (s + t - 1).tdiv t := ⟨_, rfl⟩
    rw [← hd] at b5 d1 d2 ⊢
    have b6 := evAdd (a := p) (b := d) (by omega)
    have ih := loop24 fuel hfu ha (k : Int) hhi m (p + d) (by omega) (by omega)
    rw [Int.toNat_natCast] at ih
    obtain ⟨p2, hp2⟩ : ∃ p2, p2 = p + d := ⟨_, rfl⟩
    rw [← hp2] at b6 ih ⊢
    obtain ⟨st, hst⟩ : ∃ st, st = s + t := ⟨_, rfl⟩
    rw [← hst] at b3 b4 b5
    obtain ⟨st1, hst1⟩ : ∃ st1, st1 = st - 1 := ⟨_, rfl⟩
    rw [← hst1] at b4 b5
    have hrun : run (envOf GC fs24) fuel [.code lp24x1] (st24x1 (.int .i64 (k : Int)) a (.int .i64 hi) (.int .i64 p)) [] = some (.normal (st24x1 (.int .i64 (k : Int)) a (.int .i64 hi) (.int .i64 p2)) []) := by
      simp [lp24x1, b1, b2, b3, b4, b5, b6, m1, m2, m3, go24x0 lp, f1, r1, frz_i, -frz, -evBin]
    rw [hrun]
    exact ih
open Classical in
set_option maxRecDepth 100000 in
theorem spec24 : PureSpec Try.prog GC 24 M23 := by
  refine PureSpec.of_ev (E := envOf GC fs24) (envOf_sound sound24) rfl at24 comp24 5 ?_
  intro args r h
  unfold M23 at h
  split at h
  rotate_left
  · cases h
  rename_i n a lo hi
  simp only [Option.map_eq_some_iff] at h
  obtain ⟨l, hl, rfl⟩ := h
  have ft : ∀ A x y, frz A 5 (.tup [x, y]) = .tup [frz A 4 x, frz A 4 y] := fun _ _ _ => rfl
  have p1 : ∀ x y, pack [x, y] = .tup [x, y] := fun _ _ => rfl
  by_cases hp : isPer hi
  rotate_left
  · refine ⟨1, ?_⟩
    have f1 : ∀ A n, frz A n a = a := fun A n => arcsOf_frz hl A n
    have r1 : ∀ k, noRefB k a = true := fun k => arcsOf_noRef hl k
    have m1 : M28 [.int .i64 n, a, .int .i64 lo] = some (.bool (decide (Ready n l lo))) := by simp only [M28, hl, Option.map_some]
    have m2 : M28 [.int .i64 n, a, .int .i64 hi] = some (.bool false) := by simp only [M28, hl, Option.map_some]; congr 2; exact decide_eq_false fun h => hp h.2
    obtain ⟨d, hd⟩ : ∃ d, d = decide (Ready n l lo) := ⟨_, rfl⟩
    rw [← hd] at m1
    rw [show smM n l lo hi = none from if_neg hp]
    have lp : ∃ v6 v7 v8 v9 v10 v11 v12 v13 v14 v15 v16 v17, iter (evC (envOf GC fs24) 1 lp24x1) mask24x1 1 (st24x1 (.int .i64 n) a (.int .i64 hi) (.int .i64 lo)) [] = some (.ret [.int .i64 n, a, .undef, .int .i64 hi, .int .i64 0, .bool false, v6, v7, v8, v9, v10, v11, v12, v13, v14, v15, v16, v17] []) := by
      refine ⟨.int .i64 lo, .bool d, .bool false, .undef, .undef, .undef, .undef, .undef, .bool true, .undef, .undef, .undef, ?_⟩
      rw [iter_succ, cl24x1]
      cases d <;> simp [lp24x1, m1, m2, f1, r1, frz_i, -frz, -evBin]
    obtain ⟨v6, v7, v8, v9, v10, v11, v12, v13, v14, v15, v16, v17, lp⟩ := lp
    rw [evP_run _ _ rfl]
    simp [mf24, go24x1 lp, smT]
  rw [show smM n l lo hi = smL n.toNat l hi (hi - lo + 2).toNat lo from if_pos hp]
  obtain ⟨F, hF⟩ : ∃ F, F = (hi - lo + 2).toNat + 41 := ⟨_, rfl⟩
  obtain ⟨v4, v5, v6, v7, v8, v9, v10, v11, v12, v13, v14, v15, v16, v17, lp, e4, e5⟩ := loop24 F (by omega) hl n hp F lo (by omega) (by omega)
  have es : smL n.toNat l hi F lo = smL n.toNat l hi (hi - lo + 2).toNat lo := by
    exact smL_fuel F _ lo (by omega) (by omega)
  rw [es] at e4 e5
  subst e4 e5
  refine ⟨F, ?_⟩
  rw [evP_run _ _ rfl]
  simp [mf24, go24x1 lp, smT]
end Go.Proofs.Ytfmlfekcdbfioaa
