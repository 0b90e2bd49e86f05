/-
  Inspect: the law Bound, plain and run.
-/
import Derived.Test.YtkdjebioapholaaDoorMLI36
namespace Go.Proofs.YtkdjebioapholaaDoor
open Go

/-! ### what Bound returns -/
def Apart (m : Int → Nat) (a b : Int) : Prop := ∀ k, ¬ ((m a).testBit k = true ∧ (m b).testBit k = true)
theorem bndS_inv (m : Int → Nat) (W : List Int) : ∀ i, i ≤ W.length → ((bndS m W i).2).Sublist (W.take i) ∧ (∀ k, (bndS m W i).1.testBit k = true ↔ ∃ w ∈ (bndS m W i).2, (m w).testBit k = true) ∧ ((bndS m W i).2).Pairwise (Apart m) ∧ ∀ w ∈ (bndS m W i).2, m w ≠ 0
  | 0, _ => by simp [bndS]
  | i + 1, hi => by
    obtain ⟨h1, h2, h3, h4⟩ := bndS_inv m W i (by omega)
    have hi' : i < W.length := by omega
    have e : W.getD i 0 = W[i] := by simp [hi']
    simp only [bndS, e]
    rw [List.take_succ_eq_append_getElem hi']
    split
    · rename_i hc
      obtain ⟨c1, c2⟩ := hc
      refine ⟨List.Sublist.append h1 (List.Sublist.refl _), fun k => ?_, ?_, fun w hw => ?_⟩
      · simp only [Nat.testBit_or, Bool.or_eq_true, h2, List.mem_append, List.mem_singleton]
        constructor
        · rintro (⟨w, hw, hb⟩ | hb)
          · exact ⟨w, .inl hw, hb⟩
          · exact ⟨_, .inr rfl, hb⟩
        · rintro ⟨w, hw | hw, hb⟩
          · exact .inl ⟨w, hw, hb⟩
          · exact .inr (hw ▸ hb)
      · rw [List.pairwise_append]
        refine ⟨h3, by simp, fun a ha b hb => ?_⟩
        rw [List.mem_singleton.1 hb]
        intro k hk
        have : (m W[i] &&& (bndS m W i).1) ≠ 0 := and_ne.2 ⟨k, hk.2, (h2 k).2 ⟨a, ha, hk.1⟩⟩
        exact this c2
      · rcases List.mem_append.1 hw with hw | hw
        · exact h4 w hw
        · rw [List.mem_singleton.1 hw]; exact c1
    · exact ⟨h1.trans (List.sublist_append_left _ _), h2, h3, h4⟩

/-- does the k-th test decide a wafer -/
theorem mask_has (T : List (List Int)) (w : Int) {k : Nat} (hk : k < T.length) : (maskTo T w T.length).testBit k = true ↔ w ∈ T[k] := by
  rw [maskTo_bit, decide_eq_true_eq]
  rw [show T.getD k [] = T[k] by simp [hk]]
  exact ⟨fun h => h.2, fun h => ⟨hk, h⟩⟩
theorem bnd_sub (W : List Int) (T : List (List Int)) : (bnd W T).Sublist W := by
  have := (bndS_inv (fun w => maskTo T w T.length) W W.length (Nat.le_refl _)).1
  rwa [List.take_length] at this
theorem bnd_apart (W : List Int) (T : List (List Int)) : (bnd W T).Pairwise (Apart fun w => maskTo T w T.length) := (bndS_inv (fun w => maskTo T w T.length) W W.length (Nat.le_refl _)).2.2.1
theorem few_of_apart (T : List (List Int)) : ∀ (B ch : List Int), B.Pairwise (Apart fun w => maskTo T w T.length) → (∀ w ∈ B, ∃ k ∈ ch, w ∈ T.getD k.toNat []) → (∀ k ∈ ch, 0 ≤ k) → B.length ≤ ch.length
  | [], _, _, _, _ => Nat.zero_le _
  | w :: B, ch, hp, hd, h0 => by
    obtain ⟨k, hk, hm⟩ := hd w (by simp)
    have hkl : k.toNat < T.length := by
      apply Classical.byContradiction
      intro h
      rw [List.getD_eq_getElem?_getD, List.getElem?_eq_none (by omega)] at hm
      simp at hm
    have hp' := List.pairwise_cons.1 hp
    have ih := few_of_apart T B (ch.erase k) hp'.2 (fun x hx => by
      obtain ⟨j, hj, hjm⟩ := hd x (by simp [hx])
      refine ⟨j, ?_, hjm⟩
      have hne : j ≠ k := by
        rintro rfl
        refine hp'.1 x hx j.toNat ⟨?_, ?_⟩
        · rw [mask_has T w hkl]
          rw [show T.getD j.toNat [] = T[j.toNat] by simp [hkl]] at hm; exact hm
        · rw [mask_has T x hkl]
          rw [show T.getD j.toNat [] = T[j.toNat] by simp [hkl]] at hjm; exact hjm
      exact (List.mem_erase_of_ne hne).2 hj) (fun j hj => h0 j (List.mem_of_mem_erase hj))
    rw [List.length_erase_of_mem hk] at ih
    have : 0 < ch.length := List.length_pos_of_mem hk
    simp only [List.length_cons]
    omega
theorem bnd_le {W : List Int} {T : List (List Int)} {ch : List Int} (hc : Chosen T.length ch) (hd : decL W T ch = true) : (bnd W T).length ≤ ch.length := by
  unfold decL at hd
  rw [decide_eq_true_eq] at hd
  refine few_of_apart T _ ch (bnd_apart W T) (fun w hw => hd w ((bnd_sub W T).subset hw)) fun k hk => ?_
  exact (((chosen_asc _ _).1 hc).ge k hk).1

/-! ### how many of these wafers a test decides -/
def cB (t B : List Int) : Nat → Nat
  | 0 => 0
  | i + 1 => cB t B i + t.count (B.getD i 0)
theorem count_asc {n : Int} : ∀ {t : List Int} {i : Int}, AscFrom i n t → ∀ x, t.count x ≤ 1 ∧ (t.count x = 0 ∨ x ∈ t)
  | [], _, _, _ => by simp
  | y :: t, i, ⟨h1, h2, h3⟩, x => by
    obtain ⟨c1, c2⟩ := count_asc h3 x
    rw [List.count_cons]
    by_cases e : y = x
    · subst e
      have : t.count y = 0 := by
        rcases c2 with c2 | c2
        · exact c2
        · have := (h3.ge y c2).1; omega
      simp [this]
    · have : (y == x) = false := by simpa using e
      rw [this]
      refine ⟨by simpa using c1, ?_⟩
      rcases c2 with c2 | c2
      · left; simpa using c2
      · right; simp [c2]
theorem cB_le {n : Int} {t B : List Int} {i0 : Int} (ht : AscFrom i0 n t) (hp : B.Pairwise fun a b => ¬ (a ∈ t ∧ b ∈ t)) : ∀ i, i ≤ B.length → cB t B i ≤ 1 ∧ (cB t B i = 0 ∨ ∃ j, ∃ h : j < B.length, j < i ∧ B[j] ∈ t)
  | 0, _ => by simp [cB]
  | i + 1, hi => by
    obtain ⟨h1, h2⟩ := cB_le ht hp i (by omega)
    have hi' : i < B.length := by omega
    have e : B.getD i 0 = B[i] := by simp [hi']
    obtain ⟨c1, c2⟩ := count_asc ht B[i]
    simp only [cB, e]
    rcases c2 with c2 | c2
    · rw [c2]
      refine ⟨by omega, ?_⟩
      rcases h2 with h2 | ⟨j, hj, hji, hm⟩
      · left; omega
      · exact .inr ⟨j, hj, by omega, hm⟩
    · have h0 : cB t B i = 0 := by
        rcases h2 with h2 | ⟨j, hj, hji, hm⟩
        · exact h2
        · exact absurd ⟨hm, c2⟩ (List.pairwise_iff_getElem.1 hp j i hj hi' hji)
      rw [h0]
      exact ⟨by omega, .inr ⟨i, hi', by omega, c2⟩⟩
theorem bnd_count (W : List Int) (T : List (List Int)) {k : Nat} (hk : k < T.length) {i0 n : Int} (ht : AscFrom i0 n T[k]) : cB T[k] (bnd W T) (bnd W T).length ≤ 1 := by
  refine (cB_le ht ?_ _ (Nat.le_refl _)).1
  refine (bnd_apart W T).imp fun {a b} h => ?_
  rintro ⟨h1, h2⟩
  exact h k ⟨(mask_has T a hk).2 h1, (mask_has T b hk).2 h2⟩

/-! ### run -/
set_option maxRecDepth 100000 in
theorem round6a (E : Env) (fuel : Nat) {v2 v5 : AV} {w b : AV} {W B : List Int} (hw : SlA 1 (intsA W) w) (hb : SlA 1 (intsA B) b) (hm : W.length ≤ 100) {i k : Nat} (hi : i < B.length) (hk : k < W.length) :
    run E fuel [.code lp6x0] (st6x0 v2 (.bool true) v5 w b (.int .i64 (i : Int)) (.bool ((W.take k).contains B[i])) (.int .i64 (k : Int))) [] =
      some (.normal (st6x0 v2 (.bool true) v5 w b (.int .i64 (i : Int)) (.bool ((W.take (k + 1)).contains B[i])) (.int .i64 ((k + 1 : Nat) : Int))) []) := by
  have hl := hw.len
  simp only [intsA, List.length_map] at hl
  have x1 := hw.int (A := []) _ _ (List.getElem?_eq_getElem hk) .i64
  have x2 := hb.int (A := []) _ _ (List.getElem?_eq_getElem hi) .i64
  have b1 := lt_nat k W.length .i64
  rw [decide_eq_true hk] at b1
  have b2 : evBin .eql (.int .i64 W[k]) (.int .i64 B[i]) = some (.bool (decide (W[k] = B[i]))) := by simp [evBin]
  have b4 := add1_nat k (by omega)
  have e : (W.take (k + 1)).contains B[i] = ((W.take k).contains B[i] || decide (W[k] = B[i])) := by
    rw [List.take_succ_eq_append_getElem hk, Bool.eq_iff_iff]
    simp only [List.contains_iff_mem, List.mem_append, List.mem_singleton, Bool.or_eq_true, decide_eq_true_eq]
    constructor
    · rintro (h | h)
      · exact .inl h
      · exact .inr h.symm
    · rintro (h | h)
      · exact .inl h
      · exact .inr h.symm
  rw [e]
  obtain ⟨d, hd⟩ : ∃ d, d = decide (W[k] = B[i]) := ⟨_, rfl⟩
  rw [← hd] at b2 ⊢
  obtain ⟨c, hc⟩ : ∃ c, c = (W.take k).contains B[i] := ⟨_, rfl⟩
  rw [← hc]
  obtain ⟨p, hp⟩ : ∃ p, p = W[k] := ⟨_, rfl⟩
  obtain ⟨q, hq⟩ : ∃ q, q = B[i] := ⟨_, rfl⟩
  rw [← hp] at x1 b2
  rw [← hq] at x2 b2
  obtain ⟨k1, hk1⟩ : ∃ k1, k1 = k + 1 := ⟨_, rfl⟩
  rw [← hk1] at b4 ⊢
  cases c with
  | true => simp [lp6x0, hl, b1, b4, -evBin, -evIndexSl, -evLenSl]
  | false => simp [lp6x0, hl, x1, x2, b1, b2, b4, -evBin, -evIndexSl, -evLenSl]

theorem pred_nat (i : Nat) (h : 0 < i) (h2 : i ≤ 1000) : evBin .sub (.int .i64 (i : Int)) (.int .i64 1) = some (.int .i64 ((i - 1 : Nat) : Int)) := by
  simp only [evBin]; rw [if_pos trivial, wrapI (by unfold inI; omega)]; congr 2; omega
theorem leq_false {a b : Int} (h : b < a) : evBin .leq (.int .i64 a) (.int .i64 b) = some (.bool false) := by
  simp only [evBin]; rw [if_pos trivial, decide_eq_false (by omega)]
set_option maxRecDepth 100000 in
theorem round6b (E : Env) {v2 v5 : AV} {w b : AV} {W B : List Int} (hw : SlA 1 (intsA W) w) (hb : SlA 1 (intsA B) b) (hm : W.length ≤ 40) (hm2 : B.length ≤ 100) (hsub : ∀ z ∈ B, z ∈ W) {n i0 : Int} (hasc : AscFrom i0 n B) {i : Nat} (hi : i < B.length) :
    run E 50 [.code lp6x1] (st6x1 v2 (.bool true) v5 w b (.int .i64 (i : Int))) [] =
      some (.normal (st6x1 v2 (.bool true) v5 w b (.int .i64 ((i + 1 : Nat) : Int))) []) := by
  have hl := hw.len
  simp only [intsA, List.length_map] at hl
  have hbl := hb.len
  simp only [intsA, List.length_map] at hbl
  have lp : iter (evC E 50 lp6x0) mask6x0 50 (st6x0 v2 (.bool true) v5 w b (.int .i64 (i : Int)) (.bool false) (.int .i64 0)) [] =
      some (.exit 2 ((st6x0 v2 (.bool true) v5 w b (.int .i64 (i : Int)) (.bool true) (.int .i64 (W.length : Int))).set 19 (.bool false)) []) := by
    have h := iter_up (E := E) (fuel := 50) (a := lp6x0) (mask := mask6x0) (fun k => st6x0 v2 (.bool true) v5 w b (.int .i64 (i : Int)) (.bool ((W.take k).contains B[i])) (.int .i64 (k : Int))) (fun _ => []) W.length
      (o := .exit 2 ((st6x0 v2 (.bool true) v5 w b (.int .i64 (i : Int)) (.bool true) (.int .i64 (W.length : Int))).set 19 (.bool false)) [])
      (fun _ => cl6x0) (fun _ _ h => by cases h) (fun k hk => round6a E 50 hw hb (by omega) hi hk) (by
        have e : (W.take W.length).contains B[i] = true := by
          rw [List.take_length, List.contains_iff_mem]; exact hsub _ (List.getElem_mem hi)
        rw [e]
        simp [lp6x0, hl, -evLenSl]) (show W.length < 50 by omega)
    exact h
  have b1 := lt_nat i B.length .i64
  rw [decide_eq_true hi] at b1
  have b2 : evBin .gtr (.int .i64 (i : Int)) (.int .i64 0) = some (.bool (decide (0 < i))) := by simp [evBin]
  have b4 := add1_nat i (by omega)
  have hi100 : i ≤ 1000 := by omega
  have hai := (asc_index B i0).1 hasc i hi
  obtain ⟨i1, hi1⟩ : ∃ i1, i1 = i + 1 := ⟨_, rfl⟩
  rw [← hi1] at b4 ⊢
  by_cases h0 : 0 < i
  · rw [decide_eq_true h0] at b2
    have x1 := hb.int (A := []) _ _ (List.getElem?_eq_getElem hi) .i64
    have x2 := hb.int (A := []) _ _ (List.getElem?_eq_getElem (show i - 1 < B.length by omega)) .i64
    have b5 := pred_nat i h0 hi100
    have b6 := leq_false (hai.2.2 h0)
    obtain ⟨p, hp⟩ : ∃ p, p = B[i] := ⟨_, rfl⟩
    obtain ⟨q, hq⟩ : ∃ q, q = B[i - 1] := ⟨_, rfl⟩
    rw [← hp] at x1 b6
    rw [← hq] at x2 b6
    obtain ⟨j, hj⟩ : ∃ j, j = i - 1 := ⟨_, rfl⟩
    rw [← hj] at x2 b5
    simp [lp6x1, hbl, b1, b2, b4, b5, b6, x1, x2, go6x0 lp, -evBin, -evIndexSl, -evLenSl]
  · rw [decide_eq_false h0] at b2
    simp [lp6x1, hbl, b1, b2, b4, go6x0 lp, -evBin, -evIndexSl, -evLenSl]

set_option maxRecDepth 100000 in
theorem round6c (E : Env) (fuel : Nat) {v2 v4 v6 : AV} {l b : AV} {B : List Int} {T : List (List Int)} (hl : testsOf l = some T) (hb : SlA 1 (intsA B) b) {k i j c : Nat} (hk : k < T.length) (hi : i < B.length) (hj : j < T[k].length) (hm : T[k].length ≤ 100) (hc : c ≤ 1000) :
    run E fuel [.code lp6x2] (st6x2 v2 v4 l v6 b (.int .i64 (k : Int)) (.int .i64 ((c + (T[k].take j).count B[i] : Nat) : Int)) (.int .i64 (i : Int)) (.int .i64 (j : Int))) [] =
      some (.normal (st6x2 v2 v4 l v6 b (.int .i64 (k : Int)) (.int .i64 ((c + (T[k].take (j + 1)).count B[i] : Nat) : Int)) (.int .i64 (i : Int)) (.int .i64 ((j + 1 : Nat) : Int))) []) := by
  obtain ⟨s, hs, x1⟩ := testsOf_at hl hk
  have x1 := x1 [] .i64
  obtain ⟨hs1, hs2, hs3⟩ := intsOf_some hs
  have hsl := hs1.len
  simp only [List.length_map] at hsl
  have x2 := hs1.int (A := []) _ _ (List.getElem?_eq_getElem hj) .i64
  have x3 := hb.int (A := []) _ _ (List.getElem?_eq_getElem hi) .i64
  have b1 := lt_nat j T[k].length .i64
  rw [decide_eq_true hj] at b1
  have b2 : evBin .eql (.int .i64 T[k][j]) (.int .i64 B[i]) = some (.bool (decide (T[k][j] = B[i]))) := by simp [evBin]
  have hle : (T[k].take j).count B[i] ≤ 100 := Nat.le_trans List.count_le_length (by simp; omega)
  have b3 := add1_nat (c + (T[k].take j).count B[i]) (by omega)
  have b4 := add1_nat j (by omega)
  have e : (T[k].take (j + 1)).count B[i] = (T[k].take j).count B[i] + if T[k][j] = B[i] then 1 else 0 := by
    rw [List.take_succ_eq_append_getElem hj, List.count_append, List.count_singleton]
    congr 1
    by_cases h : T[k][j] = B[i] <;> simp [h]
  rw [e]
  clear e hle
  obtain ⟨u, hu⟩ : ∃ u, u = (T[k].take j).count B[i] := ⟨_, rfl⟩
  rw [← hu] at b3 ⊢
  obtain ⟨p, hp⟩ : ∃ p, p = T[k][j] := ⟨_, rfl⟩
  obtain ⟨q, hq⟩ : ∃ q, q = B[i] := ⟨_, rfl⟩
  rw [← hp] at x2 b2 ⊢
  rw [← hq] at x3 b2 ⊢
  obtain ⟨j1, hj1⟩ : ∃ j1, j1 = j + 1 := ⟨_, rfl⟩
  rw [← hj1] at b4 ⊢
  by_cases h : p = q
  · rw [decide_eq_true h] at b2
    rw [if_pos h]
    rw [show c + (u + 1) = c + u + 1 by omega]
    obtain ⟨r, hr⟩ : ∃ r, r = c + u + 1 := ⟨_, rfl⟩
    rw [← hr] at b3 ⊢
    obtain ⟨r0, hr0⟩ : ∃ r, r = c + u := ⟨_, rfl⟩
    rw [← hr0] at b3 ⊢
    simp [lp6x2, hsl, b1, b2, b3, b4, x1, x2, x3, -evBin, -evIndexSl, -evLenSl]
  · rw [decide_eq_false h] at b2
    rw [if_neg h, Nat.add_zero]
    obtain ⟨r0, hr0⟩ : ∃ r, r = c + u := ⟨_, rfl⟩
    rw [← hr0]
    simp [lp6x2, hsl, b1, b2, b4, x1, x2, x3, -evBin, -evIndexSl, -evLenSl]

set_option maxRecDepth 100000 in
theorem round6d (E : Env) {v2 v4 v6 : AV} {l b : AV} {B : List Int} {T : List (List Int)} (hl : testsOf l = some T) (hb : SlA 1 (intsA B) b) {k i : Nat} (hk : k < T.length) (hi : i < B.length) (hm : T[k].length ≤ 40) (hm2 : B.length ≤ 100) (hc : cB T[k] B i ≤ 1000) :
    run E 50 [.code lp6x3] (st6x3 v2 v4 l v6 b (.int .i64 (k : Int)) (.int .i64 (cB T[k] B i : Int)) (.int .i64 (i : Int))) [] =
      some (.normal (st6x3 v2 v4 l v6 b (.int .i64 (k : Int)) (.int .i64 (cB T[k] B (i + 1) : Int)) (.int .i64 ((i + 1 : Nat) : Int))) []) := by
  have hbl := hb.len
  simp only [intsA, List.length_map] at hbl
  obtain ⟨s, hs, x1⟩ := testsOf_at hl hk
  have x1 := x1 [] .i64
  obtain ⟨hs1, hs2, hs3⟩ := intsOf_some hs
  have hsl := hs1.len
  simp only [List.length_map] at hsl
  have e : cB T[k] B (i + 1) = cB T[k] B i + T[k].count B[i] := by
    rw [cB, show B.getD i 0 = B[i] by simp [hi]]
  rw [e]
  obtain ⟨c, hc'⟩ : ∃ c, c = cB T[k] B i := ⟨_, rfl⟩
  rw [← hc'] at hc ⊢
  have lp : iter (evC E 50 lp6x2) mask6x2 50 (st6x2 v2 v4 l v6 b (.int .i64 (k : Int)) (.int .i64 (c : Int)) (.int .i64 (i : Int)) (.int .i64 0)) [] =
      some (.exit 8 ((st6x2 v2 v4 l v6 b (.int .i64 (k : Int)) (.int .i64 ((c + T[k].count B[i] : Nat) : Int)) (.int .i64 (i : Int)) (.int .i64 (T[k].length : Int))).set 23 (.bool false)) []) := by
    have h := iter_up (E := E) (fuel := 50) (a := lp6x2) (mask := mask6x2) (fun j => st6x2 v2 v4 l v6 b (.int .i64 (k : Int)) (.int .i64 ((c + (T[k].take j).count B[i] : Nat) : Int)) (.int .i64 (i : Int)) (.int .i64 (j : Int))) (fun _ => []) T[k].length
      (o := .exit 8 ((st6x2 v2 v4 l v6 b (.int .i64 (k : Int)) (.int .i64 ((c + T[k].count B[i] : Nat) : Int)) (.int .i64 (i : Int)) (.int .i64 (T[k].length : Int))).set 23 (.bool false)) [])
      (fun _ => cl6x2) (fun _ _ h => by cases h) (fun j hj => round6c E 50 hl hb hk hi hj (by omega) hc) (by
        rw [List.take_length]
        obtain ⟨r, hr⟩ : ∃ r, r = c + T[k].count B[i] := ⟨_, rfl⟩
        rw [← hr]
        simp [lp6x2, hsl, x1, -evLenSl, -evIndexSl]) (show T[k].length < 50 by omega)
    simp only [List.take_zero, List.count_nil, Nat.add_zero] at h
    exact h
  have b1 := lt_nat i B.length .i64
  rw [decide_eq_true hi] at b1
  have b4 := add1_nat i (by omega)
  obtain ⟨r, hr⟩ : ∃ r, r = c + T[k].count B[i] := ⟨_, rfl⟩
  rw [← hr] at lp ⊢
  obtain ⟨i1, hi1⟩ : ∃ i1, i1 = i + 1 := ⟨_, rfl⟩
  rw [← hi1] at b4 ⊢
  simp [lp6x3, hbl, b1, b4, go6x2 lp, -evBin, -evLenSl]

set_option maxRecDepth 100000 in
theorem round6e (E : Env) {v2 v4 v6 : AV} {l b : AV} {B : List Int} {T : List (List Int)} (hl : testsOf l = some T) (hb : SlA 1 (intsA B) b) {k : Nat} (hk : k < T.length) (hm : T[k].length ≤ 40) (hm2 : B.length ≤ 40) (hm3 : T.length ≤ 100) (hcs : ∀ i, i ≤ B.length → cB T[k] B i ≤ 1) :
    run E 50 [.code lp6x4] (st6x4 v2 v4 l v6 b (.int .i64 (k : Int))) [] =
      some (.normal (st6x4 v2 v4 l v6 b (.int .i64 ((k + 1 : Nat) : Int))) []) := by
  have hbl := hb.len
  simp only [intsA, List.length_map] at hbl
  have hll := (testsOf_len hl).1
  have lp : iter (evC E 50 lp6x3) mask6x3 50 (st6x3 v2 v4 l v6 b (.int .i64 (k : Int)) (.int .i64 0) (.int .i64 0)) [] =
      some (.exit 6 ((st6x3 v2 v4 l v6 b (.int .i64 (k : Int)) (.int .i64 (cB T[k] B B.length : Int)) (.int .i64 (B.length : Int))).set 22 (.bool false)) []) := by
    have h := iter_up (E := E) (fuel := 50) (a := lp6x3) (mask := mask6x3) (fun i => st6x3 v2 v4 l v6 b (.int .i64 (k : Int)) (.int .i64 (cB T[k] B i : Int)) (.int .i64 (i : Int))) (fun _ => []) B.length
      (o := .exit 6 ((st6x3 v2 v4 l v6 b (.int .i64 (k : Int)) (.int .i64 (cB T[k] B B.length : Int)) (.int .i64 (B.length : Int))).set 22 (.bool false)) [])
      (fun _ => cl6x3) (fun _ _ h => by cases h) (fun i hi => round6d E hl hb hk hi hm (by omega) (by have := hcs i (by omega); omega)) (by simp [lp6x3, hbl, -evLenSl]) (show B.length < 50 by omega)
    exact h
  have b1 := lt_nat k T.length .i64
  rw [decide_eq_true hk] at b1
  have b4 := add1_nat k (by omega)
  have hc := hcs B.length (Nat.le_refl _)
  obtain ⟨c, hc'⟩ : ∃ c, c = cB T[k] B B.length := ⟨_, rfl⟩
  rw [← hc'] at lp hc
  have b2 : evBin .gtr (.int .i64 (c : Int)) (.int .i64 1) = some (.bool false) := by
    simp only [evBin]; rw [if_pos trivial, decide_eq_false (by omega)]
  obtain ⟨k1, hk1⟩ : ∃ k1, k1 = k + 1 := ⟨_, rfl⟩
  rw [← hk1] at b4 ⊢
  simp [lp6x4, hll, b1, b2, b4, go6x3 lp, -evBin, -evLenSl]
end Go.Proofs.YtkdjebioapholaaDoor
