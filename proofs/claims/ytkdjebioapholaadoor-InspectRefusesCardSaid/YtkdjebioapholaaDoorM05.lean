/-
  What the proof is built on (I26 to I32b).
-/
import Derived.Test.YtkdjebioapholaaDoorM04
import Derived.Test.YtkdjebioapholaaDoorM03
import Derived.Lib.LaidTab
/-
  Inspect: the reference's Fewest.
-/
namespace Go.Proofs.YtkdjebioapholaaDoor
open Go

/-! ### the masks of a set, together -/
def orTo (m : Nat → Nat) (s : Nat) : Nat → Nat
  | 0 => 0
  | k + 1 => if s / 2 ^ k % 2 = 1 then orTo m s k ||| m k else orTo m s k
theorem orTo_lt {m : Nat → Nat} {c : Nat} (h : ∀ k, m k < 2 ^ c) (s : Nat) : ∀ k, orTo m s k < 2 ^ c
  | 0 => by simp [orTo, Nat.two_pow_pos]
  | k + 1 => by
    have ih := orTo_lt h s k
    unfold orTo
    split
    · exact Nat.or_lt_two_pow ih (h k)
    · exact ih
theorem orTo_bit (m : Nat → Nat) (s i : Nat) : ∀ n, (orTo m s n).testBit i = true ↔ ∃ k, k < n ∧ s / 2 ^ k % 2 = 1 ∧ (m k).testBit i = true
  | 0 => by simp [orTo]
  | n + 1 => by
    have ih := orTo_bit m s i n
    unfold orTo
    split
    · rename_i h
      rw [Nat.testBit_or, Bool.or_eq_true, ih]
      constructor
      · rintro (⟨k, h1, h2, h3⟩ | h3)
        · exact ⟨k, by omega, h2, h3⟩
        · exact ⟨n, by omega, h, h3⟩
      · rintro ⟨k, h1, h2, h3⟩
        by_cases hk : k = n
        · subst hk; exact .inr h3
        · exact .inl ⟨k, by omega, h2, h3⟩
    · rename_i h
      rw [ih]
      constructor
      · rintro ⟨k, h1, h2, h3⟩
        exact ⟨k, by omega, h2, h3⟩
      · rintro ⟨k, h1, h2, h3⟩
        refine ⟨k, ?_, h2, h3⟩
        by_cases hk : k = n
        · subst hk; exact absurd h2 h
        · omega
theorem all_bits {a c : Nat} (h : a < 2 ^ c) : a = 2 ^ c - 1 ↔ ∀ i, i < c → a.testBit i = true := by
  constructor
  · rintro rfl i hi
    rw [Nat.testBit_two_pow_sub_one, decide_eq_true_eq]; exact hi
  · intro h2
    apply Nat.eq_of_testBit_eq
    intro i
    rw [Nat.testBit_two_pow_sub_one]
    by_cases hi : i < c
    · rw [h2 i hi, decide_eq_true hi]
    · rw [decide_eq_false hi, Nat.testBit_lt_two_pow]
      exact Nat.lt_of_lt_of_le h (Nat.pow_le_pow_right (by omega) (by omega))

def mN (open_ : List Int) (ts : List (List Int)) (f k : Nat) : Nat := mskTo open_ (ts.getD k []) f (cntM open_ f)
theorem mN_lt (open_ : List Int) (ts : List (List Int)) (f k : Nat) : mN open_ ts f k < 2 ^ cntM open_ f := mskTo_lt _ _ _ _
/-- a set, as its masks say -/
theorem or_all (open_ : List Int) (ts : List (List Int)) (hm : open_.length ≤ 100) (s n : Nat) : (orTo (mN open_ ts 0) s n = 2 ^ cntM open_ 0 - 1 ∧ orTo (mN open_ ts 62) s n = 2 ^ cntM open_ 62 - 1) ↔ ∀ w ∈ open_, ∃ k, k < n ∧ s / 2 ^ k % 2 = 1 ∧ w ∈ ts.getD k [] := by
  have key : ∀ f, (orTo (mN open_ ts f) s n = 2 ^ cntM open_ f - 1) ↔ ∀ i, i < cntM open_ f → ∃ k, k < n ∧ s / 2 ^ k % 2 = 1 ∧ open_.getD (f + i) 0 ∈ ts.getD k [] := fun f => by
    rw [all_bits (orTo_lt (mN_lt open_ ts f) s n)]
    constructor
    · intro h i hi
      obtain ⟨k, h1, h2, h3⟩ := (orTo_bit _ _ _ _).1 (h i hi)
      unfold mN at h3
      rw [mskTo_bit, decide_eq_true_eq] at h3
      exact ⟨k, h1, h2, h3.2⟩
    · intro h i hi
      obtain ⟨k, h1, h2, h3⟩ := h i hi
      refine (orTo_bit _ _ _ _).2 ⟨k, h1, h2, ?_⟩
      unfold mN
      rw [mskTo_bit, decide_eq_true_eq]
      exact ⟨hi, h3⟩
  rw [key, key]
  constructor
  · rintro ⟨h1, h2⟩ w hw
    obtain ⟨i, hi, rfl⟩ := List.mem_iff_getElem.1 hw
    by_cases h62 : i < 62
    · have := h1 i (by unfold cntM; omega)
      simpa only [Nat.zero_add, List.getD_eq_getElem?_getD, List.getElem?_eq_getElem hi, Option.getD_some] using this
    · have := h2 (i - 62) (by unfold cntM; omega)
      rw [show 62 + (i - 62) = i by omega, show open_.getD i 0 = open_[i] by simp [hi]] at this
      exact this
  · intro h
    have h2 : ∀ i, i < open_.length → ∃ k, k < n ∧ s / 2 ^ k % 2 = 1 ∧ open_.getD i 0 ∈ ts.getD k [] := fun i hi => by
      have := h _ (List.getElem_mem hi)
      rw [show open_.getD i 0 = open_[i] by simp [hi]]
      exact this
    refine ⟨fun i hi => h2 _ ?_, fun i hi => h2 _ ?_⟩
    · unfold cntM at hi; omega
    · unfold cntM at hi; omega

/-- the list of a set of n tests -/
def lS (s n : Nat) : List Int := bitsL (fun k => (k : Int)) s n
theorem lS_setL {s n : Nat} (h : s < 2 ^ n) (hn : n ≤ 17) : lS s n = setL s := by
  have := bitsL_stop (f := fun k => (k : Int)) h (17 - n)
  rw [show n + (17 - n) = 17 by omega] at this
  exact this.symm
theorem lS_dec (open_ : List Int) (ts : List (List Int)) (hm : open_.length ≤ 100) (s n : Nat) : (orTo (mN open_ ts 0) s n = 2 ^ cntM open_ 0 - 1 ∧ orTo (mN open_ ts 62) s n = 2 ^ cntM open_ 62 - 1) ↔ decL open_ ts (lS s n) = true := by
  rw [or_all open_ ts hm, decL, decide_eq_true_eq]
  simp only [lS, bitsL_mem]
  constructor
  · intro h w hw
    obtain ⟨k, h1, h2, h3⟩ := h w hw
    exact ⟨_, ⟨k, h1, h2, rfl⟩, by simpa using h3⟩
  · intro h w hw
    obtain ⟨z, ⟨k, h1, h2, rfl⟩, h3⟩ := h w hw
    exact ⟨k, h1, h2, by simpa using h3⟩

/-! ### values that stay what they are -/
def Fz (A : Arena) (v r : AV) : Prop := ∀ T n, frz (A ++ T) (n + 1) v = r
theorem Fz.app {A : Arena} {v r : AV} (h : Fz A v r) (T : Arena) : Fz (A ++ T) v r := fun T' n => by rw [List.append_assoc]; exact h _ n
theorem Fz.here {A : Arena} {v r : AV} (h : Fz A v r) (n : Nat) : frz A (n + 1) v = r := by simpa using h [] n
theorem aA_app (A : Arena) (esz : Nat) (es : List AV) : ∃ T, aA A esz es = A ++ T := by
  match es with
  | [] => exact ⟨[], by simp [aA]⟩
  | [x] => exact ⟨_, rfl⟩
  | x :: y :: r => exact ⟨_, rfl⟩
theorem frz_intsA (A : Arena) (n : Nat) (xs : List Int) : (intsA xs).map (frz A n) = intsA xs := by
  unfold intsA; rw [List.map_map]; apply List.map_congr_left; intro x _; cases n <;> rfl
theorem Fz_oA (A : Arena) (xs : List Int) : Fz (aA A 1 (intsA xs)) (oA A (intsA xs)) (slA 1 (intsA xs)) := by
  intro T n
  match xs with
  | [] => rfl
  | [x] => cases n <;> simp [intsA, oA, aA, frz, slA]
  | x :: y :: r =>
    have hc : ∀ B, frz B n ∘ AV.int .i64 = AV.int .i64 := fun B => by funext z; cases n <;> rfl
    have hc1 : ∀ B z, frz B n (AV.int .i64 z) = AV.int .i64 z := fun B z => by cases n <;> rfl
    have e : (A ++ [Ent.row 1 true (AV.int .i64 x :: AV.int .i64 y :: r.map (AV.int .i64))] ++ T)[A.length]? = some (.row 1 true (AV.int .i64 x :: AV.int .i64 y :: r.map (AV.int .i64))) := by
      rw [List.append_assoc, List.getElem?_append_right (Nat.le_refl _)]; simp
    simp only [intsA, List.map_cons, aA, oA, slA, frz, e]
    simp [hc, hc1]
    exact List.take_of_length_le (by simp)

/-! ### the best set so far -/
open Classical in
noncomputable def bestTo (open_ : List Int) (ts : List (List Int)) : Nat → Option (List Int)
  | 0 => none
  | s + 1 => if decL open_ ts (lS s ts.length) = true ∧ (∀ b, bestTo open_ ts s = some b → ahead (lS s ts.length) b) then some (lS s ts.length) else bestTo open_ ts s
def bestA : Option (List Int) → AV
  | none => .fs 1 []
  | some ch => slA 1 (intsA ch)

noncomputable def fs16 : List (FuncId × HModel) := [(31, pureH 4 M36), (18, pureH 4 M17), (32, pureH 4 M32), (33, pureH 4 M33)]
@[simp] theorem fs16_31 : lookM fs16 31 = some (pureH 4 M36) := rfl
@[simp] theorem fs16_18 : lookM fs16 18 = some (pureH 4 M17) := rfl
@[simp] theorem fs16_32 : lookM fs16 32 = some (pureH 4 M32) := rfl
@[simp] theorem fs16_33 : lookM fs16 33 = some (pureH 4 M33) := rfl
theorem sound16 : ∀ f M, lookM fs16 f = some M → FnSpecY Tryd.prog GI f M := lookM_cons (FnSpecY.of_pure spec31 4) (lookM_cons (FnSpecY.of_pure spec18 4) (lookM_cons (FnSpecY.of_pure spec32 4) (lookM_cons (FnSpecY.of_pure spec33 4) lookM_nil)))

set_option maxRecDepth 100000 in
theorem round16a (E : Env) (fuel : Nat) {l low high v6 v7 v8 v9 : AV} {n : Nat} (hl : evLenSl l = some (.int .i64 (n : Int))) (hn : n ≤ 16) {m0 m1 : Nat → Nat} (hm0 : ∀ k, m0 k < 2 ^ 62) (hm1 : ∀ k, m1 k < 2 ^ 62)
    (hlow : ∀ (A : Arena) (k : Nat), k < n → evIndexSl 1 A low (.int .i64 (k : Int)) = some (.fp [.int .i64 (m0 k : Int)])) (hhigh : ∀ (A : Arena) (k : Nat), k < n → evIndexSl 1 A high (.int .i64 (k : Int)) = some (.fp [.int .i64 (m1 k : Int)]))
    (A : Arena) (s : Nat) {k : Nat} (hk : k < n) :
    run E fuel [.code lp16x0] (st16x0 l low high v6 v7 v8 v9 (.int .i64 (s : Int)) (.int .i64 (orTo m0 s k : Int)) (.int .i64 (orTo m1 s k : Int)) (oA A (intsA (lS s k))) (.int .i64 (k : Int))) (aA A 1 (intsA (lS s k))) =
      some (.normal (st16x0 l low high v6 v7 v8 v9 (.int .i64 (s : Int)) (.int .i64 (orTo m0 s (k + 1) : Int)) (.int .i64 (orTo m1 s (k + 1) : Int)) (oA A (intsA (lS s (k + 1)))) (.int .i64 ((k + 1 : Nat) : Int))) (aA A 1 (intsA (lS s (k + 1))))) := by
  have b1 := lt_nat k n .i64
  rw [decide_eq_true hk] at b1
  have b2 := shr_nat s k .i64 .i64 (by simp; omega)
  have b3 := rem2_nat (s / 2 ^ k) .i64
  have b4 := eq1_nat (s / 2 ^ k % 2) .i64
  have b6 := add1_nat k (by omega)
  have x1 := fun A => hlow A k hk
  have x2 := fun A => hhigh A k hk
  have b7 := or_i64 (orTo m0 s k) (m0 k) (orTo_lt hm0 s k) (hm0 k)
  have b8 := or_i64 (orTo m1 s k) (m1 k) (orTo_lt hm1 s k) (hm1 k)
  have hlen := bitsL_len (fun k => (k : Int)) s k
  have ap := append1 (A := A) (esz := 1) (bytes := 8) (es := intsA (lS s k)) (.int .i64 (k : Int)) (by omega) (by omega) (by simp only [intsA, lS, List.length_map]; omega)
  have ht : s / 2 ^ k % 2 = 1 → intsA (lS s k) ++ [.int .i64 (k : Int)] = intsA (lS s (k + 1)) := fun h => by
    unfold lS intsA; rw [bitsL_t h]; simp
  have hf : ¬ s / 2 ^ k % 2 = 1 → lS s (k + 1) = lS s k := fun h => bitsL_f h
  have e0 : orTo m0 s (k + 1) = if s / 2 ^ k % 2 = 1 then orTo m0 s k ||| m0 k else orTo m0 s k := by rw [orTo]
  have e1 : orTo m1 s (k + 1) = if s / 2 ^ k % 2 = 1 then orTo m1 s k ||| m1 k else orTo m1 s k := by rw [orTo]
  rw [e0, e1]
  obtain ⟨q, hq⟩ : ∃ q, q = s / 2 ^ k := ⟨_, rfl⟩
  rw [← hq] at b2 b3 b4 ht hf ⊢
  obtain ⟨r, hr⟩ : ∃ r, r = q % 2 := ⟨_, rfl⟩
  rw [← hr] at b3 b4 ht hf ⊢
  obtain ⟨k1, hk1⟩ : ∃ k1 : Nat, k1 = k + 1 := ⟨_, rfl⟩
  rw [← hk1] at b6 ht hf ⊢
  obtain ⟨u, hu⟩ : ∃ u, u = orTo m0 s k := ⟨_, rfl⟩
  obtain ⟨v, hv⟩ : ∃ v, v = orTo m1 s k := ⟨_, rfl⟩
  rw [← hu] at b7 ⊢
  rw [← hv] at b8 ⊢
  obtain ⟨a, ha⟩ : ∃ a, a = m0 k := ⟨_, rfl⟩
  obtain ⟨b, hb⟩ : ∃ b, b = m1 k := ⟨_, rfl⟩
  rw [← ha] at b7 x1 ⊢
  rw [← hb] at b8 x2 ⊢
  obtain ⟨ua, hua⟩ : ∃ ua, ua = u ||| a := ⟨_, rfl⟩
  obtain ⟨vb, hvb⟩ : ∃ vb, vb = v ||| b := ⟨_, rfl⟩
  rw [← hua] at b7 ⊢
  rw [← hvb] at b8 ⊢
  by_cases h : r = 1
  · rw [ht h] at ap
    rw [decide_eq_true h] at b4
    rw [if_pos h, if_pos h]
    simp [lp16x0, hl, b1, b2, b3, b4, b6, b7, b8, x1, x2, ap, -evBin, -evIndexSl, -evLenSl]
  · rw [hf h, if_neg h, if_neg h]
    rw [decide_eq_false h] at b4
    simp [lp16x0, hl, b1, b2, b3, b4, b6, -evBin, -evIndexSl, -evLenSl]

theorem loop16a (E : Env) (fuel : Nat) (hfu : 17 < fuel) {l low high v6 v7 v8 v9 : AV} {n : Nat} (hl : evLenSl l = some (.int .i64 (n : Int))) (hn : n ≤ 16) {m0 m1 : Nat → Nat} (hm0 : ∀ k, m0 k < 2 ^ 62) (hm1 : ∀ k, m1 k < 2 ^ 62)
    (hlow : ∀ (A : Arena) (k : Nat), k < n → evIndexSl 1 A low (.int .i64 (k : Int)) = some (.fp [.int .i64 (m0 k : Int)])) (hhigh : ∀ (A : Arena) (k : Nat), k < n → evIndexSl 1 A high (.int .i64 (k : Int)) = some (.fp [.int .i64 (m1 k : Int)]))
    (A : Arena) (s : Nat) :
    iter (evC E fuel lp16x0) mask16x0 fuel (st16x0 l low high v6 v7 v8 v9 (.int .i64 (s : Int)) (.int .i64 0) (.int .i64 0) .nilS (.int .i64 0)) A =
      some (.exit 2 ((st16x0 l low high v6 v7 v8 v9 (.int .i64 (s : Int)) (.int .i64 (orTo m0 s n : Int)) (.int .i64 (orTo m1 s n : Int)) (oA A (intsA (lS s n))) (.int .i64 (n : Int))).set 17 (.bool false)) (aA A 1 (intsA (lS s n)))) := by
  have h := iter_up (E := E) (fuel := fuel) (a := lp16x0) (mask := mask16x0) (fun k => st16x0 l low high v6 v7 v8 v9 (.int .i64 (s : Int)) (.int .i64 (orTo m0 s k : Int)) (.int .i64 (orTo m1 s k : Int)) (oA A (intsA (lS s k))) (.int .i64 (k : Int))) (fun k => aA A 1 (intsA (lS s k))) n
    (o := .exit 2 ((st16x0 l low high v6 v7 v8 v9 (.int .i64 (s : Int)) (.int .i64 (orTo m0 s n : Int)) (.int .i64 (orTo m1 s n : Int)) (oA A (intsA (lS s n))) (.int .i64 (n : Int))).set 17 (.bool false)) (aA A 1 (intsA (lS s n))))
    (fun _ => cl16x0) (fun _ _ h => by cases h) (fun k hk => round16a E fuel hl hn hm0 hm1 hlow hhigh A s hk) (by simp [lp16x0, hl, -evLenSl]) (show n < fuel by omega)
  exact h
end Go.Proofs.YtkdjebioapholaaDoor
/-
  Inspect: the reference's Fewest, whole.
-/
namespace Go.Proofs.YtkdjebioapholaaDoor
open Go

theorem lex_trans : ∀ {x y z : List Int}, lexL x y → lexL y z → lexL x z
  | [], [], _, h, _ => h.elim
  | [], _ :: _, _, h, _ => h.elim
  | _ :: _, [], _, h, _ => h.elim
  | _ :: _, _ :: _, [], _, h => h.elim
  | a :: x, b :: y, c :: z, h1, h2 => by
    rcases h1 with h1 | ⟨rfl, h1⟩
    · rcases h2 with h2 | ⟨rfl, _⟩
      · exact .inl (by omega)
      · exact .inl h1
    · rcases h2 with h2 | ⟨rfl, h2⟩
      · exact .inl h2
      · exact .inr ⟨rfl, lex_trans h1 h2⟩
theorem ahead_trans {x y z : List Int} (h1 : ahead x y) (h2 : ahead y z) : ahead x z := by
  rcases h1 with h1 | ⟨e1, h1⟩
  · rcases h2 with h2 | ⟨e2, _⟩
    · exact .inl (by omega)
    · exact .inl (by omega)
  · rcases h2 with h2 | ⟨e2, h2⟩
    · exact .inl (by omega)
    · exact .inr ⟨by omega, lex_trans h1 h2⟩
theorem bestA_ints {b : Option (List Int)} (h : ∀ ch, b = some ch → ch.length ≤ 17 ∧ ∀ z ∈ ch, inI z) : intsOf (bestA b) = some (b.getD []) := by
  cases b with
  | none => exact intsOf_of (.inr rfl) (by simp) (by simp)
  | some ch =>
    obtain ⟨h1, h2⟩ := h ch rfl
    exact intsOf_slA (by omega) h2
theorem lS_ok (s n : Nat) (hn : n ≤ 17) : (lS s n).length ≤ 17 ∧ ∀ z ∈ lS s n, inI z := by
  refine ⟨Nat.le_trans (bitsL_len _ _ _) hn, fun z hz => ?_⟩
  obtain ⟨k, h1, _, rfl⟩ := bitsL_mem.1 hz
  unfold inI; omega
theorem bestTo_ok (open_ : List Int) (ts : List (List Int)) (hn : ts.length ≤ 16) : ∀ s ch, bestTo open_ ts s = some ch → ch.length ≤ 17 ∧ ∀ z ∈ ch, inI z
  | 0, ch, h => by simp [bestTo] at h
  | s + 1, ch, h => by
    unfold bestTo at h
    split at h
    · injection h with h; subst h
      exact lS_ok _ _ (by omega)
    · exact bestTo_ok open_ ts hn s ch h

open Classical in
set_option maxRecDepth 100000 in
theorem round16b {l low high : AV} {open_ : List Int} {ts : List (List Int)} (hl : evLenSl l = some (.int .i64 (ts.length : Int))) (hn : ts.length ≤ 16) (hm : open_.length ≤ 100)
    (hlow : ∀ (A : Arena) (k : Nat), k < ts.length → evIndexSl 1 A low (.int .i64 (k : Int)) = some (.fp [.int .i64 (mN open_ ts 0 k : Int)])) (hhigh : ∀ (A : Arena) (k : Nat), k < ts.length → evIndexSl 1 A high (.int .i64 (k : Int)) = some (.fp [.int .i64 (mN open_ ts 62 k : Int)]))
    (A : Arena) (v8 : AV) (s : Nat) (hs : s < 2 ^ ts.length) (h8 : Fz A v8 (bestA (bestTo open_ ts s))) :
    ∃ A' v8', Fz A' v8' (bestA (bestTo open_ ts (s + 1))) ∧
    run (envOf GI fs16) 70000 [.code lp16x1] (st16x1 l low high (.int .i64 ((2 ^ cntM open_ 0 - 1 : Nat) : Int)) (.int .i64 ((2 ^ cntM open_ 62 - 1 : Nat) : Int)) v8 (.bool (bestTo open_ ts s).isSome) (.int .i64 (s : Int))) A =
      some (.normal (st16x1 l low high (.int .i64 ((2 ^ cntM open_ 0 - 1 : Nat) : Int)) (.int .i64 ((2 ^ cntM open_ 62 - 1 : Nat) : Int)) v8' (.bool (bestTo open_ ts (s + 1)).isSome) (.int .i64 ((s + 1 : Nat) : Int))) A') := by
  have h62 : ∀ f k, mN open_ ts f k < 2 ^ 62 := fun f k => Nat.lt_of_lt_of_le (mN_lt open_ ts f k) (Nat.pow_le_pow_right (by omega) (by unfold cntM; omega))
  have hdec := lS_dec open_ ts hm s ts.length
  obtain ⟨D, hD⟩ : ∃ D, D = decL open_ ts (lS s ts.length) := ⟨_, rfl⟩
  have hok := lS_ok s ts.length (by omega)
  have hstep : bestTo open_ ts (s + 1) = if D = true ∧ (∀ b, bestTo open_ ts s = some b → ahead (lS s ts.length) b) then some (lS s ts.length) else bestTo open_ ts s := by rw [hD, bestTo]
  have hbi := bestA_ints (b := bestTo open_ ts s) (bestTo_ok open_ ts hn s)
  rw [hstep]
  rw [← hD] at hdec
  obtain ⟨B, hB⟩ : ∃ B, B = bestTo open_ ts s := ⟨_, rfl⟩
  rw [← hB] at h8 hbi ⊢
  have p16 : 2 ^ ts.length ≤ 2 ^ 16 := Nat.pow_le_pow_right (by omega) hn
  have b1 := lt_nat s (2 ^ ts.length) .i64
  rw [decide_eq_true hs] at b1
  have b2 := shl_i64 ts.length (by omega)
  have b6 := add1_nat s (by omega)
  have lp := loop16a (envOf GI fs16) 70000 (by omega) (v6 := .int .i64 ((2 ^ cntM open_ 0 - 1 : Nat) : Int)) (v7 := .int .i64 ((2 ^ cntM open_ 62 - 1 : Nat) : Int)) (v8 := v8) (v9 := .bool B.isSome) hl hn (h62 0) (h62 62) hlow hhigh A s
  have hoA := Fz_oA A (lS s ts.length)
  obtain ⟨T, hT⟩ := aA_app A 1 (intsA (lS s ts.length))
  have hold : Fz (aA A 1 (intsA (lS s ts.length))) v8 (bestA B) := by rw [hT]; exact h8.app T
  have hch : intsOf (slA 1 (intsA (lS s ts.length))) = some (lS s ts.length) := intsOf_slA (by omega) hok.2
  have m33 : M33 [slA 1 (intsA (lS s ts.length)), bestA B] = some (.bool (decide (ahead (lS s ts.length) (B.getD [])))) := by simp only [M33, hch, hbi]
  have q1 := hoA.here 3
  have q2 := hold.here 3
  obtain ⟨P, hP⟩ : ∃ P, P = 2 ^ ts.length := ⟨_, rfl⟩
  rw [← hP] at b1 b2
  obtain ⟨a, ha⟩ : ∃ a, a = orTo (mN open_ ts 0) s ts.length := ⟨_, rfl⟩
  obtain ⟨b, hb⟩ : ∃ b, b = orTo (mN open_ ts 62) s ts.length := ⟨_, rfl⟩
  rw [← ha, ← hb] at lp hdec
  obtain ⟨all, hall⟩ : ∃ x, x = 2 ^ cntM open_ 0 - 1 := ⟨_, rfl⟩
  obtain ⟨rest, hrest⟩ : ∃ x, x = 2 ^ cntM open_ 62 - 1 := ⟨_, rfl⟩
  rw [← hall, ← hrest] at lp hdec ⊢
  obtain ⟨L, hL⟩ : ∃ L, L = lS s ts.length := ⟨_, rfl⟩
  rw [← hL] at lp hoA hold m33 q1 q2 ⊢
  obtain ⟨Z, hZ⟩ : ∃ Z, Z = aA A 1 (intsA L) := ⟨_, rfl⟩
  obtain ⟨o, ho⟩ : ∃ o, o = oA A (intsA L) := ⟨_, rfl⟩
  rw [← hZ, ← ho] at lp hoA q1
  rw [← hZ] at hold q2
  obtain ⟨rA, hrA⟩ : ∃ x, x = slA 1 (intsA L) := ⟨_, rfl⟩
  obtain ⟨rB, hrB⟩ : ∃ x, x = bestA B := ⟨_, rfl⟩
  rw [← hrA] at q1 m33
  rw [← hrB] at q2 m33
  obtain ⟨s1, hs1⟩ : ∃ s1, s1 = s + 1 := ⟨_, rfl⟩
  rw [← hs1] at b6 ⊢
  have c1 : evBin .eql (.int .i64 (a : Int)) (.int .i64 (all : Int)) = some (.bool (decide (a = all))) := by simp [evBin]; omega
  have c2 : evBin .eql (.int .i64 (b : Int)) (.int .i64 (rest : Int)) = some (.bool (decide (b = rest))) := by simp [evBin]; omega
  -- what follows, whatever the conditions are
  by_cases hd : D = true
  rotate_left
  · refine ⟨Z, v8, ?_, ?_⟩
    · rw [if_neg (fun h => hd h.1)]; exact hold
    · rw [if_neg (fun h => hd h.1)]
      have hn' : ¬ (a = all ∧ b = rest) := fun h => hd (hdec.1 h)
      by_cases e1 : a = all
      · rw [decide_eq_true e1] at c1
        rw [decide_eq_false (fun e2 => hn' ⟨e1, e2⟩)] at c2
        simp [lp16x1, hl, b1, b2, b6, c1, c2, go16x0 lp, -evBin, -evLenSl]
      · rw [decide_eq_false e1] at c1
        simp [lp16x1, hl, b1, b2, b6, c1, go16x0 lp, -evBin, -evLenSl]
  obtain ⟨e1, e2⟩ := hdec.2 hd
  rw [decide_eq_true e1] at c1
  rw [decide_eq_true e2] at c2
  cases B with
  | none =>
    simp only [Option.isSome_none] at lp
    refine ⟨Z, o, ?_, ?_⟩
    · rw [if_pos ⟨hd, fun b h => by cases h⟩]; exact hoA
    · rw [if_pos ⟨hd, fun b h => by cases h⟩]
      simp [lp16x1, hl, b1, b2, b6, c1, c2, go16x0 lp, -evBin, -evLenSl]
  | some ch =>
    simp only [Option.getD_some] at m33
    simp only [Option.isSome_some] at lp
    by_cases h : ahead L ch
    · rw [decide_eq_true h] at m33
      refine ⟨Z, o, ?_, ?_⟩
      · rw [if_pos ⟨hd, fun b hb => by injection hb with hb; subst hb; exact h⟩]; exact hoA
      · rw [if_pos ⟨hd, fun b hb => by injection hb with hb; subst hb; exact h⟩]
        simp [lp16x1, hl, b1, b2, b6, c1, c2, q1, q2, m33, go16x0 lp, -evBin, -evLenSl]
    · rw [decide_eq_false h] at m33
      refine ⟨Z, v8, ?_, ?_⟩
      · rw [if_neg (fun hh => h (hh.2 _ rfl))]; exact hold
      · rw [if_neg (fun hh => h (hh.2 _ rfl))]
        simp [lp16x1, hl, b1, b2, b6, c1, c2, q1, q2, m33, go16x0 lp, -evBin, -evLenSl]

theorem loop16 {l low high : AV} {open_ : List Int} {ts : List (List Int)} (hl : evLenSl l = some (.int .i64 (ts.length : Int))) (hn : ts.length ≤ 16) (hm : open_.length ≤ 100)
    (hlow : ∀ (A : Arena) (k : Nat), k < ts.length → evIndexSl 1 A low (.int .i64 (k : Int)) = some (.fp [.int .i64 (mN open_ ts 0 k : Int)])) (hhigh : ∀ (A : Arena) (k : Nat), k < ts.length → evIndexSl 1 A high (.int .i64 (k : Int)) = some (.fp [.int .i64 (mN open_ ts 62 k : Int)])) :
    ∀ (c s m : Nat) (A : Arena) (v8 : AV), c + s = 2 ^ ts.length → c < m → Fz A v8 (bestA (bestTo open_ ts s)) →
    ∃ A' v8', Fz A' v8' (bestA (bestTo open_ ts (2 ^ ts.length))) ∧
    iter (evC (envOf GI fs16) 70000 lp16x1) mask16x1 m (st16x1 l low high (.int .i64 ((2 ^ cntM open_ 0 - 1 : Nat) : Int)) (.int .i64 ((2 ^ cntM open_ 62 - 1 : Nat) : Int)) v8 (.bool (bestTo open_ ts s).isSome) (.int .i64 (s : Int))) A =
      some (.exit 0 ((st16x1 l low high (.int .i64 ((2 ^ cntM open_ 0 - 1 : Nat) : Int)) (.int .i64 ((2 ^ cntM open_ 62 - 1 : Nat) : Int)) v8' (.bool (bestTo open_ ts (2 ^ ts.length)).isSome) (.int .i64 ((2 ^ ts.length : Nat) : Int))).set 16 (.bool false)) A') := by
  intro c
  induction c with
  | zero =>
    intro s m A v8 hs hm' h8
    obtain ⟨m, rfl⟩ : ∃ j, m = j + 1 := ⟨m - 1, by omega⟩
    obtain rfl : s = 2 ^ ts.length := by omega
    refine ⟨A, v8, h8, ?_⟩
    have p16 : 2 ^ ts.length ≤ 2 ^ 16 := Nat.pow_le_pow_right (by omega) hn
    have b1 := lt_nat (2 ^ ts.length) (2 ^ ts.length) .i64
    rw [decide_eq_false (by omega)] at b1
    have b2 := shl_i64 ts.length (by omega)
    obtain ⟨is, his⟩ : ∃ is, is = (bestTo open_ ts (2 ^ ts.length)).isSome := ⟨_, rfl⟩
    rw [← his]
    obtain ⟨P, hP⟩ : ∃ P, P = 2 ^ ts.length := ⟨_, rfl⟩
    rw [← hP] at b1 b2 ⊢
    obtain ⟨all, hall⟩ : ∃ x, x = 2 ^ cntM open_ 0 - 1 := ⟨_, rfl⟩
    obtain ⟨rest, hrest⟩ : ∃ x, x = 2 ^ cntM open_ 62 - 1 := ⟨_, rfl⟩
    rw [← hall, ← hrest]
    rw [iter_succ, cl16x1]
    simp [lp16x1, hl, b1, b2, -evBin, -evLenSl]
  | succ c ih =>
    intro s m A v8 hs hm' h8
    obtain ⟨m, rfl⟩ : ∃ j, m = j + 1 := ⟨m - 1, by omega⟩
    obtain ⟨A1, v1, h1, hr⟩ := round16b hl hn hm hlow hhigh A v8 s (by omega) h8
    rw [iter_succ, cl16x1, hr]
    exact ih (s + 1) m A1 v1 (by omega) (by omega) h1

theorem bestTo_spec (open_ : List Int) (ts : List (List Int)) : ∀ s, match bestTo open_ ts s with
    | none => ∀ t, t < s → decL open_ ts (lS t ts.length) = false
    | some ch => (∃ t, t < s ∧ ch = lS t ts.length) ∧ decL open_ ts ch = true ∧ ∀ t, t < s → decL open_ ts (lS t ts.length) = true → lS t ts.length = ch ∨ ahead ch (lS t ts.length)
  | 0 => by simp [bestTo]
  | s + 1 => by
    have ih := bestTo_spec open_ ts s
    unfold bestTo
    cases hB : bestTo open_ ts s with
    | none =>
      rw [hB] at ih
      simp only at ih
      by_cases hd : decL open_ ts (lS s ts.length) = true
      · rw [if_pos ⟨hd, fun b h => by cases h⟩]
        refine ⟨⟨s, by omega, rfl⟩, hd, fun t ht hdt => ?_⟩
        by_cases hts : t = s
        · subst hts; exact .inl rfl
        · rw [ih t (by omega)] at hdt; cases hdt
      · rw [if_neg (fun h => hd h.1)]
        intro t ht
        by_cases hts : t = s
        · subst hts; simpa using hd
        · exact ih t (by omega)
    | some ch =>
      rw [hB] at ih
      simp only at ih
      obtain ⟨⟨t0, h0, e0⟩, h1, h2⟩ := ih
      by_cases hd : decL open_ ts (lS s ts.length) = true ∧ ahead (lS s ts.length) ch
      · rw [if_pos ⟨hd.1, fun b h => by injection h with h; subst h; exact hd.2⟩]
        refine ⟨⟨s, by omega, rfl⟩, hd.1, fun t ht hdt => ?_⟩
        by_cases hts : t = s
        · subst hts; exact .inl rfl
        · rcases h2 t (by omega) hdt with e | e
          · rw [e]; exact .inr hd.2
          · exact .inr (ahead_trans hd.2 e)
      · rw [if_neg (fun h => hd ⟨h.1, h.2 _ rfl⟩)]
        refine ⟨⟨t0, by omega, e0⟩, h1, fun t ht hdt => ?_⟩
        by_cases hts : t = s
        · subst hts
          rcases ahead_tri (lS t ts.length) ch with e | e | e
          · exact absurd ⟨hdt, e⟩ hd
          · exact .inl e
          · exact .inr e
        · exact h2 t (by omega) hdt
end Go.Proofs.YtkdjebioapholaaDoor
/-
  Inspect: the reference's Fewest: its contract.
-/
namespace Go.Proofs.YtkdjebioapholaaDoor
open Go

/-! ### each choice is the list of a set -/
theorem AscFrom.snoc {m n : Int} (hmn : m < n) : ∀ {l : List Int} {i : Int}, AscFrom i m l → i ≤ m → AscFrom i n (l ++ [m])
  | [], _, _, h => ⟨h, hmn, trivial⟩
  | _ :: _, _, ⟨h1, h2, h3⟩, _ => ⟨h1, by omega, h3.snoc hmn (by omega)⟩
theorem AscFrom.up {m n : Int} (hmn : m ≤ n) : ∀ {l : List Int} {i : Int}, AscFrom i m l → AscFrom i n l
  | [], _, _ => trivial
  | _ :: _, _, ⟨h1, h2, h3⟩ => ⟨h1, by omega, h3.up hmn⟩
theorem AscFrom.ge {n : Int} : ∀ {l : List Int} {i : Int}, AscFrom i n l → ∀ z ∈ l, i ≤ z ∧ z < n
  | [], _, _, _, h => by cases h
  | x :: r, i, ⟨h1, h2, h3⟩, z, h => by
    rcases List.mem_cons.1 h with rfl | h
    · exact ⟨h1, h2⟩
    · have := h3.ge z h
      exact ⟨by omega, this.2⟩
theorem asc_ext {n : Int} : ∀ {a b : List Int} {i : Int}, AscFrom i n a → AscFrom i n b → (∀ z, z ∈ a ↔ z ∈ b) → a = b
  | [], [], _, _, _, _ => rfl
  | [], y :: _, _, _, _, h => by have := (h y).2 (by simp); cases this
  | x :: _, [], _, _, _, h => by have := (h x).1 (by simp); cases this
  | x :: a, y :: b, i, ⟨h1, h2, h3⟩, ⟨k1, k2, k3⟩, h => by
    have e1 : y ≤ x := by
      rcases List.mem_cons.1 ((h x).1 (by simp)) with e | e
      · omega
      · have := (k3.ge x e).1; omega
    have e2 : x ≤ y := by
      rcases List.mem_cons.1 ((h y).2 (by simp)) with e | e
      · omega
      · have := (h3.ge y e).1; omega
    obtain rfl : x = y := by omega
    congr 1
    refine asc_ext h3 k3 fun z => ?_
    constructor
    · intro hz
      rcases List.mem_cons.1 ((h z).1 (by simp [hz])) with e | e
      · have := (h3.ge z hz).1; omega
      · exact e
    · intro hz
      rcases List.mem_cons.1 ((h z).2 (by simp [hz])) with e | e
      · have := (k3.ge z hz).1; omega
      · exact e
theorem bitsL_asc (s : Nat) : ∀ n : Nat, AscFrom 0 (n : Int) (lS s n)
  | 0 => trivial
  | n + 1 => by
    have ih := bitsL_asc s n
    unfold lS at ih ⊢
    by_cases h : s / 2 ^ n % 2 = 1
    · rw [bitsL_t h]
      exact ih.snoc (by omega) (by omega)
    · rw [bitsL_f h]
      exact ih.up (by omega)
theorem lS_chosen (s n : Nat) : Chosen n (lS s n) := (chosen_asc n _).2 (bitsL_asc s n)
theorem lS_mem {s n : Nat} {z : Int} : z ∈ lS s n ↔ ∃ k : Nat, k < n ∧ s / 2 ^ k % 2 = 1 ∧ z = k := bitsL_mem
theorem chosen_set {n : Nat} (hn : n ≤ 17) {ch : List Int} (h : Chosen n ch) : ∃ t, t < 2 ^ n ∧ ch = lS t n := by
  refine ⟨chB ch ch.length, ?_, ?_⟩
  · refine Nat.lt_pow_two_of_testBit _ fun i hi => ?_
    rw [chB_bit, decide_eq_false_iff_not]
    rintro ⟨_, j, hj, he⟩
    have := h j hj
    simp only [List.getD_eq_getElem?_getD, List.getElem?_eq_getElem hj, Option.getD_some] at he
    omega
  · refine asc_ext ((chosen_asc n ch).1 h) (bitsL_asc _ n) fun z => ?_
    rw [lS_mem]
    constructor
    · intro hz
      obtain ⟨j, hj, rfl⟩ := List.mem_iff_getElem.1 hz
      have := h j hj
      refine ⟨ch[j].toNat, by omega, ?_, by omega⟩
      have hb := chB_bit ch ch.length ch[j].toNat
      rw [Nat.testBit_eq_decide_div_mod_eq, Bool.eq_iff_iff, decide_eq_true_eq, decide_eq_true_eq] at hb
      refine hb.2 ⟨by omega, j, hj, by simp [hj]⟩
    · rintro ⟨k, hk, hb, rfl⟩
      have h2 := chB_bit ch ch.length k
      rw [Nat.testBit_eq_decide_div_mod_eq, Bool.eq_iff_iff, decide_eq_true_eq, decide_eq_true_eq] at h2
      obtain ⟨_, j, hj, he⟩ := h2.1 hb
      simp only [List.getD_eq_getElem?_getD, List.getElem?_eq_getElem hj, Option.getD_some] at he
      have := h j hj
      rw [← he]
      have e : ((ch[j].toNat : Nat) : Int) = ch[j] := by omega
      rw [e]
      exact List.getElem_mem hj
theorem bestTo_fewest (open_ : List Int) (ts : List (List Int)) (hn : ts.length ≤ 17) : bestTo open_ ts (2 ^ ts.length) = fewest open_ ts := by
  have h := bestTo_spec open_ ts (2 ^ ts.length)
  cases hB : bestTo open_ ts (2 ^ ts.length) with
  | none =>
    rw [hB] at h
    simp only at h
    cases hF : fewest open_ ts with
    | none => rfl
    | some c =>
      obtain ⟨h1, h2, _⟩ := fewest_some hF
      obtain ⟨t, ht, rfl⟩ := chosen_set hn h1
      rw [h t ht] at h2; cases h2
  | some ch =>
    rw [hB] at h
    obtain ⟨⟨t, ht, rfl⟩, h1, h2⟩ := h
    refine (fewest_eq (lS_chosen _ _) h1 fun ch' hc hd => ?_).symm
    obtain ⟨t', ht', rfl⟩ := chosen_set hn hc
    exact h2 t' ht' hd

open Classical in
noncomputable def fewR2 (open_ : List Int) (ts : List (List Int)) : AV := if Good open_ ∧ GoodT ts then .tup [bestA (fewest open_ ts), .bool (fewest open_ ts).isSome] else .tup [.nilS, .bool false]

open Classical in
set_option maxRecDepth 100000 in
theorem ev16 {a l : AV} {open_ : List Int} {ts : List (List Int)} (ha : intsOf a = some open_) (hl : testsOf l = some ts) :
    evP (envOf GI fs16) 70000 mf16 2 [a, l] = some (fewR2 open_ ts) := by
  obtain ⟨ha1, ha2, ha3⟩ := intsOf_some ha
  have hla := ha1.len
  simp only [List.length_map] at hla
  have hll := (testsOf_len hl).1
  have f1 := intsOf_frz ha
  have f2 := testsOf_frz hl
  have f3 := intsOf_noRef ha
  have f4 := testsOf_noRef hl
  have m1 : M36 [a] = some (.bool (decide (Good open_))) := by simp only [M36, ha, Option.map_some]
  have m2 : M17 [l] = some (.bool (decide (GoodT ts))) := by simp only [M17, hl, Option.map_some]
  rw [evP_run _ _ rfl]
  unfold fewR2
  by_cases h1 : Good open_
  rotate_left
  · rw [decide_eq_false h1] at m1
    rw [if_neg (fun h => h1 h.1)]
    simp [mf16, f1, f2, f3, f4, m1, frz, -evLenSl]
  rw [decide_eq_true h1] at m1
  by_cases h2 : GoodT ts
  rotate_left
  · rw [decide_eq_false h2] at m2
    rw [if_neg (fun h => h2 h.2)]
    simp [mf16, f1, f2, f3, f4, m1, m2, frz, -evLenSl]
  rw [decide_eq_true h2] at m2
  rw [if_pos ⟨h1, h2⟩]
  have h100 := h1.1
  have h16 := h2.1
  have m3 := M32_eq ha hl h100 h16 (f := 0) (by omega)
  have m4 := M32_eq ha hl h100 h16 (f := 62) (by omega)
  rw [show ((0 : Nat) : Int) = 0 from rfl] at m3
  rw [show ((62 : Nat) : Int) = 62 from rfl] at m4
  have hidx : ∀ (f : Nat) (A : Arena) (k : Nat), k < ts.length → evIndexSl 1 A (slA 1 (intsA (msks open_ ts f))) (.int .i64 (k : Int)) = some (.fp [.int .i64 (mN open_ ts f k : Int)]) := fun f A k hk => by
    refine (slA_holds 1 (intsA (msks open_ ts f))).int (A := A) _ _ ?_ .i64
    simp [msks, mN, hk]
  have i0 := hidx 0
  have i1 := hidx 62
  have g1 := frz_slA [] 1 1 (intsA (msks open_ ts 0))
  obtain ⟨low, hlow⟩ : ∃ x, x = slA 1 (intsA (msks open_ ts 0)) := ⟨_, rfl⟩
  obtain ⟨high, hhigh⟩ : ∃ x, x = slA 1 (intsA (msks open_ ts 62)) := ⟨_, rfl⟩
  rw [← hlow] at m3 i0
  rw [← hhigh] at m4 i1
  have c0 : cntM open_ 0 = min open_.length 62 := by unfold cntM; omega
  have c1 : cntM open_ 62 = open_.length - 62 := by unfold cntM; omega
  have b1 : evMinL false (.int .i64 (open_.length : Int)) [.int .i64 62] = some (.int .i64 (cntM open_ 0 : Int)) := by
    have := min2_nat open_.length 62 .i64 .i64
    rw [c0]
    simp only [evMinL]
    rw [show (62 : Int) = ((62 : Nat) : Int) from rfl, this]
  have b2 := shl_i64 (cntM open_ 0) (by omega)
  have p1 := Nat.two_pow_pos (cntM open_ 0)
  have p2 : 2 ^ cntM open_ 0 ≤ 2 ^ 62 := Nat.pow_le_pow_right (by omega) (by omega)
  have p3 := Nat.two_pow_pos (cntM open_ 62)
  have p4 : 2 ^ cntM open_ 62 ≤ 2 ^ 62 := Nat.pow_le_pow_right (by omega) (by omega)
  have sub1 : ∀ x : Nat, 0 < x → x ≤ 2 ^ 62 → evBin .sub (.int .i64 (x : Int)) (.int .i64 1) = some (.int .i64 ((x - 1 : Nat) : Int)) := fun x hx1 hx2 => by
    simp only [evBin]; rw [if_pos trivial, wrapI (by unfold inI; omega)]; congr 2; omega
  have b3 := sub1 _ p1 p2
  have b4 : evBin .sub (.int .i64 (open_.length : Int)) (.int .i64 62) = some (.int .i64 ((open_.length : Int) - 62)) := by
    simp only [evBin]; rw [if_pos trivial, wrapI (by unfold inI; omega)]
  have b5 : evMinL true (.int .i64 ((open_.length : Int) - 62)) [.int .i64 0] = some (.int .i64 (cntM open_ 62 : Int)) := by
    rw [c1]
    simp only [evMinL, evMin2, if_true]
    congr 2
    split <;> omega
  have b6 := shl_i64 (cntM open_ 62) (by omega)
  have b7 := sub1 _ p3 p4
  have h0 : Fz [.row 1 false []] (.sl 0 0 0) (bestA (bestTo open_ ts 0)) := fun T n => by simp [frz, bestTo, bestA]
  obtain ⟨A', v8, h8, lp⟩ := loop16 hll h16 h100 i0 i1 (2 ^ ts.length) 0 70000 [.row 1 false []] (.sl 0 0 0) (by omega) (by
    have : 2 ^ ts.length ≤ 2 ^ 16 := Nat.pow_le_pow_right (by omega) h16
    omega) h0
  rw [bestTo_fewest open_ ts (by omega)] at h8 lp
  have q := h8.here 0
  have lp : iter (evC (envOf GI fs16) 70000 lp16x1) mask16x1 70000 (st16x1 l low high (.int .i64 ((2 ^ cntM open_ 0 - 1 : Nat) : Int)) (.int .i64 ((2 ^ cntM open_ 62 - 1 : Nat) : Int)) (.sl 0 0 0) (.bool false) (.int .i64 0)) [.row 1 false []] = _ := lp
  obtain ⟨is, his⟩ : ∃ is, is = (fewest open_ ts).isSome := ⟨_, rfl⟩
  obtain ⟨r, hr⟩ : ∃ r, r = bestA (fewest open_ ts) := ⟨_, rfl⟩
  rw [← his] at lp ⊢
  rw [← hr] at q ⊢
  obtain ⟨x1, hx1⟩ : ∃ x, x = 2 ^ cntM open_ 0 - 1 := ⟨_, rfl⟩
  obtain ⟨x2, hx2⟩ : ∃ x, x = 2 ^ cntM open_ 62 - 1 := ⟨_, rfl⟩
  rw [← hx1] at b3 lp
  rw [← hx2] at b7 lp
  obtain ⟨y1, hy1⟩ : ∃ x, x = 2 ^ cntM open_ 0 := ⟨_, rfl⟩
  obtain ⟨y2, hy2⟩ : ∃ x, x = 2 ^ cntM open_ 62 := ⟨_, rfl⟩
  rw [← hy1] at b2 b3
  rw [← hy2] at b6 b7
  obtain ⟨z1, hz1⟩ : ∃ x, x = cntM open_ 0 := ⟨_, rfl⟩
  obtain ⟨z2, hz2⟩ : ∃ x, x = cntM open_ 62 := ⟨_, rfl⟩
  rw [← hz1] at b1 b2
  rw [← hz2] at b5 b6
  obtain ⟨P, hP⟩ : ∃ P, P = 2 ^ ts.length := ⟨_, rfl⟩
  rw [← hP] at lp
  simp [mf16, f1, f2, f3, f4, m1, m2, m3, m4, hla, b1, b2, b3, b4, b5, b6, b7, go16x1 lp, frz, -evBin, -evLenSl, -evMinL]
  exact q
noncomputable def M16 : PModel := fun args => match args with
  | [a, l] => match intsOf a, testsOf l with
    | some open_, some ts => some (fewR2 open_ ts)
    | _, _ => none
  | _ => none
theorem spec16 : PureSpec Tryd.prog GI 16 M16 := by
  refine PureSpec.of_ev (E := envOf GI fs16) (envOf_sound sound16) rfl at16 comp16 2 ?_
  intro args r h
  unfold M16 at h
  split at h
  · split at h
    · rename_i h1 h2
      injection h with h; subst h
      exact ⟨_, ev16 h1 h2⟩
    · cases h
  · cases h
end Go.Proofs.YtkdjebioapholaaDoor
/-
  Inspect: the reference's Bound.
-/
namespace Go.Proofs.YtkdjebioapholaaDoor
open Go

def rowB (U : Nat → Bool) (n : Nat) : List AV := (List.range n).map fun j => .bool (U j)
theorem rowB_at (U : Nat → Bool) {n k : Nat} (h : k < n) : (rowB U n)[k]? = some (.bool (U k)) := by simp [rowB, h]
theorem rowB_congr {U V : Nat → Bool} {n : Nat} (h : ∀ j, j < n → U j = V j) : rowB U n = rowB V n := by
  unfold rowB
  apply List.map_congr_left
  intro j hj
  rw [h j (List.mem_range.1 hj)]
theorem rowB_set (U : Nat → Bool) (n k : Nat) (b : Bool) : (rowB U n).set k (.bool b) = rowB (fun j => if j = k then b else U j) n := by
  apply List.ext_getElem?
  intro i
  by_cases hi : k = i
  · subst hi
    by_cases hk : k < n
    · rw [List.getElem?_set_self (by simpa [rowB] using hk), rowB_at _ hk, if_pos rfl]
    · rw [List.getElem?_eq_none (by simpa [rowB] using hk), List.getElem?_eq_none (by simpa [rowB] using hk)]
  · rw [List.getElem?_set_ne hi]
    by_cases hk : i < n
    · rw [rowB_at _ hk, rowB_at _ hk, if_neg (fun e => hi e.symm)]
    · rw [List.getElem?_eq_none (by simpa [rowB] using hk), List.getElem?_eq_none (by simpa [rowB] using hk)]
theorem rowB_rep (n : Nat) : List.replicate n (AV.bool false) = rowB (fun j => (0 : Nat).testBit j) n := by
  apply List.ext_getElem?
  intro i
  by_cases hk : i < n
  · rw [rowB_at _ hk]; simp [hk]
  · rw [List.getElem?_eq_none (by simpa using hk), List.getElem?_eq_none (by simpa [rowB] using hk)]

open Classical in
noncomputable def hasT (ts : List (List Int)) (w : Int) (k : Nat) : Bool := decide (w ∈ ts.getD k [])
def tkTo (H : Nat → Bool) : Nat → Bool
  | 0 => false
  | k + 1 => if H k = true then true else tkTo H k
def clTo (H U : Nat → Bool) : Nat → Bool
  | 0 => false
  | k + 1 => if H k = true then (clTo H U k || U k) else clTo H U k
theorem tkTo_iff (H : Nat → Bool) : ∀ n, tkTo H n = true ↔ ∃ k, k < n ∧ H k = true
  | 0 => by simp [tkTo]
  | n + 1 => by
    have ih := tkTo_iff H n
    unfold tkTo
    split
    · rename_i h
      exact ⟨fun _ => ⟨n, by omega, h⟩, fun _ => rfl⟩
    · rename_i h
      rw [ih]
      constructor
      · rintro ⟨k, h1, h2⟩; exact ⟨k, by omega, h2⟩
      · rintro ⟨k, h1, h2⟩
        refine ⟨k, ?_, h2⟩
        by_cases hk : k = n
        · subst hk; exact absurd h2 h
        · omega
theorem clTo_iff (H U : Nat → Bool) : ∀ n, clTo H U n = true ↔ ∃ k, k < n ∧ H k = true ∧ U k = true
  | 0 => by simp [clTo]
  | n + 1 => by
    have ih := clTo_iff H U n
    unfold clTo
    split
    · rename_i h
      rw [Bool.or_eq_true, ih]
      constructor
      · rintro (⟨k, h1, h2⟩ | h2)
        · exact ⟨k, by omega, h2⟩
        · exact ⟨n, by omega, h, h2⟩
      · rintro ⟨k, h1, h2, h3⟩
        by_cases hk : k = n
        · subst hk; exact .inr h3
        · exact .inl ⟨k, by omega, h2, h3⟩
    · rename_i h
      rw [ih]
      constructor
      · rintro ⟨k, h1, h2⟩; exact ⟨k, by omega, h2⟩
      · rintro ⟨k, h1, h2⟩
        refine ⟨k, ?_, h2⟩
        by_cases hk : k = n
        · subst hk; exact absurd h2.1 h
        · omega

noncomputable def fs23 : List (FuncId × HModel) := [(31, pureH 4 M36), (18, pureH 4 M17), (37, pureH 4 M37)]
@[simp] theorem fs23_31 : lookM fs23 31 = some (pureH 4 M36) := rfl
@[simp] theorem fs23_18 : lookM fs23 18 = some (pureH 4 M17) := rfl
@[simp] theorem fs23_37 : lookM fs23 37 = some (pureH 4 M37) := rfl
theorem sound23 : ∀ f M, lookM fs23 f = some M → FnSpecY Tryd.prog GI f M := lookM_cons (FnSpecY.of_pure spec31 4) (lookM_cons (FnSpecY.of_pure spec18 4) (lookM_cons (FnSpecY.of_pure spec37 4) lookM_nil))

set_option maxRecDepth 100000 in
theorem round23a (fuel : Nat) {a l o : AV} {open_ : List Int} {ts : List (List Int)} (ha : SlA 1 (intsA open_) a) (hl : testsOf l = some ts) (hm2 : ts.length ≤ 16) (U : Nat → Bool) (R : Arena) {i k : Nat} (hi : i < open_.length) (hk : k < ts.length) :
    run (envOf GI fs23) fuel [.code lp23x0] (st23x0 a l (.sl 0 0 ts.length) o (.int .i64 (i : Int)) (.bool (tkTo (hasT ts open_[i]) k)) (.bool (clTo (hasT ts open_[i]) U k)) (.int .i64 (k : Int))) (.row 1 false (rowB U ts.length) :: R) =
      some (.normal (st23x0 a l (.sl 0 0 ts.length) o (.int .i64 (i : Int)) (.bool (tkTo (hasT ts open_[i]) (k + 1))) (.bool (clTo (hasT ts open_[i]) U (k + 1))) (.int .i64 ((k + 1 : Nat) : Int))) (.row 1 false (rowB U ts.length) :: R)) := by
  have hll := (testsOf_len hl).1
  obtain ⟨s, hs, x2⟩ := testsOf_at hl hk
  have x2 := x2 (.row 1 false (rowB U ts.length) :: R) .i64
  have x1 := ha.int (A := .row 1 false (rowB U ts.length) :: R) _ _ (List.getElem?_eq_getElem hi) .i64
  have hfz := intsOf_frz hs
  have m : M37 [s, .int .i64 open_[i]] = some (.bool (hasT ts open_[i] k)) := by
    simp only [M37, hs, Option.map_some, hasT]
    rw [show ts.getD k [] = ts[k] by simp [hk]]
  have b1 := lt_nat k ts.length .i64
  rw [decide_eq_true hk] at b1
  have b4 := add1_nat k (by omega)
  have r1 := rowB_at U hk
  have x3 : evIndexSl 1 (.row 1 false (rowB U ts.length) :: R) (.sl 0 0 ts.length) (.int .i64 (k : Int)) = some (.ptr 0 k 0) := by
    simp [evIndexSl, hk]
  have e1 : tkTo (hasT ts open_[i]) (k + 1) = if hasT ts open_[i] k = true then true else tkTo (hasT ts open_[i]) k := rfl
  have e2 : clTo (hasT ts open_[i]) U (k + 1) = if hasT ts open_[i] k = true then (clTo (hasT ts open_[i]) U k || U k) else clTo (hasT ts open_[i]) U k := rfl
  rw [e1, e2]
  obtain ⟨h, hh⟩ : ∃ h, h = hasT ts open_[i] k := ⟨_, rfl⟩
  rw [← hh] at m ⊢
  obtain ⟨t, ht⟩ : ∃ t, t = tkTo (hasT ts open_[i]) k := ⟨_, rfl⟩
  obtain ⟨c, hc⟩ : ∃ c, c = clTo (hasT ts open_[i]) U k := ⟨_, rfl⟩
  rw [← ht, ← hc]
  obtain ⟨w, hw⟩ : ∃ w, w = open_[i] := ⟨_, rfl⟩
  rw [← hw] at x1 m
  obtain ⟨es, hes⟩ : ∃ es, es = rowB U ts.length := ⟨_, rfl⟩
  rw [← hes] at x1 x2 x3 r1 ⊢
  obtain ⟨k1, hk1⟩ : ∃ k1, k1 = k + 1 := ⟨_, rfl⟩
  rw [← hk1] at b4 ⊢
  cases h with
  | false =>
    simp [lp23x0, hll, b1, b4, x1, x2, hfz, m, -evBin, -evIndexSl, -evLenSl]
  | true =>
    cases c with
    | true => simp [lp23x0, hll, b1, b4, x1, x2, hfz, m, -evBin, -evIndexSl, -evLenSl]
    | false => simp [lp23x0, hll, b1, b4, x1, x2, x3, r1, hfz, m, -evBin, -evIndexSl, -evLenSl]

def mixU (H U : Nat → Bool) (k j : Nat) : Bool := if j < k then U j || H j else U j
theorem mix_set (H U : Nat → Bool) (n k : Nat) : (rowB (mixU H U k) n).set k (.bool (U k || H k)) = rowB (mixU H U (k + 1)) n := by
  rw [rowB_set]
  apply rowB_congr
  intro j _
  unfold mixU
  by_cases h : j = k
  · subst h
    rw [if_pos rfl, if_pos (by omega)]
  · rw [if_neg h]
    by_cases h2 : j < k
    · rw [if_pos h2, if_pos (by omega)]
    · rw [if_neg h2, if_neg (by omega)]

set_option maxRecDepth 100000 in
theorem round23b (fuel : Nat) {a l o : AV} {open_ : List Int} {ts : List (List Int)} (ha : SlA 1 (intsA open_) a) (hl : testsOf l = some ts) (hm2 : ts.length ≤ 16) (U : Nat → Bool) (R : Arena) {i k : Nat} (hi : i < open_.length) (hk : k < ts.length) :
    run (envOf GI fs23) fuel [.code lp23x1] (st23x1 a l (.sl 0 0 ts.length) o (.int .i64 (i : Int)) (.int .i64 (k : Int))) (.row 1 false (rowB (mixU (hasT ts open_[i]) U k) ts.length) :: R) =
      some (.normal (st23x1 a l (.sl 0 0 ts.length) o (.int .i64 (i : Int)) (.int .i64 ((k + 1 : Nat) : Int))) (.row 1 false (rowB (mixU (hasT ts open_[i]) U (k + 1)) ts.length) :: R)) := by
  have hll := (testsOf_len hl).1
  obtain ⟨s, hs, x2⟩ := testsOf_at hl hk
  rw [← mix_set]
  have r1 := rowB_at (mixU (hasT ts open_[i]) U k) hk
  rw [show mixU (hasT ts open_[i]) U k k = U k by unfold mixU; rw [if_neg (by omega)]] at r1
  have hlen : (rowB (mixU (hasT ts open_[i]) U k) ts.length).length = ts.length := by simp [rowB]
  have hfz := intsOf_frz hs
  have m : M37 [s, .int .i64 open_[i]] = some (.bool (hasT ts open_[i] k)) := by
    simp only [M37, hs, Option.map_some, hasT]
    rw [show ts.getD k [] = ts[k] by simp [hk]]
  obtain ⟨h, hh⟩ : ∃ h, h = hasT ts open_[i] k := ⟨_, rfl⟩
  rw [← hh] at m ⊢
  obtain ⟨es, hes⟩ : ∃ es, es = rowB (mixU (hasT ts open_[i]) U k) ts.length := ⟨_, rfl⟩
  rw [← hes] at r1 hlen ⊢
  have x2 := x2 (.row 1 false es :: R) .i64
  have x1 := ha.int (A := .row 1 false es :: R) _ _ (List.getElem?_eq_getElem hi) .i64
  have b1 := lt_nat k ts.length .i64
  rw [decide_eq_true hk] at b1
  have b4 := add1_nat k (by omega)
  have x3 : evIndexSl 1 (.row 1 false es :: R) (.sl 0 0 ts.length) (.int .i64 (k : Int)) = some (.ptr 0 k 0) := by
    simp [evIndexSl, hk]
  have hke : k < es.length := by omega
  have r2 : es[k] = .bool (U k) := by rw [List.getElem?_eq_getElem hke] at r1; injection r1
  obtain ⟨w, hw⟩ : ∃ w, w = open_[i] := ⟨_, rfl⟩
  rw [← hw] at x1 m
  obtain ⟨u, hu⟩ : ∃ u, u = U k := ⟨_, rfl⟩
  rw [← hu] at r1 r2 ⊢
  obtain ⟨k1, hk1⟩ : ∃ k1, k1 = k + 1 := ⟨_, rfl⟩
  rw [← hk1] at b4 ⊢
  cases u with
  | true => simp [lp23x1, hll, b1, b4, x1, x2, x3, r2, hfz, m, hke, -evBin, -evIndexSl, -evLenSl]
  | false => simp [lp23x1, hll, b1, b4, x1, x2, x3, r2, hfz, m, hke, -evBin, -evIndexSl, -evLenSl]
end Go.Proofs.YtkdjebioapholaaDoor
/-
  Inspect: the reference's Bound, whole.
-/
namespace Go.Proofs.YtkdjebioapholaaDoor
open Go

/-- the rows behind the first -/
def tailA (es : List AV) : Arena := match es with | [] => [] | [x] => [.row 1 false [x]] | _ :: _ :: _ => [.row 1 true es]
theorem aA_tail (r : Ent) (es : List AV) : aA [r] 1 es = r :: tailA es := by
  match es with
  | [] => rfl
  | [x] => rfl
  | x :: y :: r => rfl
theorem oA_same {A B : Arena} (h : A.length = B.length) (es : List AV) : oA A es = oA B es := by
  match es with
  | [] => rfl
  | x :: r => simp only [oA, h]

theorem oA_one (r : Ent) (es : List AV) : oA [r] es = oA [.dead] es := oA_same rfl es
theorem take_mask (ts : List (List Int)) (w : Int) : tkTo (hasT ts w) ts.length = decide (maskTo ts w ts.length ≠ 0) := by
  rw [Bool.eq_iff_iff, tkTo_iff, decide_eq_true_eq]
  constructor
  · rintro ⟨k, h1, h2⟩ h0
    have := maskTo_bit ts w ts.length k
    rw [h0, Nat.zero_testBit] at this
    have := (decide_eq_false_iff_not.1 this.symm)
    exact this ⟨h1, by simpa [hasT] using h2⟩
  · intro h
    obtain ⟨k, hk⟩ := Nat.exists_testBit_of_ne_zero h
    rw [maskTo_bit, decide_eq_true_eq] at hk
    exact ⟨k, hk.1, by simpa [hasT] using hk.2⟩
theorem clash_mask (ts : List (List Int)) (w : Int) (u : Nat) : clTo (hasT ts w) (fun j => u.testBit j) ts.length = decide (maskTo ts w ts.length &&& u ≠ 0) := by
  rw [Bool.eq_iff_iff, clTo_iff, decide_eq_true_eq, and_ne]
  constructor
  · rintro ⟨k, h1, h2, h3⟩
    refine ⟨k, ?_, h3⟩
    rw [maskTo_bit, decide_eq_true_eq]
    exact ⟨h1, by simpa [hasT] using h2⟩
  · rintro ⟨k, h1, h2⟩
    rw [maskTo_bit, decide_eq_true_eq] at h1
    exact ⟨k, h1.1, by simpa [hasT] using h1.2, h2⟩
theorem mix_mask (ts : List (List Int)) (w : Int) (u : Nat) : rowB (mixU (hasT ts w) (fun j => u.testBit j) ts.length) ts.length = rowB (fun j => (u ||| maskTo ts w ts.length).testBit j) ts.length := by
  apply rowB_congr
  intro j hj
  unfold mixU
  rw [if_pos hj, Nat.testBit_or, maskTo_bit]
  congr 1
  unfold hasT
  rw [Bool.eq_iff_iff, decide_eq_true_eq, decide_eq_true_eq]
  exact ⟨fun h => ⟨hj, h⟩, fun h => h.2⟩

/-- the arena behind the first i open wafers -/
def arB (n u : Nat) (out : List Int) : Arena := .row 1 false (rowB (fun j => u.testBit j) n) :: tailA (intsA out)

set_option maxRecDepth 100000 in
set_option maxHeartbeats 1000000 in
theorem round23c {a l : AV} {open_ : List Int} {ts : List (List Int)} (ha : SlA 1 (intsA open_) a) (hl : testsOf l = some ts) (hm : open_.length ≤ 100) (hm2 : ts.length ≤ 16) {i : Nat} (hi : i < open_.length) :
    run (envOf GI fs23) 200 [.code lp23x2] (st23x2 a l (.sl 0 0 ts.length) (oA [.dead] (intsA (bndS (fun w => maskTo ts w ts.length) open_ i).2)) (.int .i64 (i : Int))) (arB ts.length (bndS (fun w => maskTo ts w ts.length) open_ i).1 (bndS (fun w => maskTo ts w ts.length) open_ i).2) =
      some (.normal (st23x2 a l (.sl 0 0 ts.length) (oA [.dead] (intsA (bndS (fun w => maskTo ts w ts.length) open_ (i + 1)).2)) (.int .i64 ((i + 1 : Nat) : Int))) (arB ts.length (bndS (fun w => maskTo ts w ts.length) open_ (i + 1)).1 (bndS (fun w => maskTo ts w ts.length) open_ (i + 1)).2)) := by
  have hla := ha.len
  simp only [intsA, List.length_map] at hla
  have hll := (testsOf_len hl).1
  have hml : ∀ w, maskTo ts w ts.length < 2 ^ 17 := fun w => Nat.lt_of_lt_of_le (maskTo_lt ts w _) (Nat.pow_le_pow_right (by omega) (by omega))
  have hb2 := (bndS_lt hml open_ i).2
  have hstep : bndS (fun w => maskTo ts w ts.length) open_ (i + 1) = if maskTo ts open_[i] ts.length ≠ 0 ∧ maskTo ts open_[i] ts.length &&& (bndS (fun w => maskTo ts w ts.length) open_ i).1 = 0 then ((bndS (fun w => maskTo ts w ts.length) open_ i).1 ||| maskTo ts open_[i] ts.length, (bndS (fun w => maskTo ts w ts.length) open_ i).2 ++ [open_[i]]) else bndS (fun w => maskTo ts w ts.length) open_ i := by
    simp only [bndS, List.getD_eq_getElem?_getD, List.getElem?_eq_getElem hi, Option.getD_some]
  rw [hstep]
  obtain ⟨out, hout⟩ : ∃ out, out = (bndS (fun w => maskTo ts w ts.length) open_ i).2 := ⟨_, rfl⟩
  obtain ⟨u, hu⟩ : ∃ u, u = (bndS (fun w => maskTo ts w ts.length) open_ i).1 := ⟨_, rfl⟩
  have hpair : bndS (fun w => maskTo ts w ts.length) open_ i = (u, out) := by rw [hu, hout]
  rw [hpair]
  rw [← hout] at hb2
  simp only []
  have tk := take_mask ts open_[i]
  have cl := clash_mask ts open_[i] u
  have mx := mix_mask ts open_[i] u
  have b1 := lt_nat i open_.length .i64
  rw [decide_eq_true hi] at b1
  have b4 := add1_nat i (by omega)
  have lpa : ∀ o, iter (evC (envOf GI fs23) 200 lp23x0) mask23x0 200 (st23x0 a l (.sl 0 0 ts.length) o (.int .i64 (i : Int)) (.bool false) (.bool false) (.int .i64 0)) (arB ts.length u out) =
      some (.exit 2 ((st23x0 a l (.sl 0 0 ts.length) o (.int .i64 (i : Int)) (.bool (tkTo (hasT ts open_[i]) ts.length)) (.bool (clTo (hasT ts open_[i]) (fun j => u.testBit j) ts.length)) (.int .i64 (ts.length : Int))).set 12 (.bool false)) (arB ts.length u out)) := fun o => by
    have h := iter_up (E := envOf GI fs23) (fuel := 200) (a := lp23x0) (mask := mask23x0) (fun k => st23x0 a l (.sl 0 0 ts.length) o (.int .i64 (i : Int)) (.bool (tkTo (hasT ts open_[i]) k)) (.bool (clTo (hasT ts open_[i]) (fun j => u.testBit j) k)) (.int .i64 (k : Int))) (fun _ => arB ts.length u out) ts.length
      (o := .exit 2 ((st23x0 a l (.sl 0 0 ts.length) o (.int .i64 (i : Int)) (.bool (tkTo (hasT ts open_[i]) ts.length)) (.bool (clTo (hasT ts open_[i]) (fun j => u.testBit j) ts.length)) (.int .i64 (ts.length : Int))).set 12 (.bool false)) (arB ts.length u out))
      (fun _ => cl23x0) (fun _ _ h => by cases h) (fun k hk => round23a 200 ha hl hm2 _ _ hi hk) (by simp [lp23x0, hll, -evLenSl]) (show ts.length < 200 by omega)
    exact h
  rw [tk, cl] at lpa
  have lpb : ∀ o out', iter (evC (envOf GI fs23) 200 lp23x1) mask23x1 200 (st23x1 a l (.sl 0 0 ts.length) o (.int .i64 (i : Int)) (.int .i64 0)) (arB ts.length u out') =
      some (.exit 4 ((st23x1 a l (.sl 0 0 ts.length) o (.int .i64 (i : Int)) (.int .i64 (ts.length : Int))).set 15 (.bool false)) (arB ts.length (u ||| maskTo ts open_[i] ts.length) out')) := fun o out' => by
    have h := iter_up (E := envOf GI fs23) (fuel := 200) (a := lp23x1) (mask := mask23x1) (fun k => st23x1 a l (.sl 0 0 ts.length) o (.int .i64 (i : Int)) (.int .i64 (k : Int))) (fun k => .row 1 false (rowB (mixU (hasT ts open_[i]) (fun j => u.testBit j) k) ts.length) :: tailA (intsA out')) ts.length
      (o := .exit 4 ((st23x1 a l (.sl 0 0 ts.length) o (.int .i64 (i : Int)) (.int .i64 (ts.length : Int))).set 15 (.bool false)) (arB ts.length (u ||| maskTo ts open_[i] ts.length) out'))
      (fun _ => cl23x1) (fun _ _ h => by cases h) (fun k hk => round23b 200 ha hl hm2 _ _ hi hk) (by rw [mx]; simp [lp23x1, hll, arB, -evLenSl]) (show ts.length < 200 by omega)
    have e : rowB (mixU (hasT ts open_[i]) (fun j => u.testBit j) 0) ts.length = rowB (fun j => u.testBit j) ts.length := by
      apply rowB_congr; intro j _; unfold mixU; rw [if_neg (by omega)]
    rw [e] at h
    exact h
  have ap := append1 (A := [.row 1 false (rowB (fun j => u.testBit j) ts.length)]) (esz := 1) (bytes := 8) (es := intsA out) (.int .i64 open_[i]) (by omega) (by omega) (by simp only [intsA, List.length_map]; omega)
  rw [aA_tail, aA_tail, oA_one (.row 1 false (rowB (fun j => u.testBit j) ts.length)), oA_one (.row 1 false (rowB (fun j => u.testBit j) ts.length))] at ap
  have eo : intsA out ++ [.int .i64 open_[i]] = intsA (out ++ [open_[i]]) := by simp [intsA]
  rw [eo] at ap
  have ap : evAppend 1 8 (arB ts.length u out) (oA [.dead] (intsA out)) (.fs 1 [.int .i64 open_[i]]) = some (oA [.dead] (intsA (out ++ [open_[i]])), arB ts.length u (out ++ [open_[i]])) := ap
  have x1 := ha.int (A := arB ts.length u out) _ _ (List.getElem?_eq_getElem hi) .i64
  obtain ⟨o, ho⟩ : ∃ o, o = oA [.dead] (intsA out) := ⟨_, rfl⟩
  obtain ⟨o', ho'⟩ : ∃ o, o = oA [.dead] (intsA (out ++ [open_[i]])) := ⟨_, rfl⟩
  have lpa := lpa o
  have lpb := lpb o' (out ++ [open_[i]])
  obtain ⟨A, hA⟩ : ∃ A, A = arB ts.length u out := ⟨_, rfl⟩
  obtain ⟨A', hA'⟩ : ∃ A, A = arB ts.length u (out ++ [open_[i]]) := ⟨_, rfl⟩
  rw [← ho, ← ho', ← hA, ← hA'] at ap
  rw [← hA] at x1 lpa
  rw [← hA'] at lpb
  obtain ⟨mw, hmw⟩ : ∃ mw, mw = maskTo ts open_[i] ts.length := ⟨_, rfl⟩
  rw [← hmw] at lpa lpb ⊢
  obtain ⟨A2, hA2⟩ : ∃ A, A = arB ts.length (u ||| mw) (out ++ [open_[i]]) := ⟨_, rfl⟩
  rw [← hA2] at lpb
  obtain ⟨i1, hi1⟩ : ∃ i1, i1 = i + 1 := ⟨_, rfl⟩
  rw [← hi1] at b4 ⊢
  obtain ⟨w, hw⟩ : ∃ w, w = open_[i] := ⟨_, rfl⟩
  by_cases h1 : mw ≠ 0
  · rw [decide_eq_true h1] at lpa
    by_cases h2 : mw &&& u = 0
    · rw [if_pos ⟨h1, h2⟩]
      rw [decide_eq_false (by omega)] at lpa
      simp only []
      rw [← ho', ← hA2, ← ho, ← hA]
      rw [← hw] at x1 ap
      simp [lp23x2, hla, b1, b4, x1, ap, go23x0 lpa, go23x1 lpb, -evBin, -evIndexSl, -evLenSl]
    · rw [if_neg (fun h => h2 h.2)]
      rw [decide_eq_true (by omega)] at lpa
      simp only []
      rw [← ho, ← hA]
      simp [lp23x2, hla, b1, b4, go23x0 lpa, -evBin, -evIndexSl, -evLenSl]
  · rw [if_neg (fun h => h1 h.1)]
    rw [decide_eq_false h1] at lpa
    simp only []
    rw [← ho, ← hA]
    obtain ⟨c, hc⟩ : ∃ c, c = decide (mw &&& u ≠ 0) := ⟨_, rfl⟩
    rw [← hc] at lpa
    simp [lp23x2, hla, b1, b4, go23x0 lpa, -evBin, -evIndexSl, -evLenSl]

open Classical in
set_option maxRecDepth 100000 in
theorem ev23 {a l : AV} {open_ : List Int} {ts : List (List Int)} (ha : intsOf a = some open_) (hl : testsOf l = some ts) :
    evP (envOf GI fs23) 200 mf23 1 [a, l] = some (if Good open_ ∧ GoodT ts then slA 1 (intsA (bnd open_ ts)) else .nilS) := by
  obtain ⟨ha1, ha2, ha3⟩ := intsOf_some ha
  have hla := ha1.len
  simp only [List.length_map] at hla
  have hll := (testsOf_len hl).1
  have f1 := intsOf_frz ha
  have f2 := testsOf_frz hl
  have f3 := intsOf_noRef ha
  have f4 := testsOf_noRef hl
  have m1 : M36 [a] = some (.bool (decide (Good open_))) := by simp only [M36, ha, Option.map_some]
  have m2 : M17 [l] = some (.bool (decide (GoodT ts))) := by simp only [M17, hl, Option.map_some]
  rw [evP_run _ _ rfl]
  by_cases h1 : Good open_
  rotate_left
  · rw [decide_eq_false h1] at m1
    rw [if_neg (fun h => h1 h.1)]
    simp [mf23, f1, f2, f3, f4, m1, frz, -evLenSl]
  rw [decide_eq_true h1] at m1
  by_cases h2 : GoodT ts
  rotate_left
  · rw [decide_eq_false h2] at m2
    rw [if_neg (fun h => h2 h.2)]
    simp [mf23, f1, f2, f3, f4, m1, m2, frz, -evLenSl]
  rw [decide_eq_true h2] at m2
  rw [if_pos ⟨h1, h2⟩]
  have h100 := h1.1
  have h16 := h2.1
  have lp : iter (evC (envOf GI fs23) 200 lp23x2) mask23x2 200 (st23x2 a l (.sl 0 0 ts.length) .nilS (.int .i64 0)) [.row 1 false (List.replicate ts.length (.bool false))] =
      some (.exit 0 ((st23x2 a l (.sl 0 0 ts.length) (oA [.dead] (intsA (bnd open_ ts))) (.int .i64 (open_.length : Int))).set 11 (.bool false)) (arB ts.length (bndS (fun w => maskTo ts w ts.length) open_ open_.length).1 (bnd open_ ts))) := by
    have h := iter_up (E := envOf GI fs23) (fuel := 200) (a := lp23x2) (mask := mask23x2) (fun i => st23x2 a l (.sl 0 0 ts.length) (oA [.dead] (intsA (bndS (fun w => maskTo ts w ts.length) open_ i).2)) (.int .i64 (i : Int))) (fun i => arB ts.length (bndS (fun w => maskTo ts w ts.length) open_ i).1 (bndS (fun w => maskTo ts w ts.length) open_ i).2) open_.length
      (o := .exit 0 ((st23x2 a l (.sl 0 0 ts.length) (oA [.dead] (intsA (bnd open_ ts))) (.int .i64 (open_.length : Int))).set 11 (.bool false)) (arB ts.length (bndS (fun w => maskTo ts w ts.length) open_ open_.length).1 (bnd open_ ts)))
      (fun _ => cl23x2) (fun _ _ h => by cases h) (fun i hi => round23c ha1 hl h100 h16 hi) (by simp [lp23x2, hla, bnd, -evLenSl]) (show open_.length < 200 by omega)
    have e : [Ent.row 1 false (List.replicate ts.length (AV.bool false))] = arB ts.length 0 [] := by rw [rowB_rep]; rfl
    rw [e]
    exact h
  have hfz := Fz_oA [.row 1 false (rowB (fun j => (bndS (fun w => maskTo ts w ts.length) open_ open_.length).1.testBit j) ts.length)] (bnd open_ ts)
  rw [aA_tail, oA_one (.row 1 false _)] at hfz
  have q := hfz.here 0
  have q : frz (arB ts.length (bndS (fun w => maskTo ts w ts.length) open_ open_.length).1 (bnd open_ ts)) 1 (oA [.dead] (intsA (bnd open_ ts))) = slA 1 (intsA (bnd open_ ts)) := q
  have mk : evMake 1 1 (.bool false) [] (.int .i64 (ts.length : Int)) (.int .i64 (ts.length : Int)) = some (.sl 0 0 ts.length, [.row 1 false (List.replicate ts.length (.bool false))]) := by
    simp [evMake]; omega
  obtain ⟨o, ho⟩ : ∃ o, o = oA [.dead] (intsA (bnd open_ ts)) := ⟨_, rfl⟩
  obtain ⟨Z, hZ⟩ : ∃ Z, Z = arB ts.length (bndS (fun w => maskTo ts w ts.length) open_ open_.length).1 (bnd open_ ts) := ⟨_, rfl⟩
  rw [← ho, ← hZ] at lp q
  obtain ⟨r, hr⟩ : ∃ r, r = slA 1 (intsA (bnd open_ ts)) := ⟨_, rfl⟩
  rw [← hr] at q ⊢
  simp [mf23, f1, f2, f3, f4, m1, m2, hll, mk, go23x2 lp, q, -evBin, -evLenSl, -evMake]
open Classical in
noncomputable def M23 : PModel := fun args => match args with
  | [a, l] => match intsOf a, testsOf l with
    | some open_, some ts => some (if Good open_ ∧ GoodT ts then slA 1 (intsA (bnd open_ ts)) else .nilS)
    | _, _ => none
  | _ => none
theorem spec23 : PureSpec Tryd.prog GI 23 M23 := by
  refine PureSpec.of_ev (E := envOf GI fs23) (envOf_sound sound23) rfl at23 comp23 1 ?_
  intro args r h
  unfold M23 at h
  split at h
  · split at h
    · rename_i h1 h2
      injection h with h; subst h
      exact ⟨_, ev23 h1 h2⟩
    · cases h
  · cases h
end Go.Proofs.YtkdjebioapholaaDoor
/-
  Inspect: the fixed examples.
-/
namespace Go.Proofs.YtkdjebioapholaaDoor
open Go

def tsX : List (List Int) := [[1, 2], [2, 3], [3, 4], [1, 4]]
def i8 (z : Int) : AV := .int .i64 z
def lX : AV := .fs 1 [.agg [.fs 1 [.int .i64 1, .int .i64 2]], .agg [.fs 1 [.int .i64 2, .int .i64 3]], .agg [.fs 1 [.int .i64 3, .int .i64 4]], .agg [.fs 1 [.int .i64 1, .int .i64 4]]]
theorem testsX : testsOf lX = some tsX := by
  show testsOf (testsA tsX) = _
  refine testsOf_testsA (by decide) fun t ht => ?_
  simp only [tsX, List.mem_cons, List.not_mem_nil, or_false] at ht
  rcases ht with rfl | rfl | rfl | rfl <;> refine ⟨by decide, fun z hz => ?_⟩ <;> simp only [List.mem_cons, List.not_mem_nil, or_false] at hz <;> unfold inI <;> omega
theorem decB_eq (open_ : List Int) (ts : List (List Int)) (ch : List Int) : decL open_ ts ch = open_.all fun w => ch.any fun k => (ts.getD k.toNat []).contains w := by
  unfold decL
  rw [Bool.eq_iff_iff, decide_eq_true_eq]
  simp [List.all_eq_true]
theorem all4 : allL 4 = [[], [0], [1], [2], [3], [0, 1], [0, 2], [0, 3], [1, 2], [1, 3], [2, 3], [0, 1, 2], [0, 1, 3], [0, 2, 3], [1, 2, 3], [0, 1, 2, 3]] := by
  simp [allL, chFromL, combsL]
theorem few1 : fewest [1, 2, 3, 4] tsX = some [0, 2] := by
  unfold fewest
  rw [show tsX.length = 4 from rfl, all4, show decL [1, 2, 3, 4] tsX = _ from funext (decB_eq _ _)]
  decide
theorem few2 : fewest [2] tsX = some [0] := by
  unfold fewest
  rw [show tsX.length = 4 from rfl, all4, show decL [2] tsX = _ from funext (decB_eq _ _)]
  decide
theorem few3 : fewest [] tsX = some [] := by
  unfold fewest
  rw [show tsX.length = 4 from rfl, all4, show decL [] tsX = _ from funext (decB_eq _ _)]
  decide
theorem few4 : fewest [5] tsX = none := by
  unfold fewest
  rw [show tsX.length = 4 from rfl, all4, show decL [5] tsX = _ from funext (decB_eq _ _)]
  decide
theorem goodX : GoodT tsX := by unfold GoodT Good GoodE tsX; decide
theorem good1 : Good [1, 2, 3, 4] := by unfold Good GoodE; decide
theorem good2 : Good [2] := by unfold Good GoodE; decide
theorem good3 : Good [] := by unfold Good GoodE; decide
theorem good4 : Good [5] := by unfold Good GoodE; decide
theorem good5 : Good [1, 2] := by unfold Good GoodE; decide
theorem good6 : Good [5, 6] := by unfold Good GoodE; decide
theorem bnd1 : bnd [1, 2, 3, 4] tsX = [1, 3] := by decide
theorem bnd2 : bnd [5, 6] tsX = [] := by decide

theorem intsX {xs : List Int} (h : ∀ z ∈ xs, 0 ≤ z ∧ z ≤ 100) (hl : xs.length ≤ 10) : intsOf (slA 1 (intsA xs)) = some xs := intsOf_slA (by omega) fun z hz => by
  have := h z hz
  unfold inI; omega
theorem m15a : M15 [.fs 1 [.int .i64 1, .int .i64 2, .int .i64 3, .int .i64 4], lX] = some (.tup [.fs 1 [.int .i64 0, .int .i64 2], .bool true]) := by
  have h := intsX (xs := [1, 2, 3, 4]) (by decide) (by decide)
  show M15 [slA 1 (intsA [1, 2, 3, 4]), lX] = _
  simp only [M15, h, testsX, fewR]
  rw [if_pos ⟨good1, goodX⟩, few1]; rfl
theorem m15b : M15 [.fs 1 [.int .i64 2], lX] = some (.tup [.fs 1 [.int .i64 0], .bool true]) := by
  have h := intsX (xs := [2]) (by decide) (by decide)
  show M15 [slA 1 (intsA [2]), lX] = _
  simp only [M15, h, testsX, fewR]
  rw [if_pos ⟨good2, goodX⟩, few2]; rfl
theorem m15c : M15 [.nilS, lX] = some (.tup [.fs 1 [], .bool true]) := by
  have h := intsX (xs := []) (by decide) (by decide)
  show M15 [slA 1 (intsA []), lX] = _
  simp only [M15, h, testsX, fewR]
  rw [if_pos ⟨good3, goodX⟩, few3]; rfl
theorem m15d : M15 [.fs 1 [.int .i64 5], lX] = some (.tup [.nilS, .bool false]) := by
  have h := intsX (xs := [5]) (by decide) (by decide)
  show M15 [slA 1 (intsA [5]), lX] = _
  simp only [M15, h, testsX, fewR]
  rw [if_pos ⟨good4, goodX⟩, few4]
theorem m19 {xs : List Int} {a : AV} (ha : intsOf a = some xs) : M19 [a, a] = some (.bool true) := by simp [M19, ha]
theorem m19a : M19 [.fs 1 [.int .i64 0, .int .i64 2], .fs 1 [.int .i64 0, .int .i64 2]] = some (.bool true) := m19 (intsX (xs := [0, 2]) (by decide) (by decide))
theorem m19b : M19 [.fs 1 [.int .i64 0], .fs 1 [.int .i64 0]] = some (.bool true) := m19 (intsX (xs := [0]) (by decide) (by decide))
theorem m19c : M19 [.fs 1 [.int .i64 1, .int .i64 3], .fs 1 [.int .i64 1, .int .i64 3]] = some (.bool true) := m19 (intsX (xs := [1, 3]) (by decide) (by decide))
open Classical in
theorem m17a : M17 [lX] = some (.bool true) := by
  simp only [M17, testsX, Option.map_some]
  rw [decide_eq_true goodX]
open Classical in
theorem m20 {xs ch : List Int} {a c : AV} (ha : intsOf a = some xs) (hc : intsOf c = some ch) (b : Bool) (h : Dec xs tsX ch ↔ b = true) : M20 [a, lX, c] = some (.bool b) := by
  simp only [M20, ha, testsX, hc]
  rw [if_pos (by decide)]
  congr 2
  rw [Bool.eq_iff_iff, decide_eq_true_eq, h]
theorem m20a : M20 [.fs 1 [.int .i64 1, .int .i64 2], lX, .fs 1 [.int .i64 0]] = some (.bool true) :=
  m20 (intsX (xs := [1, 2]) (by decide) (by decide)) (intsX (xs := [0]) (by decide) (by decide)) true ⟨fun _ => rfl, fun _ => ⟨good5, goodX, by unfold Chosen; decide, by decide⟩⟩
theorem m20b : M20 [.fs 1 [.int .i64 1, .int .i64 2], lX, .fs 1 [.int .i64 1]] = some (.bool false) :=
  m20 (intsX (xs := [1, 2]) (by decide) (by decide)) (intsX (xs := [1]) (by decide) (by decide)) false ⟨fun h => by have := h.2.2.2; revert this; decide, fun h => by cases h⟩
theorem m20c : M20 [.fs 1 [.int .i64 1, .int .i64 2], lX, .fs 1 [.int .i64 0, .int .i64 0]] = some (.bool false) :=
  m20 (intsX (xs := [1, 2]) (by decide) (by decide)) (intsX (xs := [0, 0]) (by decide) (by decide)) false ⟨fun h => by have := h.2.2.1; revert this; unfold Chosen; decide, fun h => by cases h⟩
theorem m22a : M22 [.fs 1 [.int .i64 1, .int .i64 2, .int .i64 3, .int .i64 4], lX] = some (.fs 1 [.int .i64 1, .int .i64 3]) := by
  have h := intsX (xs := [1, 2, 3, 4]) (by decide) (by decide)
  show M22 [slA 1 (intsA [1, 2, 3, 4]), lX] = _
  simp only [M22, h, testsX]
  rw [if_pos (by decide), if_pos ⟨good1, goodX⟩, bnd1]; rfl
theorem m22b : M22 [.fs 1 [.int .i64 5, .int .i64 6], lX] = some .nilS := by
  have h := intsX (xs := [5, 6]) (by decide) (by decide)
  show M22 [slA 1 (intsA [5, 6]), lX] = _
  simp only [M22, h, testsX]
  rw [if_pos (by decide), if_pos ⟨good6, goodX⟩, bnd2]; rfl

noncomputable def fs11 : List (FuncId × HModel) := [(15, pureFH 4 M15), (19, pureH 4 M19), (17, pureH 4 M17), (20, pureH 4 M20), (22, pureFH 4 M22)]
@[simp] theorem fs11_15 : lookM fs11 15 = some (pureFH 4 M15) := rfl
@[simp] theorem fs11_19 : lookM fs11 19 = some (pureH 4 M19) := rfl
@[simp] theorem fs11_17 : lookM fs11 17 = some (pureH 4 M17) := rfl
@[simp] theorem fs11_20 : lookM fs11 20 = some (pureH 4 M20) := rfl
@[simp] theorem fs11_22 : lookM fs11 22 = some (pureFH 4 M22) := rfl
theorem sound11 : ∀ f M, lookM fs11 f = some M → FnSpecY Tryd.prog GI f M := lookM_cons (FnSpecY.of_pureF spec15F 4) (lookM_cons (FnSpecY.of_pure spec19 4) (lookM_cons (FnSpecY.of_pure spec17 4) (lookM_cons (FnSpecY.of_pure spec20 4) (lookM_cons (FnSpecY.of_pureF spec22F 4) lookM_nil))))

set_option maxRecDepth 100000 in
set_option maxHeartbeats 4000000 in
theorem ev11 : evP (envOf GI fs11) 0 mf11 1 [] = some (.bool true) := by
  have h1 := m15a
  have h2 := m15b
  have h3 := m15c
  have h4 := m15d
  have h5 := m20a
  have h6 := m20b
  have h7 := m20c
  have h8 := m22a
  have h9 := m22b
  have h10 := m17a
  unfold lX at h1 h2 h3 h4 h5 h6 h7 h8 h9 h10
  rw [evP_run _ _ rfl]
  simp [mf11, frz, h1, h2, h3, h4, h5, h6, h7, h8, h9, h10, m19a, m19b, m19c]
end Go.Proofs.YtkdjebioapholaaDoor
/-
  Inspect: what the laws share.
-/
namespace Go.Proofs.YtkdjebioapholaaDoor
open Go

def M11 : PModel := fun args => match args with | [] => some (.bool true) | _ => none
theorem spec11 : PureSpec Tryd.prog GI 11 M11 := by
  refine PureSpec.of_ev (E := envOf GI fs11) (envOf_sound sound11) rfl at11 comp11 1 ?_
  intro args r h
  unfold M11 at h
  split at h
  · injection h with h; subst h
    exact ⟨0, ev11⟩
  · cases h
@[simp] theorem M11_nil : M11 [] = some (.bool true) := rfl

noncomputable def fsL : List (FuncId × HModel) := [(11, pureH 4 M11), (12, pureH 4 M12), (13, fun _ => M13), (14, pureH 4 M14), (15, pureFH 4 M15), (16, pureH 4 M16), (17, pureH 4 M17), (18, pureH 4 M17), (19, pureH 4 M19), (20, pureH 4 M20), (21, pureH 4 M21), (22, pureFH 4 M22), (23, pureH 4 M23), (24, pureH 4 M24), (25, pureH 4 M25)]
@[simp] theorem fsL_11 : lookM fsL 11 = some (pureH 4 M11) := rfl
@[simp] theorem fsL_12 : lookM fsL 12 = some (pureH 4 M12) := rfl
@[simp] theorem fsL_13 : lookM fsL 13 = some (fun _ => M13) := rfl
@[simp] theorem fsL_14 : lookM fsL 14 = some (pureH 4 M14) := rfl
@[simp] theorem fsL_15 : lookM fsL 15 = some (pureFH 4 M15) := rfl
@[simp] theorem fsL_16 : lookM fsL 16 = some (pureH 4 M16) := rfl
@[simp] theorem fsL_17 : lookM fsL 17 = some (pureH 4 M17) := rfl
@[simp] theorem fsL_18 : lookM fsL 18 = some (pureH 4 M17) := rfl
@[simp] theorem fsL_19 : lookM fsL 19 = some (pureH 4 M19) := rfl
@[simp] theorem fsL_20 : lookM fsL 20 = some (pureH 4 M20) := rfl
@[simp] theorem fsL_21 : lookM fsL 21 = some (pureH 4 M21) := rfl
@[simp] theorem fsL_22 : lookM fsL 22 = some (pureFH 4 M22) := rfl
@[simp] theorem fsL_23 : lookM fsL 23 = some (pureH 4 M23) := rfl
@[simp] theorem fsL_24 : lookM fsL 24 = some (pureH 4 M24) := rfl
@[simp] theorem fsL_25 : lookM fsL 25 = some (pureH 4 M25) := rfl
theorem soundL : ∀ f M, lookM fsL f = some M → FnSpecY Tryd.prog GI f M :=
  lookM_cons (FnSpecY.of_pure spec11 4) (lookM_cons (FnSpecY.of_pure spec12 4) (lookM_cons spec13.y (lookM_cons (FnSpecY.of_pure spec14 4) (lookM_cons (FnSpecY.of_pureF spec15F 4) (lookM_cons (FnSpecY.of_pure spec16 4) (lookM_cons (FnSpecY.of_pure spec17 4) (lookM_cons (FnSpecY.of_pure spec18 4) (lookM_cons (FnSpecY.of_pure spec19 4) (lookM_cons (FnSpecY.of_pure spec20 4) (lookM_cons (FnSpecY.of_pure spec21 4) (lookM_cons (FnSpecY.of_pureF spec22F 4) (lookM_cons (FnSpecY.of_pure spec23 4) (lookM_cons (FnSpecY.of_pure spec24 4) (lookM_cons (FnSpecY.of_pure spec25 4) lookM_nil))))))))))))))

/-! ### wafers and tests that integers determine are valid -/
theorem wafN_asc (m : Nat) : ∀ n : Nat, AscFrom 1 ((n : Int) + 1) (wafN m n)
  | 0 => trivial
  | n + 1 => by
    have ih := wafN_asc m n
    unfold wafN at ih ⊢
    by_cases h : m / 2 ^ n % 2 = 1
    · rw [bitsL_t h, show (1 : Int) + (n : Int) = (n : Int) + 1 by omega]
      exact ih.snoc (by omega) (by omega)
    · rw [bitsL_f h]
      exact ih.up (by omega)
theorem good_of_asc {n : Int} (hn : n ≤ 1000001) {l : List Int} (h : AscFrom 1 n l) (hl : l.length ≤ 100) : Good l := by
  refine ⟨hl, fun i hi => ?_⟩
  have := (asc_index l 1).1 h i hi
  exact ⟨this.1, by omega, this.2.2⟩
theorem waf_asc (c : Int) : AscFrom 1 13 (waf c) := wafN_asc _ 12
theorem waf_good (c : Int) : Good (waf c) := good_of_asc (by omega) (waf_asc c) (Nat.le_trans (waf_len c) (by omega))
theorem waf_in (c : Int) : ∀ z ∈ waf c, inI z := fun z hz => by
  have := (waf_asc c).ge z hz
  unfold inI; omega
theorem tests_len (xs : List Int) : (tests xs).length ≤ 10 := by simp [tests]; omega
theorem tests_good (xs : List Int) : GoodT (tests xs) := by
  refine ⟨Nat.le_trans (tests_len xs) (by omega), fun t ht => ?_⟩
  obtain ⟨x, _, rfl⟩ := List.mem_map.1 ht
  exact waf_good x
theorem tests_of (xs : List Int) : testsOf (testsA (tests xs)) = some (tests xs) := by
  refine testsOf_testsA (Nat.le_trans (tests_len xs) (by omega)) fun t ht => ?_
  obtain ⟨x, _, rfl⟩ := List.mem_map.1 ht
  exact ⟨Nat.le_trans (waf_len x) (by omega), waf_in x⟩
theorem waf_of (c : Int) : intsOf (slA 1 (intsA (waf c))) = some (waf c) := intsOf_slA (Nat.le_trans (waf_len c) (by omega)) (waf_in c)
theorem chosen_in {n : Nat} (hn : n ≤ 17) {ch : List Int} (h : Chosen n ch) : ch.length ≤ n ∧ ∀ z ∈ ch, inI z := by
  have h' := (chosen_asc n ch).1 h
  have := h'.len (by omega)
  refine ⟨by omega, fun z hz => ?_⟩
  have := h'.ge z hz
  unfold inI; omega
theorem chosen_of {n : Nat} (hn : n ≤ 17) {ch : List Int} (h : Chosen n ch) : intsOf (slA 1 (intsA ch)) = some ch ∧ intsOf (.fs 1 (intsA ch)) = some ch := by
  obtain ⟨h1, h2⟩ := chosen_in hn h
  exact ⟨intsOf_slA (by omega) h2, intsOf_of (.inr rfl) (by omega) h2⟩
theorem cho_chosen (c : Int) (n : Nat) : Chosen n (cho c n) := lS_chosen _ n
theorem decL_dec {open_ : List Int} {ts : List (List Int)} {ch : List Int} (h1 : Good open_) (h2 : GoodT ts) (h3 : Chosen ts.length ch) : Dec open_ ts ch ↔ decL open_ ts ch = true := by
  unfold decL
  rw [decide_eq_true_eq]
  exact ⟨fun h => h.2.2.2, fun h => ⟨h1, h2, h3, h⟩⟩

/-! ### contracts, put to use -/
section
variable {a l c : AV} {open_ ch : List Int} {ts : List (List Int)}
theorem m15_none (ha : intsOf a = some open_) (hl : testsOf l = some ts) (h1 : Good open_) (h2 : GoodT ts) (h : fewest open_ ts = none) : M15 [a, l] = some (.tup [.nilS, .bool false]) := by
  simp only [M15, ha, hl, fewR]
  rw [if_pos ⟨h1, h2⟩, h]
theorem m15_some (ha : intsOf a = some open_) (hl : testsOf l = some ts) (h1 : Good open_) (h2 : GoodT ts) {best : List Int} (h : fewest open_ ts = some best) : M15 [a, l] = some (.tup [.fs 1 (intsA best), .bool true]) := by
  simp only [M15, ha, hl, fewR]
  rw [if_pos ⟨h1, h2⟩, h]
theorem m15_bad (ha : intsOf a = some open_) (hl : testsOf l = some ts) (h : ¬ (Good open_ ∧ GoodT ts)) : M15 [a, l] = some (.tup [.nilS, .bool false]) := by
  simp only [M15, ha, hl, fewR]
  rw [if_neg h]
open Classical in
theorem m20_eq (ha : intsOf a = some open_) (hl : testsOf l = some ts) (hc : intsOf c = some ch) (hn : ts.length ≤ 17) : M20 [a, l, c] = some (.bool (decide (Dec open_ ts ch))) := by
  simp only [M20, ha, hl, hc]
  rw [if_pos hn]
open Classical in
theorem m20_dec (ha : intsOf a = some open_) (hl : testsOf l = some ts) (hc : intsOf c = some ch) (h1 : Good open_) (h2 : GoodT ts) (h3 : Chosen ts.length ch) : M20 [a, l, c] = some (.bool (decL open_ ts ch)) := by
  rw [m20_eq ha hl hc (by have := h2.1; omega)]
  congr 2
  rw [Bool.eq_iff_iff, decide_eq_true_eq]
  exact decL_dec h1 h2 h3
open Classical in
theorem m20_bad (ha : intsOf a = some open_) (hl : testsOf l = some ts) (hc : intsOf c = some ch) (hn : ts.length ≤ 17) (h : ¬ Dec open_ ts ch) : M20 [a, l, c] = some (.bool false) := by
  rw [m20_eq ha hl hc hn, decide_eq_false h]
theorem m22_good (ha : intsOf a = some open_) (hl : testsOf l = some ts) (h1 : Good open_) (h2 : GoodT ts) : M22 [a, l] = some (slA 1 (intsA (bnd open_ ts))) := by
  simp only [M22, ha, hl]
  rw [if_pos (by have := h1.1; omega), if_pos ⟨h1, h2⟩]
theorem m22_bad (ha : intsOf a = some open_) (hl : testsOf l = some ts) (hn : open_.length ≤ 1000) (h : ¬ (Good open_ ∧ GoodT ts)) : M22 [a, l] = some .nilS := by
  simp only [M22, ha, hl]
  rw [if_pos (by omega), if_neg h]
end
theorem m13 {A : Arena} {x : AV} {xs : List Int} (h : SlA 1 (xs.map (.int .i64)) x) (hr : ∀ z ∈ xs, inI z) (hA : A.all (entNoRef 4) = true) : M13 [x] A = some (testsA (tests xs), A) := M13_eq (.inl h) hr hA
theorem holds_arena {A : Arena} {id off : Nat} {gr : Bool} {es : List AV} {xs : List Int} (h1 : A[id]? = some (.row 1 gr es)) (h2 : (es.drop off).take xs.length = intsA xs) : Holds A 1 (.sl id off xs.length) (intsA xs) := by
  refine .inr ⟨id, off, gr, es, ?_, h1, ?_⟩
  · simp [intsA]
  · simpa [intsA] using h2
end Go.Proofs.YtkdjebioapholaaDoor
/-
  Inspect: what the laws' cards share.
-/
namespace Go.Proofs.YtkdjebioapholaaDoor
open Go

/-- the second table of a list -/
theorem tabIs_of_second {P : Program} {W : World} {x : String × DataW Unit} {name : String} {k : IntKind} {zs : List Int} {rest : List (String × DataW Unit)} {g : Nat} {t e : TypeId} {n : Nat}
    (hg : P.globalNamed name = some g) (hty : (P.globals[g]?).map (·.type) = some t) (ht : P.underlying t = some (.array n e)) (he : P.underlying e = some (.int k)) (hce : P.cellsOf e = 1) (hct : P.cellsOf t = n)
    (h : laidMet P (x :: (name, Lib.tabData k zs) :: rest) W) : Lib.TabIs P W name k zs := by
  obtain ⟨n0, d0⟩ := x
  obtain ⟨ps, ⟨_, _, _, _, _, _, _, _, _, _, ⟨g', t', cs, fuel, p, q, hg', ht', hvar, hd, _, _⟩, _⟩, _⟩ := h
  obtain rfl := Option.some.inj (hg.symm.trans hg')
  obtain rfl := Option.some.inj (hty.symm.trans ht')
  unfold Lib.TabIs
  rw [hvar, ← Lib.cells_of_tab ht he hce hct hd]

theorem ownK : ownKnob Tryd.prog.godebug = none := by kernel_rfl
theorem gTab : Tryd.prog.globalNamed "math/bits.deBruijn64tab" = some 1 := by kernel_rfl
theorem gTabType : (Tryd.prog.globals[1]?).map (·.type) = some 65 := by kernel_rfl
theorem cells65 : Tryd.prog.cellsOf 65 = 64 := by kernel_rfl
theorem cells5 : Tryd.prog.cellsOf 5 = 1 := by kernel_rfl

theorem grel_of {W : World} (h : Lib.TabIs Tryd.prog W "math/bits.deBruijn64tab" .u8 tab64) : GRel GI W (fun b => b < W.heap.size) := by
  intro gl cs hg
  unfold GI at hg
  split at hg
  · rename_i e
    subst e
    injection hg with hg; subst hg
    have hc : ∀ i (hi : i < tab64.length), W.cell? ⟨1, i, none⟩ = some (.int .u8 tab64[i]) := fun i hi => by
      have := h.cell gTab i hi
      rwa [List.getD_eq_getElem?_getD, List.getElem?_eq_getElem hi, Option.getD_some] at this
    have h0 := hc 0 (by decide)
    cases hh : W.heap[1]? with
    | none => simp [World.cell?, hh] at h0
    | some o =>
      cases o with
      | cells c T fz =>
        refine .fp _ 1 0 T c fz _ (fun i => .int .u8 (tab64.getD i 0)) (Array.getElem?_eq_some_iff.1 hh).1 hh (by decide) (fun i hi => ?_) (fun i hi => ?_)
        · have hi' : i < tab64.length := by simpa using hi
          simp only [List.getElem_map, List.getD_eq_getElem?_getD, List.getElem?_eq_getElem hi', Option.getD_some]
          exact .int _ _ _
        · have hi' : i < tab64.length := by simpa using hi
          have := hc i hi'
          simp only [World.cell?, hh] at this
          simp only [Nat.zero_add, List.getD_eq_getElem?_getD, List.getElem?_eq_getElem hi', Option.getD_some]
          exact ⟨by simpa using this, rfl⟩
      | _ => simp [World.cell?, hh] at h0
  · cases hg

/-- A WORLD FOR THE WITNESS: the tables hold what their initialisers lay. -/
noncomputable def laidWorld (os : Os) : World :=
  let w := World.holding Tryd.prog os ⟨#[], #[], []⟩
  let h1 := w.heap.modify 0 fun
      | .cells _ t frozen => .cells #[.int .u8 0, .int .u8 1, .int .u8 28, .int .u8 2, .int .u8 29, .int .u8 14, .int .u8 24, .int .u8 3, .int .u8 30, .int .u8 22, .int .u8 20, .int .u8 15, .int .u8 25, .int .u8 17, .int .u8 4, .int .u8 8, .int .u8 31, .int .u8 27, .int .u8 13, .int .u8 23, .int .u8 21, .int .u8 19, .int .u8 16, .int .u8 7, .int .u8 26, .int .u8 12, .int .u8 18, .int .u8 6, .int .u8 11, .int .u8 5, .int .u8 10, .int .u8 9] t frozen
      | o => o
  { w with heap := h1.modify 1 fun
      | .cells _ t frozen => .cells #[.int .u8 0, .int .u8 1, .int .u8 56, .int .u8 2, .int .u8 57, .int .u8 49, .int .u8 28, .int .u8 3, .int .u8 61, .int .u8 58, .int .u8 42, .int .u8 50, .int .u8 38, .int .u8 29, .int .u8 17, .int .u8 4, .int .u8 62, .int .u8 47, .int .u8 59, .int .u8 36, .int .u8 45, .int .u8 43, .int .u8 51, .int .u8 22, .int .u8 53, .int .u8 39, .int .u8 33, .int .u8 30, .int .u8 24, .int .u8 18, .int .u8 12, .int .u8 5, .int .u8 63, .int .u8 55, .int .u8 48, .int .u8 27, .int .u8 60, .int .u8 41, .int .u8 37, .int .u8 16, .int .u8 46, .int .u8 35, .int .u8 44, .int .u8 21, .int .u8 52, .int .u8 32, .int .u8 23, .int .u8 11, .int .u8 54, .int .u8 26, .int .u8 40, .int .u8 15, .int .u8 34, .int .u8 20, .int .u8 31, .int .u8 10, .int .u8 25, .int .u8 14, .int .u8 19, .int .u8 9, .int .u8 13, .int .u8 8, .int .u8 7, .int .u8 6] t frozen
      | o => o }
end Go.Proofs.YtkdjebioapholaaDoor
