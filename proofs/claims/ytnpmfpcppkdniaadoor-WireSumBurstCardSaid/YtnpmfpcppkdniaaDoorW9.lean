/-
  Wire: the reference's Int; String.
-/
import Derived.Test.YtnpmfpcppkdniaaDoorW8
namespace Go.Proofs.YtnpmfpcppkdniaaDoor
open Go

theorem ev16 (l : List UInt8) (a : Int) (hl : l.length ≤ 1000000000) : evP E16 20 mf16 1 [.str l, .int .i64 a] = some (getInt l a) := by
  rw [evP_run _ _ rfl]
  unfold getInt
  by_cases h : a < 0
  · simp [mf16, h]
  · by_cases h' : (l.length : Int) < a
    · simp [mf16, h, h']
    · obtain ⟨n, rfl⟩ : ∃ n : Nat, a = n := ⟨a.toNat, by omega⟩
      obtain ⟨out, q1, q2⟩ := loop16 20 l n hl (by omega) [] 9 0 0 rfl (by simp) 20 (.int .i64 0) (.int .i64 0) (.int .i64 0) .undef .undef .undef .undef (.bool false) .undef .undef .undef .undef (by omega)
      have hrun := fun k => run_loop (k := k) _ _ _ q1
      simp only [Nat.add_zero, mask16, Int.natCast_zero, Int.cast_ofNat_Int] at hrun q2
      have hif : ¬ ((n : Int) < 0 ∨ (l.length : Int) < n) := by omega
      rw [if_neg hif]
      simp only [Int.toNat_natCast]
      cases hd : dec 9 (l.drop n) with
      | none =>
        rw [hd] at q2
        obtain ⟨σ, rfl, hσ⟩ := q2
        simp [mf16, h', hrun, hσ]
      | some x =>
        obtain ⟨v, i, c⟩ := x
        have henc := dec_enc 9 _ v i c hd
        rw [hd] at q2
        simp only [Nat.pow_zero, Nat.one_mul, Nat.zero_add, Int.add_zero] at q2 ⊢
        split at q2
        · rename_i hc
          obtain ⟨σ, rfl, h2, h3, h4⟩ := q2
          rw [if_neg (by rintro (h5 | h5); exact henc.1 hc.1 h5; exact hc.2 h5)]
          simp [mf16, h', hrun, h2, h3, h4]
        · rename_i hc
          obtain ⟨σ, rfl, h2, h3, h4⟩ := q2
          have : (c = 0 ∧ 0 < i) ∨ unzig v < -4611686018427387903 := by
            by_cases h5 : unzig v < -4611686018427387903
            · exact .inr h5
            · by_cases h6 : c = 0 ∧ 0 < i
              · exact .inl h6
              · exact absurd ⟨henc.2 h6, h5⟩ hc
          rw [if_pos this]
          simp [mf16, h', hrun, h2, h3, h4]
theorem spec16 : PureSpec Tryd.prog GW 16 M15 := by
  refine PureSpec.of_ev (E := E16) (envOf_sound (lookM_cons (FnSpecY.of_pure spec13 4) lookM_nil)) rfl at16 comp16 1 ?_
  intro args r h
  unfold M15 at h
  split at h
  · simp only [Option.ite_none_right_eq_some, Option.some.injEq] at h
    obtain ⟨h1, rfl⟩ := h
    exact ⟨20, ev16 _ _ h1⟩
  · cases h

/-- what Int gives, read -/
theorem getInt_cases (l : List UInt8) (a : Int) (hl : l.length ≤ 1000000000) : (∃ e : Int, (e = 2 ∨ e = 10) ∧ getInt l a = .tup [.int .i64 0, .int .i64 0, .int .i64 e]) ∨
    ∃ n x : Int, -4611686018427387903 ≤ n ∧ n ≤ 4611686018427387903 ∧ a < x ∧ 0 ≤ a ∧ x ≤ l.length ∧ getInt l a = .tup [.int .i64 n, .int .i64 x, .int .i64 0] := by
  unfold getInt
  split
  · exact .inl ⟨2, .inl rfl, rfl⟩
  · rename_i h
    cases hd : dec 9 (l.drop a.toNat) with
    | none => exact .inl ⟨10, .inr rfl, rfl⟩
    | some x =>
      obtain ⟨v, i, c⟩ := x
      obtain ⟨b1, b2, b3, b4⟩ := dec_bound _ _ _ _ _ hd
      simp only
      split
      · exact .inl ⟨10, .inr rfl, rfl⟩
      · rename_i h2
        have hv : v < 9223372036854775808 := by
          have : 128 ^ (i + 1) ≤ 9223372036854775808 := by rw [pow128]; exact pow_le9 (by omega)
          omega
        simp at b3
        refine .inr ⟨unzig v, a + i + 1, by omega, ?_, by omega, by omega, by omega, rfl⟩
        unfold unzig; split <;> omega

/-- what String gives -/
def getStr (l : List UInt8) (a : Int) : AV :=
  match getInt l a with
  | .tup [.int _ n, .int _ x, .int _ e] =>
    if e ≠ 0 then .tup [.str [], .int .i64 0, .int .i64 e]
    else if n < 0 ∨ 65536 < n ∨ l.length - x < n then .tup [.str [], .int .i64 0, .int .i64 10]
    else .tup [.str ((l.drop x.toNat).take n.toNat), .int .i64 (x + n), .int .i64 0]
  | _ => .undef

theorem ev17 (l : List UInt8) (a : Int) (hl : l.length ≤ 1000000000) : evP (envOf GW [(15, pureH 4 M15)]) 0 mf17 1 [.str l, .int .i64 a] = some (getStr l a) := by
  rw [evP_run _ _ rfl]
  have hM : M15 [.str l, .int .i64 a] = some (getInt l a) := by simp only [M15]; rw [if_pos hl]
  rcases getInt_cases l a hl with ⟨e, he, hg⟩ | ⟨n, x, h1, h2, h3, h4, h5, hg⟩
  · have he0 : e ≠ 0 := by omega
    rw [hg] at hM
    unfold getStr
    rw [hg]
    simp [mf17, hM, he0]
  · rw [hg] at hM
    unfold getStr
    rw [hg]
    have w1 : IntKind.i64.wrap ((l.length : Int) - x) = l.length - x := wrapI (by unfold inI; omega)
    by_cases c1 : n < 0
    · simp [mf17, hM, c1]
    · by_cases c2 : 65536 < n
      · simp [mf17, hM, c1, c2]
      · by_cases c3 : (l.length : Int) - x < n
        · simp [mf17, hM, c1, c2, w1, c3]
        · have w2 : IntKind.i64.wrap (x + n) = x + n := wrapI (by unfold inI; omega)
          have b1 : 0 ≤ x := by omega
          have b2 : 0 ≤ x + n ∧ x + n ≤ l.length := by omega
          have b3 : x.toNat ≤ (x + n).toNat := by omega
          have b4 : (x + n).toNat - x.toNat = n.toNat := by omega
          simp [mf17, hM, c1, c2, w1, c3, w2, b1, b2, b3, b4]
theorem ev18 (l : List UInt8) (a : Int) (hl : l.length ≤ 1000000000) : evP (envOf GW [(16, pureH 4 M15)]) 0 mf18 1 [.str l, .int .i64 a] = some (getStr l a) := by
  rw [evP_run _ _ rfl]
  have hM : M15 [.str l, .int .i64 a] = some (getInt l a) := by simp only [M15]; rw [if_pos hl]
  rcases getInt_cases l a hl with ⟨e, he, hg⟩ | ⟨n, x, h1, h2, h3, h4, h5, hg⟩
  · have he0 : e ≠ 0 := by omega
    rw [hg] at hM
    unfold getStr
    rw [hg]
    simp [mf18, hM, he0]
  · rw [hg] at hM
    unfold getStr
    rw [hg]
    have w1 : IntKind.i64.wrap ((l.length : Int) - x) = l.length - x := wrapI (by unfold inI; omega)
    by_cases c1 : n < 0
    · simp [mf18, hM, c1]
    · by_cases c2 : 65536 < n
      · simp [mf18, hM, c1, c2]
      · by_cases c3 : (l.length : Int) - x < n
        · simp [mf18, hM, c1, c2, w1, c3]
        · have w2 : IntKind.i64.wrap (x + n) = x + n := wrapI (by unfold inI; omega)
          have b1 : 0 ≤ x := by omega
          have b2 : 0 ≤ x + n ∧ x + n ≤ l.length := by omega
          have b3 : x.toNat ≤ (x + n).toNat := by omega
          have b4 : (x + n).toNat - x.toNat = n.toNat := by omega
          simp [mf18, hM, c1, c2, w1, c3, w2, b1, b2, b3, b4]
def M17 : PModel := fun args => match args with
  | [.str l, .int .i64 a] => if l.length ≤ 1000000000 then some (getStr l a) else none
  | _ => none
theorem spec17 : PureSpec Tryd.prog GW 17 M17 := by
  refine PureSpec.of_ev (E := envOf GW [(15, pureH 4 M15)]) (envOf_sound (lookM_cons (FnSpecY.of_pure spec15 4) lookM_nil)) rfl at17 comp17 1 ?_
  intro args r h
  unfold M17 at h
  split at h
  · simp only [Option.ite_none_right_eq_some, Option.some.injEq] at h
    obtain ⟨h1, rfl⟩ := h
    exact ⟨0, ev17 _ _ h1⟩
  · cases h
theorem spec18 : PureSpec Tryd.prog GW 18 M17 := by
  refine PureSpec.of_ev (E := envOf GW [(16, pureH 4 M15)]) (envOf_sound (lookM_cons (FnSpecY.of_pure spec16 4) lookM_nil)) rfl at18 comp18 1 ?_
  intro args r h
  unfold M17 at h
  split at h
  · simp only [Option.ite_none_right_eq_some, Option.some.injEq] at h
    obtain ⟨h1, rfl⟩ := h
    exact ⟨0, ev18 _ _ h1⟩
  · cases h
end Go.Proofs.YtnpmfpcppkdniaaDoor
