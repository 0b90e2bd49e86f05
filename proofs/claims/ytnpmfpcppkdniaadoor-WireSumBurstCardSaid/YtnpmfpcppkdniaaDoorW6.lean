/-
  Wire: Int.
-/
import Derived.Test.YtnpmfpcppkdniaaDoorW5
namespace Go.Proofs.YtnpmfpcppkdniaaDoor
open Go

def mask15 : List Nat := [2, 3, 4, 6, 7, 8, 9, 11, 12, 13, 14]

theorem pow128 (i : Nat) : 128 ^ i = 2 ^ (7 * i) := by rw [Nat.pow_mul]
theorem pow_le9 {i : Nat} (h : i ≤ 9) : 2 ^ (7 * i) ≤ 9223372036854775808 := by
  calc 2 ^ (7 * i) ≤ 2 ^ 63 := Nat.pow_le_pow_right (by omega) (by omega)
    _ = _ := by decide

theorem loop15 (E : Env) (fuel : Nat) (s : List UInt8) (a : Nat) (hs : s.length ≤ 1000000000) (ha : a ≤ s.length) (A : Arena) : ∀ (k i z : Nat), i + k = 9 → z < 128 ^ i → ∀ (m : Nat) (b2 b3 b4 b6 b7 b8 b9 b11 b12 b13 b14 : AV), k < m →
    ∃ out, iter (evC E fuel lp15x0) mask15 m [.str s, .int .i64 a, b2, b3, b4, .int .u64 z, b6, b7, b8, b9, .int .i64 i, b11, b12, b13, b14] A = some out ∧
      match dec k (s.drop (a + i)) with
      | none => ∃ σ, out = .exit 0 σ A ∧ σ.length = 15
      | some (v, j, c) => if (c = 0 ∧ 0 < i + j) ∨ unzig (z + 128 ^ i * v) < -4611686018427387903 then ∃ σ, out = .exit 0 σ A ∧ σ.length = 15
        else ∃ σ, out = .ret σ A ∧ σ[2]? = some (.int .i64 (unzig (z + 128 ^ i * v))) ∧ σ[3]? = some (.int .i64 (a + i + j + 1)) ∧ σ[4]? = some (.int .i64 0) := by
  intro k
  induction k with
  | zero =>
    intro i z hik hz m b2 b3 b4 b6 b7 b8 b9 b11 b12 b13 b14 hm
    obtain ⟨m, rfl⟩ : ∃ j, m = j + 1 := ⟨m - 1, by omega⟩
    obtain rfl : i = 9 := by omega
    refine ⟨.exit 0 [.str s, .int .i64 a, .undef, .undef, .undef, .int .u64 z, .undef, .undef, .undef, .undef, .int .i64 9, .bool false, .undef, .undef, .undef] A, ?_, _, rfl, rfl⟩
    rw [iter_succ]
    simp [lp15x0, mask15]
  | succ k ih =>
    intro i z hik hz m b2 b3 b4 b6 b7 b8 b9 b11 b12 b13 b14 hm
    obtain ⟨m, rfl⟩ : ∃ j, m = j + 1 := ⟨m - 1, by omega⟩
    have hi9 : (i : Int) < 9 := by omega
    obtain ⟨p, hp⟩ : ∃ p, p = a + i := ⟨_, rfl⟩
    have w1 : IntKind.i64.wrap ((a : Int) + i) = p := by rw [wrapI (by unfold inI; omega)]; omega
    by_cases hend : p < s.length
    · obtain ⟨b, hb⟩ : ∃ b, s[p]? = some b := ⟨s[p], by simp [hend]⟩
      have hdrop : s.drop (a + i) = b :: s.drop (a + (i + 1)) := by
        rw [← hp, List.drop_eq_getElem_cons hend, show a + (i + 1) = p + 1 by omega]
        rw [List.getElem?_eq_getElem hend] at hb
        injection hb with hb; rw [hb]
      have hge : ¬ (s.length : Int) ≤ (p : Int) := by omega
      have hbl := u8_lt b
      obtain ⟨g, hg⟩ : ∃ g, g = b.toNat % 128 := ⟨_, rfl⟩
      have e1 : andI .u8 (b.toNat : Int) 127 = g := by rw [and127b, hg]
      have e2 : IntKind.u64.wrap (g : Int) = g := wrapU64 (by omega)
      obtain ⟨s7, hs7⟩ : ∃ s7, s7 = 7 * i := ⟨_, rfl⟩
      have e3 : IntKind.i64.wrap (7 * (i : Int)) = s7 := by rw [wrapI (by unfold inI; omega)]; omega
      have h7 : ¬ (s7 : Int) < 0 := by omega
      have hp9 := pow_le9 (show i + 1 ≤ 9 by omega)
      have hp1 : 2 ^ (7 * (i + 1)) = 128 * 2 ^ (7 * i) := by rw [Nat.mul_add, Nat.pow_add]; omega
      have hz2 : z < 2 ^ (7 * i) := by rw [← pow128]; exact hz
      obtain ⟨gp, hgp⟩ : ∃ gp, gp = g * 2 ^ (7 * i) := ⟨_, rfl⟩
      have hgm : gp ≤ 127 * 2 ^ (7 * i) := by rw [hgp]; exact Nat.mul_le_mul_right _ (by omega)
      have e4 : IntKind.u64.wrap ((g : Int) * 2 ^ (min s7 64)) = gp := by
        rw [show min s7 64 = 7 * i by omega]
        have : (g : Int) * 2 ^ (7 * i) = (gp : Nat) := by rw [hgp]; push_cast; rfl
        rw [this]
        exact wrapU64 (by omega)
      obtain ⟨z2, hz3⟩ : ∃ z2, z2 = z + gp := ⟨_, rfl⟩
      have e5 : orI .u64 (z : Int) (gp : Int) = z2 := by rw [hz3, hgp]; exact orSum 64 z g i hz2 (by omega)
      have hz4 : z2 < 9223372036854775808 := by omega
      have hz5 : z2 < 128 ^ (i + 1) := by rw [pow128, hp1]; omega
      have hmask : clear mask15 [.str s, .int .i64 a, b2, b3, b4, .int .u64 z, b6, b7, b8, b9, .int .i64 i, b11, b12, b13, b14] = [.str s, .int .i64 a, .undef, .undef, .undef, .int .u64 z, .undef, .undef, .undef, .undef, .int .i64 i, .undef, .undef, .undef, .undef] := rfl
      by_cases hcont : 128 ≤ b.toNat
      · have h128 : (128 : Int) ≤ b.toNat := by omega
        have w2 : IntKind.i64.wrap ((i : Int) + 1) = ((i + 1 : Nat) : Int) := by rw [wrapI (by unfold inI; omega)]; omega
        have hbody : run E fuel [.code lp15x0] (clear mask15 [.str s, .int .i64 a, b2, b3, b4, .int .u64 z, b6, b7, b8, b9, .int .i64 i, b11, b12, b13, b14]) A =
            some (.normal [.str s, .int .i64 a, .undef, .undef, .undef, .int .u64 z2, .int .i64 i, .int .u8 b.toNat, .undef, .undef, .int .i64 ((i + 1 : Nat) : Int), .bool true, .bool false, .bool true, .undef] A) := by
          rw [hmask]
          obtain ⟨i1, hi1⟩ : ∃ i1, i1 = i + 1 := ⟨_, rfl⟩
          rw [← hi1] at w2 ⊢
          simp [lp15x0, hi9, w1, hge, hb, e1, e2, e3, h7, e4, e5, h128, w2]
        obtain ⟨out, q1, q2⟩ := ih (i + 1) z2 (by omega) hz5 m .undef .undef .undef (.int .i64 i) (.int .u8 b.toNat) .undef .undef (.bool true) (.bool false) (.bool true) .undef (by omega)
        refine ⟨out, ?_, ?_⟩
        · rw [iter_succ, hbody]; exact q1
        · rw [hdrop]
          simp only [dec, if_neg (show ¬ b.toNat < 128 by omega)]
          cases hd : dec k (s.drop (a + (i + 1))) with
          | none => rw [hd] at q2; exact q2
          | some x =>
            obtain ⟨v, j, c⟩ := x
            rw [hd] at q2
            simp only [Option.map_some]
            simp only at q2
            have ez : z + 128 ^ i * (b.toNat % 128 + 128 * v) = z2 + 128 ^ (i + 1) * v := by
              rw [hz3, hgp, hg, ← pow128, Nat.pow_succ, Nat.mul_add, Nat.mul_comm (b.toNat % 128), Nat.mul_assoc]; omega
            have ej : i + (j + 1) = i + 1 + j := by omega
            rw [ez, ej]
            have ej2 : (a : Int) + i + ((j + 1 : Nat) : Int) + 1 = a + ((i + 1 : Nat) : Int) + j + 1 := by omega
            rw [ej2]
            exact q2
      · have hnc : ¬ (128 : Int) ≤ b.toNat := by omega
        rw [hdrop]
        simp only [dec, if_pos (show b.toNat < 128 by omega)]
        have ez : z + 128 ^ i * b.toNat = z2 := by rw [hz3, hgp, hg, ← pow128, Nat.mod_eq_of_lt (by omega), Nat.mul_comm]
        rw [ez]
        obtain ⟨z', hz'⟩ : ∃ z', z' = z2 / 2 := ⟨_, rfl⟩
        obtain ⟨o, ho⟩ : ∃ o, o = z2 % 2 := ⟨_, rfl⟩
        have f1 : (z2 : Int).fdiv 2 = z' := by rw [Int.fdiv_eq_ediv_of_nonneg _ (by decide)]; omega
        have f2 : IntKind.i64.wrap (z' : Int) = z' := wrapI (by unfold inI; omega)
        have f3 : andI .u64 (z2 : Int) 1 = o := by rw [and1 z2 (by omega), ho]
        have f4 : IntKind.i64.wrap (o : Int) = o := wrapI (by unfold inI; omega)
        obtain ⟨no, hno⟩ : ∃ no : Int, no = if z2 % 2 = 1 then -1 else 0 := ⟨_, rfl⟩
        have f5 : IntKind.i64.wrap (-(o : Int)) = no := by rw [wrapI (by unfold inI; omega), hno]; split <;> omega
        obtain ⟨n, hn⟩ : ∃ n, n = unzig z2 := ⟨_, rfl⟩
        have f6 : xorI .i64 (z' : Int) no = n := by rw [hz', hno, hn]; exact unzigBits z2 hz4
        rw [← hn]
        obtain ⟨p1, hp1'⟩ : ∃ p1 : Int, p1 = a + i + 1 := ⟨_, rfl⟩
        have f7 : IntKind.i64.wrap ((p : Int) + 1) = p1 := by rw [wrapI (by unfold inI; omega)]; omega
        by_cases hz0 : b.toNat = 0 ∧ 0 < i
        · refine ⟨.exit 0 [.str s, .int .i64 a, .undef, .undef, .undef, .int .u64 z2, .int .i64 i, .int .u8 b.toNat, .int .i64 n, .undef, .int .i64 i, .bool true, .bool false, .bool false, .bool true] A, ?_, ?_⟩
          · rw [iter_succ, hmask]
            have hi0 : (0 < i) = True := eq_true hz0.2
            have hb0 : (b.toNat = 0) = True := eq_true hz0.1
            simp [lp15x0, hi9, w1, hge, hb, e1, e2, e3, h7, e4, e5, hnc, f1, f2, f3, f4, f5, f6, hb0, hi0]
          · rw [if_pos (.inl (by omega))]; exact ⟨_, rfl, rfl⟩
        · have hguard : (b.toNat = 0) = False ∨ ((b.toNat = 0) = True ∧ (0 < i) = False) := by
            by_cases h : b.toNat = 0
            · exact .inr ⟨eq_true h, eq_false fun h2 => hz0 ⟨h, h2⟩⟩
            · exact .inl (eq_false h)
          by_cases hn0 : n < -4611686018427387903
          · refine ⟨.exit 0 [.str s, .int .i64 a, .undef, .undef, .undef, .int .u64 z2, .int .i64 i, .int .u8 b.toNat, .int .i64 n, .undef, .int .i64 i, .bool true, .bool false, .bool false, .bool true] A, ?_, ?_⟩
            · rw [iter_succ, hmask]
              rcases hguard with hb0 | ⟨hb0, hi0⟩
              · simp [lp15x0, hi9, w1, hge, hb, e1, e2, e3, h7, e4, e5, hnc, f1, f2, f3, f4, f5, f6, hb0, hn0]
              · simp [lp15x0, hi9, w1, hge, hb, e1, e2, e3, h7, e4, e5, hnc, f1, f2, f3, f4, f5, f6, hb0, hi0, hn0]
            · rw [if_pos (.inr hn0)]; exact ⟨_, rfl, rfl⟩
          · refine ⟨.ret [.str s, .int .i64 a, .int .i64 n, .int .i64 p1, .int .i64 0, .int .u64 z2, .int .i64 i, .int .u8 b.toNat, .int .i64 n, .undef, .int .i64 i, .bool true, .bool false, .bool false, .bool false] A, ?_, ?_⟩
            · rw [iter_succ, hmask]
              rcases hguard with hb0 | ⟨hb0, hi0⟩
              · simp [lp15x0, hi9, w1, hge, hb, e1, e2, e3, h7, e4, e5, hnc, f1, f2, f3, f4, f5, f6, hb0, hn0, f7]
              · simp [lp15x0, hi9, w1, hge, hb, e1, e2, e3, h7, e4, e5, hnc, f1, f2, f3, f4, f5, f6, hb0, hi0, hn0, f7]
            · rw [if_neg (by rintro (h | h) <;> omega)]
              exact ⟨_, rfl, rfl, by rw [hp1']; simp, rfl⟩
    · have hge : (s.length : Int) ≤ (p : Int) := by omega
      have hdrop : s.drop (a + i) = [] := List.drop_eq_nil_of_le (by omega)
      rw [hdrop]
      refine ⟨.exit 0 [.str s, .int .i64 a, .undef, .undef, .undef, .int .u64 z, .int .i64 i, .undef, .undef, .undef, .int .i64 i, .bool true, .bool true, .undef, .undef] A, ?_, _, rfl, rfl⟩
      rw [iter_succ]
      simp [lp15x0, mask15, hi9, w1, hge]
end Go.Proofs.YtnpmfpcppkdniaaDoor

