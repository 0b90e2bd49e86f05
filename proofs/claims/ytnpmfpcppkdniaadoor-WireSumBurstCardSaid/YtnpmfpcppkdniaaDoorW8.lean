/-
  Wire: the reference's Int.
-/
import Derived.Test.YtnpmfpcppkdniaaDoorW7
namespace Go.Proofs.YtnpmfpcppkdniaaDoor
open Go

def mask16 : List Nat := [2, 3, 4, 7, 8, 9, 10, 11, 12, 13, 14, 15]
def E16 : Env := envOf GW [(13, pureH 4 M13)]

theorem loop16 (fuel : Nat) (s : List UInt8) (a : Nat) (hs : s.length ≤ 1000000000) (ha : a ≤ s.length) (A : Arena) : ∀ (k i z : Nat), i + k = 9 → z < 128 ^ i → ∀ (m : Nat) (b2 b3 b4 b7 b8 b9 b10 b11 b12 b13 b14 b15 : AV), k < m →
    ∃ out, iter (evC E16 fuel lp16x0) mask16 m [.str s, .int .i64 a, b2, b3, b4, .int .u64 z, .int .i64 i, b7, b8, b9, b10, b11, b12, b13, b14, b15] A = some out ∧
      match dec k (s.drop (a + i)) with
      | none => ∃ σ, out = .exit 0 σ A ∧ σ.length = 16
      | some (v, j, _) => if enc (z + 128 ^ i * v) = (s.drop a).take (i + j + 1) ∧ ¬ unzig (z + 128 ^ i * v) < -4611686018427387903
        then ∃ σ, out = .ret σ A ∧ σ[2]? = some (.int .i64 (unzig (z + 128 ^ i * v))) ∧ σ[3]? = some (.int .i64 (a + i + j + 1)) ∧ σ[4]? = some (.int .i64 0)
        else ∃ σ, out = .ret σ A ∧ σ[2]? = some (.int .i64 0) ∧ σ[3]? = some (.int .i64 0) ∧ σ[4]? = some (.int .i64 10) := by
  intro k
  induction k with
  | zero =>
    intro i z hik hz m b2 b3 b4 b7 b8 b9 b10 b11 b12 b13 b14 b15 hm
    obtain ⟨m, rfl⟩ : ∃ j, m = j + 1 := ⟨m - 1, by omega⟩
    obtain rfl : i = 9 := by omega
    refine ⟨.exit 0 [.str s, .int .i64 a, .undef, .undef, .undef, .int .u64 z, .int .i64 9, .undef, .undef, .undef, .undef, .undef, .bool false, .undef, .undef, .undef] A, ?_, _, rfl, rfl⟩
    rw [iter_succ]
    simp [lp16x0, mask16]
  | succ k ih =>
    intro i z hik hz m b2 b3 b4 b7 b8 b9 b10 b11 b12 b13 b14 b15 hm
    obtain ⟨m, rfl⟩ : ∃ j, m = j + 1 := ⟨m - 1, by omega⟩
    have hi9 : (i : Int) < 9 := by omega
    obtain ⟨p, hp⟩ : ∃ p, p = a + i := ⟨_, rfl⟩
    have w1 : IntKind.i64.wrap ((a : Int) + i) = p := by rw [wrapI (by unfold inI; omega)]; omega
    by_cases hend : p < s.length
    · obtain ⟨b, hb⟩ : ∃ b, s[p]? = some b := ⟨s[p], by simp [hend]⟩
      have hdrop : s.drop (a + i) = b :: s.drop (a + (i + 1)) := by
        rw [← hp, List.drop_eq_getElem_cons hend, show a + (i + 1) = p + 1 by omega]
        rw [List.getElem?_eq_getElem hend] at hb
        injection hb with hb; rw [hb]
      have hge : (p : Int) < (s.length : Int) := by omega
      have hbl := u8_lt b
      obtain ⟨c, hc⟩ : ∃ c, c = b.toNat := ⟨_, rfl⟩
      have hb' : Option.map (fun b => AV.int IntKind.u8 (b.toNat : Int)) s[p]? = some (.int .u8 c) := by rw [hb, hc]; rfl
      have e0 : IntKind.u64.wrap (c : Int) = c := wrapU64 (by omega)
      obtain ⟨g, hg⟩ : ∃ g, g = b.toNat % 128 := ⟨_, rfl⟩
      have e1 : (c : Int).tmod 128 = g := by rw [Int.tmod_eq_emod_of_nonneg (by omega)]; omega
      obtain ⟨s7, hs7⟩ : ∃ s7, s7 = 7 * i := ⟨_, rfl⟩
      have e3 : IntKind.i64.wrap (7 * (i : Int)) = s7 := by rw [wrapI (by unfold inI; omega)]; omega
      have hp9 := pow_le9 (show i + 1 ≤ 9 by omega)
      have hp1 : 2 ^ (7 * (i + 1)) = 128 * 2 ^ (7 * i) := by rw [Nat.mul_add, Nat.pow_add]; omega
      have hz2 : z < 2 ^ (7 * i) := by rw [← pow128]; exact hz
      obtain ⟨gp, hgp⟩ : ∃ gp, gp = g * 2 ^ (7 * i) := ⟨_, rfl⟩
      have hgm : gp ≤ 127 * 2 ^ (7 * i) := by rw [hgp]; exact Nat.mul_le_mul_right _ (by omega)
      have e4 : IntKind.u64.wrap ((g : Int) * 2 ^ (min s7 64)) = gp := by
        rw [show min s7 64 = 7 * i by omega]
        have : (g : Int) * 2 ^ (7 * i) = (gp : Nat) := by rw [hgp]; push_cast; rfl
        rw [this]
        exact wrapU64 (by omega)
      obtain ⟨z2, hz3⟩ : ∃ z2, z2 = z + gp := ⟨_, rfl⟩
      have e5 : IntKind.u64.wrap ((z : Int) + gp) = z2 := by rw [wrapU64 (by omega)]; omega
      have hz4 : z2 < 9223372036854775808 := by omega
      have hz5 : z2 < 128 ^ (i + 1) := by rw [pow128, hp1]; omega
      have hmask : clear mask16 [.str s, .int .i64 a, b2, b3, b4, .int .u64 z, .int .i64 i, b7, b8, b9, b10, b11, b12, b13, b14, b15] = [.str s, .int .i64 a, .undef, .undef, .undef, .int .u64 z, .int .i64 i, .undef, .undef, .undef, .undef, .undef, .undef, .undef, .undef, .undef] := rfl
      by_cases hcont : 128 ≤ c
      · have h128 : (128 : Int) ≤ c := by omega
        have w2 : IntKind.i64.wrap ((i : Int) + 1) = ((i + 1 : Nat) : Int) := by rw [wrapI (by unfold inI; omega)]; omega
        have hbody : run E16 fuel [.code lp16x0] (clear mask16 [.str s, .int .i64 a, b2, b3, b4, .int .u64 z, .int .i64 i, b7, b8, b9, b10, b11, b12, b13, b14, b15]) A =
            some (.normal [.str s, .int .i64 a, .undef, .undef, .undef, .int .u64 z2, .int .i64 ((i + 1 : Nat) : Int), .int .u64 c, .undef, .undef, .undef, .undef, .bool true, .bool true, .undef, .undef] A) := by
          rw [hmask]
          obtain ⟨i1, hi1⟩ : ∃ i1, i1 = i + 1 := ⟨_, rfl⟩
          rw [← hi1] at w2 ⊢
          simp [lp16x0, hi9, w1, hge, hb', e0, e1, e3, e4, e5, h128, w2]
        obtain ⟨out, q1, q2⟩ := ih (i + 1) z2 (by omega) hz5 m .undef .undef .undef (.int .u64 c) .undef .undef .undef .undef (.bool true) (.bool true) .undef .undef (by omega)
        refine ⟨out, ?_, ?_⟩
        · rw [iter_succ, hbody]; exact q1
        · rw [hdrop]
          simp only [dec, if_neg (show ¬ b.toNat < 128 by omega)]
          cases hd : dec k (s.drop (a + (i + 1))) with
          | none => rw [hd] at q2; exact q2
          | some x =>
            obtain ⟨v, j, c⟩ := x
            rw [hd] at q2
            simp only [Option.map_some]
            simp only at q2
            have ez : z + 128 ^ i * (b.toNat % 128 + 128 * v) = z2 + 128 ^ (i + 1) * v := by
              rw [hz3, hgp, hg, ← pow128, Nat.pow_succ, Nat.mul_add, Nat.mul_comm (b.toNat % 128), Nat.mul_assoc]; omega
            have ej : i + (j + 1) + 1 = i + 1 + j + 1 := by omega
            rw [ez, ej]
            have ej2 : (a : Int) + i + ((j + 1 : Nat) : Int) + 1 = a + ((i + 1 : Nat) : Int) + j + 1 := by omega
            rw [ej2]
            exact q2
      · have hnc : ¬ (128 : Int) ≤ c := by omega
        rw [hdrop]
        simp only [dec, if_pos (show b.toNat < 128 by omega)]
        have ez : z + 128 ^ i * b.toNat = z2 := by rw [hz3, hgp, hg, ← pow128, Nat.mod_eq_of_lt (by omega), Nat.mul_comm]
        rw [ez]
        obtain ⟨z', hz'⟩ : ∃ z', z' = z2 / 2 := ⟨_, rfl⟩
        obtain ⟨o, ho⟩ : ∃ o, o = z2 % 2 := ⟨_, rfl⟩
        have f1 : (z2 : Int).tdiv 2 = z' := by rw [Int.tdiv_eq_ediv_of_nonneg (by omega)]; omega
        have f1w : IntKind.u64.wrap (z' : Int) = z' := wrapU64 (by omega)
        have f2 : IntKind.i64.wrap (z' : Int) = z' := wrapI (by unfold inI; omega)
        have f3 : (z2 : Int).tmod 2 = o := by rw [Int.tmod_eq_emod_of_nonneg (by omega)]; omega
        obtain ⟨n, hn⟩ : ∃ n, n = unzig z2 := ⟨_, rfl⟩
        rw [← hn]
        obtain ⟨p1, hp1'⟩ : ∃ p1 : Int, p1 = a + i + 1 := ⟨_, rfl⟩
        obtain ⟨q1, hq1⟩ : ∃ q1, q1 = p + 1 := ⟨_, rfl⟩
        have f7 : IntKind.i64.wrap ((p : Int) + 1) = q1 := by rw [wrapI (by unfold inI; omega)]; omega
        have hqp : p1 = q1 := by omega
        have hzn : zig n = z2 := by rw [hn]; exact zig_unzig z2
        have hnu : n ≤ 4611686018427387903 := by rw [hn]; unfold unzig; split <;> omega
        have hnl : -4611686018427387904 ≤ n := by rw [hn]; unfold unzig; split <;> omega
        have hM : M13 [.int .i64 n] = some (putInt n) := by simp only [M13]; rw [if_pos (by omega)]
        have hsl : (s.drop a).take (q1 - a) = (s.drop a).take (i + 0 + 1) := by congr 1; omega
        obtain ⟨ta, hta⟩ : ∃ ta, ta = (s.drop a).take (i + 0 + 1) := ⟨_, rfl⟩
        rw [← hta] at hsl ⊢
        have hq2 : q1 ≤ s.length := by omega
        have hq3 : a ≤ q1 := by omega
        by_cases hodd : z2 % 2 = 1
        · have f3' : (z2 : Int).tmod 2 = 1 := by rw [f3]; omega
          have g1 : IntKind.i64.wrap (-(z' : Int)) = -(z' : Int) := wrapI (by unfold inI; omega)
          have g2 : IntKind.i64.wrap (-(z' : Int) - 1) = n := by rw [wrapI (by unfold inI; omega), hn]; unfold unzig; rw [if_pos hodd]; omega
          by_cases hbad : n < -4611686018427387903
          · have hP : putInt n = .tup [.str [], .int .i64 10] := by unfold putInt; rw [if_pos (.inl hbad)]
            rw [hP] at hM
            refine ⟨.ret [.str s, .int .i64 a, .int .i64 0, .int .i64 0, .int .i64 10, .int .u64 z2, .int .i64 i, .int .u64 c, .int .i64 n, .str [], .int .i64 10, .undef, .bool true, .bool false, .bool true, .bool true] A, ?_, ?_⟩
            · rw [iter_succ, hmask]
              simp [lp16x0, E16, hi9, w1, hge, hb', e0, e1, e3, e4, e5, hnc, f1, f1w, f2, f3', g1, g2, hM]
            · rw [if_neg (fun h => h.2 hbad)]; exact ⟨_, rfl, rfl, rfl, rfl⟩
          · have hP : putInt n = .tup [.str (enc z2), .int .i64 0] := by unfold putInt; rw [if_neg (by omega), hzn]
            rw [hP] at hM
            by_cases heq : enc z2 = ta
            · have hbeq : (enc z2 == ta) = true := by simp [heq]
              refine ⟨.ret [.str s, .int .i64 a, .int .i64 n, .int .i64 q1, .int .i64 0, .int .u64 z2, .int .i64 i, .int .u64 c, .int .i64 n, .str (enc z2), .int .i64 0, .undef, .bool true, .bool false, .bool true, .bool false] A, ?_, ?_⟩
              · rw [iter_succ, hmask]
                simp [lp16x0, E16, hi9, w1, hge, hb', e0, e1, e3, e4, e5, hnc, f1, f1w, f2, f3', g1, g2, hM, f7, hq2, hq3, hsl, hbeq]
              · rw [if_pos ⟨heq, hbad⟩]; exact ⟨_, rfl, rfl, by rw [← hqp, hp1']; simp, rfl⟩
            · have hbeq : (enc z2 == ta) = false := by simp [heq]
              refine ⟨.ret [.str s, .int .i64 a, .int .i64 0, .int .i64 0, .int .i64 10, .int .u64 z2, .int .i64 i, .int .u64 c, .int .i64 n, .str (enc z2), .int .i64 0, .undef, .bool true, .bool false, .bool true, .bool true] A, ?_, ?_⟩
              · rw [iter_succ, hmask]
                simp [lp16x0, E16, hi9, w1, hge, hb', e0, e1, e3, e4, e5, hnc, f1, f1w, f2, f3', g1, g2, hM, f7, hq2, hq3, hsl, hbeq]
              · rw [if_neg (fun h => heq h.1)]; exact ⟨_, rfl, rfl, rfl, rfl⟩
        · have f3' : (z2 : Int).tmod 2 = 0 := by rw [f3]; omega
          have hnz : n = z' := by rw [hn]; unfold unzig; rw [if_neg hodd, hz']
          have hP : putInt n = .tup [.str (enc z2), .int .i64 0] := by unfold putInt; rw [if_neg (by omega), hzn]
          rw [hP, hnz] at hM
          by_cases heq : enc z2 = ta
          · have hbeq : (enc z2 == ta) = true := by simp [heq]
            refine ⟨.ret [.str s, .int .i64 a, .int .i64 z', .int .i64 q1, .int .i64 0, .int .u64 z2, .int .i64 i, .int .u64 c, .int .i64 z', .str (enc z2), .int .i64 0, .undef, .bool true, .bool false, .bool false, .bool false] A, ?_, ?_⟩
            · rw [iter_succ, hmask]
              simp [lp16x0, E16, hi9, w1, hge, hb', e0, e1, e3, e4, e5, hnc, f1, f1w, f2, f3', hM, f7, hq2, hq3, hsl, hbeq]
            · rw [if_pos ⟨heq, by omega⟩, hnz]; exact ⟨_, rfl, rfl, by rw [← hqp, hp1']; simp, rfl⟩
          · have hbeq : (enc z2 == ta) = false := by simp [heq]
            refine ⟨.ret [.str s, .int .i64 a, .int .i64 0, .int .i64 0, .int .i64 10, .int .u64 z2, .int .i64 i, .int .u64 c, .int .i64 z', .str (enc z2), .int .i64 0, .undef, .bool true, .bool false, .bool false, .bool true] A, ?_, ?_⟩
            · rw [iter_succ, hmask]
              simp [lp16x0, E16, hi9, w1, hge, hb', e0, e1, e3, e4, e5, hnc, f1, f1w, f2, f3', hM, f7, hq2, hq3, hsl, hbeq]
            · rw [if_neg (fun h => heq h.1)]; exact ⟨_, rfl, rfl, rfl, rfl⟩
    · have hge : ¬ (p : Int) < (s.length : Int) := by omega
      have hdrop : s.drop (a + i) = [] := List.drop_eq_nil_of_le (by omega)
      rw [hdrop]
      refine ⟨.exit 0 [.str s, .int .i64 a, .undef, .undef, .undef, .int .u64 z, .int .i64 i, .undef, .undef, .undef, .undef, .undef, .bool false, .undef, .undef, .undef] A, ?_, _, rfl, rfl⟩
      rw [iter_succ]
      simp [lp16x0, mask16, hi9, w1, hge]
end Go.Proofs.YtnpmfpcppkdniaaDoor
