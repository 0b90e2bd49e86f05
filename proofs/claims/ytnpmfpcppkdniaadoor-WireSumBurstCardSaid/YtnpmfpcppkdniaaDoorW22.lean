/-
  Wire: SumBurst, plain and run.
-/
import Derived.Test.YtnpmfpcppkdniaaDoorW21
namespace Go.Proofs.YtnpmfpcppkdniaaDoor
open Go

/-- what a burst of at most 32 bits does to the checksum -/
theorem burst (s b : List UInt8) (hl : b.length = s.length) (W f : Nat) (hW : W < 4294967296) (hf : f ≤ 8 * s.length) (hn : num b = num s ^^^ (W <<< f)) : sumL b = sumL s ↔ W = 0 := by
  have h1 := crc_num b 4294967295
  have h2 := crc_num s 4294967295
  rw [hl, hn, ← Nat.xor_assoc, bitSteps_xor, ← h2] at h1
  have h3 : bitSteps (8 * s.length) (W <<< f) = bitSteps (8 * s.length - f) W := by
    rw [show 8 * s.length = f + (8 * s.length - f) by omega, bitSteps_add, bitSteps_shift]
    congr 1
    omega
  rw [h3] at h1
  have hc : ∀ a b c : Nat, a ^^^ b = a ^^^ c → b = c := fun a b c h => by
    have : a ^^^ (a ^^^ b) = a ^^^ (a ^^^ c) := by rw [h]
    rwa [← Nat.xor_assoc, ← Nat.xor_assoc, Nat.xor_self, Nat.zero_xor, Nat.zero_xor] at this
  have hi : sumL b = sumL s ↔ crc b 4294967295 = crc s 4294967295 := by
    unfold sumL
    rw [Int.natCast_inj]
    exact ⟨hc _ _ _, fun h => by rw [h]⟩
  rw [hi, h1]
  constructor
  · intro he
    have h4 : bitSteps (8 * s.length - f) W = 0 := by
      have : crc s 4294967295 ^^^ (crc s 4294967295 ^^^ bitSteps (8 * s.length - f) W) = crc s 4294967295 ^^^ crc s 4294967295 := by rw [he]
      rwa [← Nat.xor_assoc, Nat.xor_self, Nat.zero_xor] at this
    exact Classical.byContradiction fun h0 => bitSteps_pos _ W hW h0 h4
  · rintro rfl
    have : bitSteps (8 * s.length - f) 0 = 0 := by
      have := bitSteps_shift (8 * s.length - f) 0
      simpa using this
    rw [this, Nat.xor_zero]

theorem mod_two_pow_succ' (B i : Nat) : B % 2 ^ (i + 1) = B % 2 ^ i ^^^ (if B.testBit i then 2 ^ i else 0) := by
  apply Nat.eq_of_testBit_eq
  intro j
  rw [Nat.testBit_xor, Nat.testBit_mod_two_pow, Nat.testBit_mod_two_pow]
  split
  · rename_i h
    rw [Nat.testBit_two_pow]
    by_cases hj : j = i
    · subst hj; simp [h]
    · have hij : ¬ i = j := fun e => hj e.symm
      simp only [hij, decide_false, Bool.xor_false]
      by_cases h2 : j < i
      · simp [h2, show j < i + 1 by omega]
      · simp [h2, show ¬ j < i + 1 by omega]
  · rename_i h
    rw [Nat.zero_testBit, Bool.xor_false]
    by_cases hj : j = i
    · subst hj
      simp only [Bool.not_eq_true] at h
      simp [h]
    · by_cases h2 : j < i
      · simp [h2, show j < i + 1 by omega]
      · simp [h2, show ¬ j < i + 1 by omega]

def fs8 : List (FuncId × HModel) := [(10, pureH 4 fun args => match args with | [] => some (.bool true) | _ => none), (14, pureH 4 M14), (21, pureH 4 M21)]
@[simp] theorem fs8_10 : lookM fs8 10 = some (pureH 4 fun args => match args with | [] => some (.bool true) | _ => none) := rfl
@[simp] theorem fs8_14 : lookM fs8 14 = some (pureH 4 M14) := rfl
@[simp] theorem fs8_21 : lookM fs8 21 = some (pureH 4 M21) := rfl
theorem sound8 : ∀ f M, lookM fs8 f = some M → FnSpecY Tryd.prog GW f M := lookM_cons (FnSpecY.of_pure spec10 4) (lookM_cons (FnSpecY.of_pure spec14 4) (lookM_cons (FnSpecY.of_pure spec21 4) lookM_nil))

theorem bit_u32 (B i : Nat) (hB : B < 4294967296) (hi : i < 32) : evBin .shr (.int .u32 (B : Int)) (.int .i64 (i : Int)) = some (.int .u32 ((B >>> i : Nat) : Int)) := by
  unfold evBin
  simp only
  rw [if_neg (by omega)]
  congr 2
  rw [Int.toNat_natCast, bits_u32, Nat.min_eq_left (by omega), show ((2 : Int) ^ i) = ((2 ^ i : Nat) : Int) by simp, Int.fdiv_eq_ediv_of_nonneg _ (Int.natCast_nonneg _), Nat.shiftRight_eq_div_pow]
  simp
theorem bit_u32' (B i : Nat) : evBin .rem (.int .u32 ((B >>> i : Nat) : Int)) (.int .u32 2) = some (.int .u32 ((B >>> i % 2 : Nat) : Int)) := by
  have h : ∀ x : Nat, (x : Int).tmod 2 = ((x % 2 : Nat) : Int) := fun x => by rw [Int.tmod_eq_emod_of_nonneg (by omega)]; omega
  simp only [evBin, h]
  simp

set_option maxRecDepth 100000 in
set_option maxHeartbeats 4000000 in
theorem round8 (fuel : Nat) (v0 : AV) (cur : List UInt8) (B f : Nat) (ok : AV) (chg : Bool) (hB : B < 4294967296) (hl : cur.length ≤ 1000) {i : Nat} (hi : i < 32) (hfi : f + i < 8 * cur.length) :
    ∃ cur', cur'.length = cur.length ∧ num cur' = num cur ^^^ ((if B.testBit i then 2 ^ i else 0) <<< f) ∧
    run (envOf GW fs8) fuel [.code lp8x0] (st8x0 v0 (.int .u32 (B : Int)) ok (.sl 0 0 cur.length) (.int .i64 (f : Int)) (.bool chg) (.int .i64 (i : Int))) [Ent.row 1 false (bytesA cur)] =
      some (.normal (st8x0 v0 (.int .u32 (B : Int)) ok (.sl 0 0 cur.length) (.int .i64 (f : Int)) (.bool (chg || B.testBit i)) (.int .i64 ((i + 1 : Nat) : Int))) [Ent.row 1 false (bytesA cur')]) := by
  have hi' : (i : Int) < 32 := by omega
  have w : IntKind.i64.wrap ((i : Int) + 1) = ((i + 1 : Nat) : Int) := by rw [wrapI (by unfold inI; omega)]; omega
  have w1 : IntKind.i64.wrap ((f : Int) + i) = ((f + i : Nat) : Int) := by rw [wrapI (by unfold inI; omega)]; omega
  have w2 : IntKind.i64.wrap (8 * (cur.length : Int)) = ((8 * cur.length : Nat) : Int) := by rw [wrapI (by unfold inI; omega)]; omega
  have hlt : ((f + i : Nat) : Int) < ((8 * cur.length : Nat) : Int) := by omega
  have b1 := bit_u32 B i hB hi
  have b2 := bit_u32' B i
  have hbit : B >>> i % 2 = if B.testBit i then 1 else 0 := by
    rw [Nat.testBit_eq_decide_div_mod_eq, Nat.shiftRight_eq_div_pow]
    have : B / 2 ^ i % 2 = 0 ∨ B / 2 ^ i % 2 = 1 := by omega
    rcases this with h | h <;> simp [h]
  obtain ⟨k, hk⟩ : ∃ k, k = f + i := ⟨_, rfl⟩
  obtain ⟨i1, hi1⟩ : ∃ i1 : Nat, i1 = i + 1 := ⟨_, rfl⟩
  obtain ⟨L8, hL8⟩ : ∃ L8 : Nat, L8 = 8 * cur.length := ⟨_, rfl⟩
  rw [← hi1] at w
  rw [← hk] at w1 hlt hfi
  rw [← hL8] at w2 hlt
  rw [hbit] at b2
  obtain ⟨x, hx⟩ : ∃ x : Nat, x = B >>> i := ⟨_, rfl⟩
  rw [← hx] at b1 b2
  rw [← hi1]
  have g1 : evBin .lss (.int .i64 (i : Int)) (.int .i64 32) = some (.bool true) := by simp [hi']
  have g2 : evBin .lss (.int .i64 (k : Int)) (.int .i64 (L8 : Int)) = some (.bool true) := by simp only [evBin, if_true, hlt, decide_true]
  have g3 : evBin .add (.int .i64 (f : Int)) (.int .i64 (i : Int)) = some (.int .i64 (k : Int)) := by simp only [evBin, if_true, w1]
  have g4 : evBin .mul (.int .i64 8) (.int .i64 (cur.length : Int)) = some (.int .i64 (L8 : Int)) := by simp only [evBin, if_true, w2]
  have g7 : evBin .add (.int .i64 (i : Int)) (.int .i64 1) = some (.int .i64 (i1 : Int)) := by simp only [evBin, if_true, w]
  cases hb : B.testBit i with
  | false =>
    rw [hb] at b2
    refine ⟨cur, rfl, by simp, ?_⟩
    simp only [Bool.false_eq_true, if_false, Int.natCast_zero, Int.cast_ofNat_Int] at b2
    have g8 : evBin .eql (.int .u32 0) (.int .u32 1) = some (.bool false) := by simp
    simp [lp8x0, st8x0, g1, g2, g3, g4, g7, g8, b1, b2, -evBin]
  | true =>
    rw [hb] at b2
    simp only [if_true] at b2
    have hj : k / 8 < cur.length := by omega
    obtain ⟨c, hc⟩ : ∃ c, cur[k / 8]? = some c := ⟨cur[k / 8], List.getElem?_eq_getElem hj⟩
    obtain ⟨j, hjj⟩ : ∃ j, j = k / 8 := ⟨_, rfl⟩
    obtain ⟨m, hm⟩ : ∃ m, m = k % 8 := ⟨_, rfl⟩
    have hm8 : m < 8 := by omega
    rw [← hjj] at hc hj
    obtain ⟨y, hy⟩ : ∃ y : UInt8, y = UInt8.ofNat (2 ^ m) := ⟨_, rfl⟩
    have hp : 2 ^ m < 256 := by
      have : 2 ^ m ≤ 2 ^ 7 := Nat.pow_le_pow_right (by omega) (by omega)
      omega
    have hyn : y.toNat = 2 ^ m := by rw [hy, UInt8.toNat_ofNat']; exact Nat.mod_eq_of_lt hp
    refine ⟨cur.set j (c ^^^ y), by simp, ?_, ?_⟩
    · rw [num_set cur j y c hc, hyn]
      simp only [if_true, Nat.shiftLeft_eq]
      rw [← Nat.pow_add, ← Nat.pow_add]
      congr 2
      omega
    · have q1 : IntKind.i64.wrap ((k : Int).tdiv 8) = (j : Int) := by
        rw [Int.tdiv_eq_ediv_of_nonneg (by omega), wrapI (by unfold inI; omega)]; omega
      have q2 : (k : Int).tmod 8 = (m : Int) := by
        rw [Int.tmod_eq_emod_of_nonneg (by omega)]; omega
      have q3 : evBin .shl (.int .u8 1) (.int .i64 (m : Int)) = some (.int .u8 (y.toNat : Int)) := by
        unfold evBin
        simp only
        rw [if_neg (by omega), Int.toNat_natCast, bits_u8, Nat.min_eq_left (by omega), hyn, wrapU8]
        · norm_cast; simp
        · norm_cast; omega
      have q4 := xor8 c y
      have x1 := byte_index cur j hj .i64
      have x2 := byte_load cur j c hc
      have x3 := byte_store cur j (c ^^^ y) hj
      obtain ⟨c', hc'⟩ : ∃ c' : Int, c' = (c.toNat : Int) := ⟨_, rfl⟩
      obtain ⟨y', hy'⟩ : ∃ c' : Int, c' = (y.toNat : Int) := ⟨_, rfl⟩
      obtain ⟨z', hz'⟩ : ∃ c' : Int, c' = ((c ^^^ y).toNat : Int) := ⟨_, rfl⟩
      rw [← hc'] at q4 x2
      rw [← hy'] at q3 q4
      rw [← hz'] at q4 x3
      have q5 : evBin .xor (.int .u8 c') (.int .u8 y') = some (.int .u8 z') := by simp [q4]
      have g5 : evBin .quo (.int .i64 (k : Int)) (.int .i64 8) = some (.int .i64 (j : Int)) := by simp only [evBin, if_true, q1]; rfl
      have g6 : evBin .rem (.int .i64 (k : Int)) (.int .i64 8) = some (.int .i64 (m : Int)) := by simp [q2]
      have g8 : evBin .eql (.int .u32 1) (.int .u32 1) = some (.bool true) := by simp
      have b2 : evBin .rem (.int .u32 (x : Int)) (.int .u32 2) = some (.int .u32 1) := b2
      simp [lp8x0, st8x0, g1, g2, g3, g4, g5, g6, g7, g8, b1, b2, q3, q5, x1, x2, x3, -evBin, -evIndexSl, -evLoad, -evStore]

theorem loop8 (fuel : Nat) (v0 : AV) (s : List UInt8) (B f N : Nat) (ok : AV) (hB : B < 4294967296) (hl : s.length ≤ 1000) (hN : N = min 32 (8 * s.length - f)) (hfl : f < 8 * s.length) : ∀ (k i m : Nat) (cur : List UInt8), i + k = N → k < m → cur.length = s.length → num cur = num s ^^^ ((B % 2 ^ i) <<< f) →
    ∃ cur', cur'.length = s.length ∧ num cur' = num s ^^^ ((B % 2 ^ N) <<< f) ∧
    iter (evC (envOf GW fs8) fuel lp8x0) mask8x0 m (st8x0 v0 (.int .u32 (B : Int)) ok (.sl 0 0 s.length) (.int .i64 (f : Int)) (.bool (decide (B % 2 ^ i ≠ 0))) (.int .i64 (i : Int))) [Ent.row 1 false (bytesA cur)] =
      some (.exit 0 ((st8x0 v0 (.int .u32 (B : Int)) ok (.sl 0 0 s.length) (.int .i64 (f : Int)) (.bool (decide (B % 2 ^ N ≠ 0))) (.int .i64 (N : Int))).set 11 (.bool false)) [Ent.row 1 false (bytesA cur')]) := by
  intro k
  induction k with
  | zero =>
    intro i m cur hik hm hcl hnum
    obtain ⟨m, rfl⟩ : ∃ j, m = j + 1 := ⟨m - 1, by omega⟩
    obtain rfl : i = N := by omega
    refine ⟨cur, hcl, hnum, ?_⟩
    obtain ⟨c, hc⟩ : ∃ c, c = decide (B % 2 ^ i ≠ 0) := ⟨_, rfl⟩
    rw [← hc, iter_succ, cl8x0]
    by_cases h32 : i < 32
    · have g1 : evBin .lss (.int .i64 (i : Int)) (.int .i64 32) = some (.bool true) := by
        simp only [evBin, if_true]; congr 2; simp; omega
      have g3 : evBin .add (.int .i64 (f : Int)) (.int .i64 (i : Int)) = some (.int .i64 ((8 * s.length : Nat) : Int)) := by
        simp only [evBin, if_true]; rw [wrapI (by unfold inI; omega)]; congr 2; omega
      have g4 : evBin .mul (.int .i64 8) (.int .i64 (s.length : Int)) = some (.int .i64 ((8 * s.length : Nat) : Int)) := by
        simp only [evBin, if_true]; rw [wrapI (by unfold inI; omega)]; congr 2
      have g2 : evBin .lss (.int .i64 ((8 * s.length : Nat) : Int)) (.int .i64 ((8 * s.length : Nat) : Int)) = some (.bool false) := by simp [evBin]
      obtain ⟨L8, hL8⟩ : ∃ L8 : Nat, L8 = 8 * s.length := ⟨_, rfl⟩
      rw [← hL8] at g2 g3 g4
      simp [lp8x0, st8x0, g1, g2, g3, g4, -evBin]
    · obtain rfl : i = 32 := by omega
      simp [lp8x0, st8x0]
  | succ k ih =>
    intro i m cur hik hm hcl hnum
    obtain ⟨m, rfl⟩ : ∃ j, m = j + 1 := ⟨m - 1, by omega⟩
    obtain ⟨cur', h1, h2, h3⟩ := round8 fuel v0 cur B f ok (decide (B % 2 ^ i ≠ 0)) hB (by omega) (i := i) (by omega) (by omega)
    rw [hcl] at h3
    have hx := mod_two_pow_succ' B i
    have hnum' : num cur' = num s ^^^ ((B % 2 ^ (i + 1)) <<< f) := by rw [h2, hnum, hx, Nat.shiftLeft_xor_distrib, Nat.xor_assoc]
    have hflag : (decide (B % 2 ^ i ≠ 0) || B.testBit i) = decide (B % 2 ^ (i + 1) ≠ 0) := by
      have hlt : B % 2 ^ i < 2 ^ i := Nat.mod_lt _ (Nat.two_pow_pos i)
      rw [hx]
      cases hb : B.testBit i with
      | false => simp
      | true =>
        simp only [if_true, Bool.or_true]
        symm
        rw [decide_eq_true_iff]
        intro h0
        have h0 := xor_zero h0
        omega
    obtain ⟨cur2, k1, k2, k3⟩ := ih (i + 1) m cur' (by omega) (by omega) (by omega) hnum'
    refine ⟨cur2, k1, k2, ?_⟩
    rw [iter_succ, cl8x0, h3]
    simp only
    rw [hflag]
    exact k3

set_option maxRecDepth 100000 in
set_option maxHeartbeats 4000000 in
theorem ev8 (t : List UInt8) (at0 : Int) (B : Nat) (ha : inI at0) (hB : B < 4294967296) : evP (envOf GW fs8) 40 mf8 1 [.str t, .int .i64 at0, .int .u32 (B : Int)] = some (.bool true) := by
  have lf := cut_length 300 t
  obtain ⟨s, hs⟩ : ∃ s, s = cut 300 t := ⟨_, rfl⟩
  rw [← hs] at lf
  have hst : s = t.take s.length := by rw [hs]; unfold cut cutN; simp
  have htl : s.length ≤ t.length := by rw [hs]; unfold cut; simp [cutN]; omega
  have tb : evToBytes [] (.str s) = some (.sl 0 0 s.length, [Ent.row 1 false (bytesA s)]) := rfl
  rw [evP_run _ _ rfl]
  by_cases hs0 : s = []
  · subst hs0
    simp [mf8, min_cut300, slice_cut, hs.symm, tb, -evMin2, -evSliceStr, -evToBytes]
  by_cases hB0 : B = 0
  · subst hB0
    have hsl : ¬ (s.length = 0) := by simpa using hs0
    simp [mf8, min_cut300, slice_cut, hs.symm, tb, hs0, -evMin2, -evSliceStr, -evToBytes]
  · have hsl : 0 < s.length := List.length_pos_iff.2 hs0
    have pr := pick_range at0 ((8 * s.length : Nat) : Int) (by omega)
    have mp : M14 [.int .i64 at0, .int .i64 ((8 * s.length : Nat) : Int)] = some (.int .i64 (pick at0 ((8 * s.length : Nat) : Int))) := by simp only [M14]; exact if_pos ⟨ha, by omega⟩
    obtain ⟨f, hf⟩ : ∃ f : Nat, pick at0 ((8 * s.length : Nat) : Int) = f := ⟨_, (Int.toNat_of_nonneg pr.1).symm⟩
    rw [hf] at mp pr
    obtain ⟨N, hN⟩ : ∃ N, N = min 32 (8 * s.length - f) := ⟨_, rfl⟩
    obtain ⟨cur', k1, k2, k3⟩ := loop8 40 (.str t) s B f N (.bool true) hB (by omega) hN (by omega) N 0 40 s (by omega) (by omega) rfl (by simp [Nat.mod_one])
    have hW : B % 2 ^ N < 4294967296 := Nat.lt_of_le_of_lt (Nat.mod_le _ _) hB
    have hbu := burst s cur' k1 (B % 2 ^ N) f hW (by omega) k2
    have ms : M21 [.str s] = some (.int .i64 (sumL s)) := by simp only [M21]; exact if_pos (by omega)
    have mc : M21 [.str cur'] = some (.int .i64 (sumL cur')) := by simp only [M21]; exact if_pos (by omega)
    have hsc := byte_str cur'
    rw [k1] at hsc
    have sl := slice_take t s.length htl
    rw [← hst] at sl
    have w8 : evBin .mul (.int .i64 8) (.int .i64 (s.length : Int)) = some (.int .i64 ((8 * s.length : Nat) : Int)) := by
      simp only [evBin, if_true]; rw [wrapI (by unfold inI; omega)]; congr 2
    obtain ⟨L8, hL8⟩ : ∃ L8 : Nat, L8 = 8 * s.length := ⟨_, rfl⟩
    rw [← hL8] at w8 mp
    obtain ⟨d, hd⟩ : ∃ d : Bool, d = decide (B % 2 ^ N ≠ 0) := ⟨_, rfl⟩
    rw [← hd] at k3
    have hneq : evBin .neq (.int .i64 (sumL cur')) (.int .i64 (sumL s)) = some (.bool d) := by
      simp only [evBin, if_true]
      congr 2
      rw [hd, int_bne, decide_not]
      congr 1
      exact decide_eq_decide.2 hbu
    have h00 : decide (B % 2 ^ 0 ≠ 0) = false := by simp [Nat.mod_one]
    rw [h00] at k3
    simp only [Int.natCast_zero, Int.cast_ofNat_Int] at k3
    obtain ⟨b', hb'⟩ : ∃ b' : Int, b' = (B : Int) := ⟨_, rfl⟩
    rw [← hb'] at k3
    have z1 : evBin .eql (.int .i64 (s.length : Int)) (.int .i64 0) = some (.bool false) := by simp only [evBin, if_true]; simp; omega
    have z2 : evBin .eql (.int .u32 b') (.int .u32 0) = some (.bool false) := by simp only [evBin, if_true]; simp; omega
    rw [← hb']
    have he : ∀ b : Bool, evEqBool false (.bool b) (.bool b) = some (.bool true) := fun b => by simp
    simp [mf8, min_cut300, slice_cut, hs.symm, tb, w8, mp, z1, z2, go8x0 k3, hsc, ms, mc, sl, hneq, he, -evMin2, -evSliceStr, -evToBytes, -evBin, -evEqBool]

theorem ev8L (args : List AV) (h : LawArgs Tryd.prog 8 Tryd.f8.params.toList args) : ∃ fuel, evP (envOf GW fs8) fuel mf8 1 args = some (.bool true) := by
  rw [Tryd.params8] at h
  obtain ⟨a, r, rfl, h0, h⟩ := h.cons
  obtain ⟨b, r, rfl, h1, h⟩ := h.cons
  obtain ⟨c, r, rfl, h2, h⟩ := h.cons
  obtain rfl := h.nil
  obtain ⟨a, rfl, _⟩ := TA.str Tryd.underlying9 h0
  obtain ⟨k, rfl, hk⟩ := TA.i64 Tryd.underlying3 h1
  obtain ⟨z, rfl, z1, z2⟩ := TA.int (k := .u32) (by kernel_rfl) h2
  have z1 : 0 ≤ z := z1
  have z2 : z ≤ 4294967295 := z2
  obtain ⟨B, rfl⟩ : ∃ B : Nat, z = B := ⟨z.toNat, by omega⟩
  exact ⟨40, ev8 a k B hk (by omega)⟩
end Go.Proofs.YtnpmfpcppkdniaaDoor
