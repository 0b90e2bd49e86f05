/-
  Wire: decoding, in plain.
-/
import Derived.Test.YtnpmfpcppkdniaaDoorW4
namespace Go.Proofs.YtnpmfpcppkdniaaDoor
open Go

/-- groups, decoded, at most k of them: the number, the place of the last one, the last one -/
def dec : Nat → List UInt8 → Option (Nat × Nat × Nat)
  | 0, _ => none
  | _ + 1, [] => none
  | k + 1, b :: r => if b.toNat < 128 then some (b.toNat, 0, b.toNat) else (dec k r).map fun x => (b.toNat % 128 + 128 * x.1, x.2.1 + 1, x.2.2)

theorem dec_bound : ∀ (k : Nat) (l : List UInt8) (v i c : Nat), dec k l = some (v, i, c) → v < 128 ^ (i + 1) ∧ i < k ∧ i < l.length ∧ c < 128
  | 0, l, v, i, c, h => by cases h
  | k + 1, [], v, i, c, h => by cases h
  | k + 1, b :: r, v, i, c, h => by
    simp only [dec] at h
    split at h
    · simp only [Option.some.injEq, Prod.mk.injEq] at h
      obtain ⟨rfl, rfl, rfl⟩ := h
      exact ⟨by simpa, by omega, by simp, by assumption⟩
    · simp only [Option.map_eq_some_iff] at h
      obtain ⟨⟨v', i', c'⟩, h1, h2⟩ := h
      simp only [Prod.mk.injEq] at h2
      obtain ⟨rfl, rfl, rfl⟩ := h2
      obtain ⟨k1, k2, k3, k4⟩ := dec_bound k r v' i' c' h1
      refine ⟨?_, by omega, by simp; omega, k4⟩
      rw [Nat.pow_succ]
      have := Nat.mod_lt b.toNat (show 0 < 128 by omega)
      omega
theorem dec_zero : ∀ (k : Nat) (l : List UInt8) (i c : Nat), dec k l = some (0, i, c) → c = 0
  | 0, l, i, c, h => by cases h
  | k + 1, [], i, c, h => by cases h
  | k + 1, b :: r, i, c, h => by
    simp only [dec] at h
    split at h
    · simp only [Option.some.injEq, Prod.mk.injEq] at h
      omega
    · simp only [Option.map_eq_some_iff] at h
      obtain ⟨⟨v', i', c'⟩, h1, h2⟩ := h
      simp only [Prod.mk.injEq] at h2
      obtain ⟨h2, rfl, rfl⟩ := h2
      have : v' = 0 := by omega
      subst this
      exact dec_zero k r i' c' h1
theorem u8_ofNat_toNat (b : UInt8) : UInt8.ofNat b.toNat = b := by simp
theorem u8_lt (b : UInt8) : b.toNat < 256 := b.toNat_lt
/-- no shorter way to write it: the last group is not 0 -/
theorem dec_enc : ∀ (k : Nat) (l : List UInt8) (v i c : Nat), dec k l = some (v, i, c) → (enc v = l.take (i + 1) ↔ ¬ (c = 0 ∧ 0 < i))
  | 0, l, v, i, c, h => by cases h
  | k + 1, [], v, i, c, h => by cases h
  | k + 1, b :: r, v, i, c, h => by
    simp only [dec] at h
    split at h
    · rename_i hb
      simp only [Option.some.injEq, Prod.mk.injEq] at h
      obtain ⟨rfl, rfl, rfl⟩ := h
      rw [enc_lt hb]
      simp
    · rename_i hb
      simp only [Option.map_eq_some_iff] at h
      obtain ⟨⟨v', i', c'⟩, h1, h2⟩ := h
      simp only [Prod.mk.injEq] at h2
      obtain ⟨rfl, rfl, rfl⟩ := h2
      have ih := dec_enc k r v' i' c' h1
      have hb2 := u8_lt b
      have hlt := Nat.mod_lt b.toNat (show 0 < 128 by omega)
      by_cases hv : v' = 0
      · subst hv
        have hc := dec_zero k r i' c' h1
        rw [enc_lt (by omega)]
        refine ⟨fun h => ?_, fun h => absurd ⟨hc, by omega⟩ h⟩
        rw [List.take_succ_cons] at h
        injection h with h _
        have := congrArg UInt8.toNat h
        simp at this
        omega
      · rw [enc_ge (by omega), List.take_succ_cons]
        have e1 : (b.toNat % 128 + 128 * v') % 128 + 128 = b.toNat := by omega
        have e2 : (b.toNat % 128 + 128 * v') / 128 = v' := by omega
        rw [e1, e2, u8_ofNat_toNat]
        simp only [List.cons.injEq, true_and]
        rw [ih]
        constructor
        · rintro h ⟨h1', _⟩
          by_cases h0 : 0 < i'
          · exact h ⟨h1', h0⟩
          · have : i' = 0 := by omega
            subst this
            -- one group alone, which is 0
            cases k with
            | zero => cases h1
            | succ k => cases r with
              | nil => cases h1
              | cons b' r' =>
                simp only [dec] at h1
                split at h1
                · simp only [Option.some.injEq, Prod.mk.injEq] at h1
                  omega
                · simp only [Option.map_eq_some_iff] at h1
                  obtain ⟨x, _, hx⟩ := h1
                  simp at hx
        · rintro h ⟨h1', h2'⟩
          exact h ⟨h1', by omega⟩

/-- unfolded -/
def unzig (z : Nat) : Int := if z % 2 = 1 then -((z / 2 : Nat) : Int) - 1 else (z / 2 : Nat)
theorem zig_unzig (z : Nat) : zig (unzig z) = z := by
  unfold zig unzig
  split <;> split <;> omega

/-- what Int gives -/
def getInt (l : List UInt8) (a : Int) : AV :=
  if a < 0 ∨ (l.length : Int) < a then .tup [.int .i64 0, .int .i64 0, .int .i64 2] else
  match dec 9 (l.drop a.toNat) with
  | some (v, i, c) => if (c = 0 ∧ 0 < i) ∨ unzig v < -4611686018427387903 then .tup [.int .i64 0, .int .i64 0, .int .i64 10] else .tup [.int .i64 (unzig v), .int .i64 (a + i + 1), .int .i64 0]
  | none => .tup [.int .i64 0, .int .i64 0, .int .i64 10]

theorem orSum (k z g i : Nat) (hz : z < 2 ^ (7 * i)) (h : z + g * 2 ^ (7 * i) < 18446744073709551616) : orI .u64 (z : Int) ((g * 2 ^ (7 * i) : Nat) : Int) = (z + g * 2 ^ (7 * i) : Nat) := by
  unfold orI
  rw [show IntKind.u64.bits = 64 from rfl, BitVec.toNat_or, ofInt_nat 64 z (by omega), ofInt_nat 64 _ (by omega)]
  have : z ||| g * 2 ^ (7 * i) = z + g * 2 ^ (7 * i) := by
    rw [← Nat.shiftLeft_eq, Nat.or_comm, Nat.add_comm]
    exact (Nat.shiftLeft_add_eq_or_of_lt hz g).symm
  rw [this, wrapU64 (by omega)]
set_option maxRecDepth 100000 in
theorem and127b (b : UInt8) : andI .u8 (b.toNat : Int) 127 = (b.toNat % 128 : Nat) := by
  have : ∀ b : Fin 256, andI .u8 ((b : Nat) : Int) 127 = ((b : Nat) % 128 : Nat) := by decide
  exact this ⟨b.toNat, u8_lt b⟩
theorem and1 (z : Nat) (h : z < 18446744073709551616) : andI .u64 (z : Int) 1 = (z % 2 : Nat) := by
  unfold andI
  have h2 : (BitVec.ofInt 64 (1 : Int)).toNat = 1 := by decide
  rw [show IntKind.u64.bits = 64 from rfl, BitVec.toNat_and, ofInt_nat 64 z (by omega), h2, show (1 : Nat) = 2 ^ 1 - 1 from rfl, Nat.and_two_pow_sub_one_eq_mod]
  rw [wrapU64 (by omega)]
theorem unzigBits (z : Nat) (h : z < 9223372036854775808) : xorI .i64 ((z / 2 : Nat) : Int) (if z % 2 = 1 then -1 else 0) = unzig z := by
  unfold xorI unzig
  split
  · have h2 : (BitVec.ofInt 64 (-1 : Int)) = BitVec.allOnes 64 := by decide
    rw [show IntKind.i64.bits = 64 from rfl, h2, BitVec.xor_allOnes, BitVec.toNat_not, ofInt_nat 64 _ (by omega)]
    unfold IntKind.wrap; simp [IntKind.signed, IntKind.bits]; omega
  · have h2 : (BitVec.ofInt 64 (0 : Int)) = 0#64 := by decide
    rw [show IntKind.i64.bits = 64 from rfl, h2, BitVec.xor_zero, ofInt_nat 64 _ (by omega)]
    exact wrapI (by unfold inI; omega)
end Go.Proofs.YtnpmfpcppkdniaaDoor
