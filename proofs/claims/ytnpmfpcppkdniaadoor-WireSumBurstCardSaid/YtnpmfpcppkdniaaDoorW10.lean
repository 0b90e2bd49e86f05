/-
  Wire: the checksum.
-/
import Derived.Test.YtnpmfpcppkdniaaDoorW9
namespace Go.Proofs.YtnpmfpcppkdniaaDoor
open Go

def cpoly : Nat := 2197175160
/-- a bit of the register, shifted out -/
def bitStep (r : Nat) : Nat := if r % 2 = 1 then (r / 2) ^^^ cpoly else r / 2
def bitSteps : Nat → Nat → Nat
  | 0, r => r
  | n + 1, r => bitSteps n (bitStep r)
/-- a byte -/
def crcByte (r : Nat) (b : UInt8) : Nat := bitSteps 8 (r ^^^ b.toNat)
def crc (l : List UInt8) (r : Nat) : Nat := l.foldl crcByte r
def sumL (l : List UInt8) : Int := ((4294967295 ^^^ crc l 4294967295 : Nat) : Int)

theorem xor_lt32 {a b : Nat} (ha : a < 4294967296) (hb : b < 4294967296) : a ^^^ b < 4294967296 := Nat.xor_lt_two_pow (n := 32) ha hb
theorem bitStep_lt {r : Nat} (h : r < 4294967296) : bitStep r < 4294967296 := by
  unfold bitStep
  split
  · exact xor_lt32 (by omega) (by decide)
  · omega
theorem bitSteps_lt : ∀ (n : Nat) {r : Nat}, r < 4294967296 → bitSteps n r < 4294967296
  | 0, _, h => h
  | n + 1, _, h => bitSteps_lt n (bitStep_lt h)
theorem crcByte_lt {r : Nat} (h : r < 4294967296) (b : UInt8) : crcByte r b < 4294967296 := bitSteps_lt 8 (xor_lt32 h (by have := u8_lt b; omega))
theorem crc_lt : ∀ (l : List UInt8) {r : Nat}, r < 4294967296 → crc l r < 4294967296
  | [], _, h => h
  | b :: l, _, h => crc_lt l (crcByte_lt h b)

theorem xor_div2 (a b : Nat) : (a ^^^ b) / 2 = (a / 2) ^^^ (b / 2) := by
  have := Nat.shiftRight_xor_distrib (a := a) (b := b) (i := 1)
  simpa [Nat.shiftRight_eq_div_pow] using this
theorem bitStep_xor (a b : Nat) : bitStep (a ^^^ b) = bitStep a ^^^ bitStep b := by
  have hp : (a ^^^ b) % 2 = (a + b) % 2 := by
    have h := @Nat.xor_mod_two_eq_one a b
    omega
  unfold bitStep
  rw [xor_div2, hp]
  rcases Nat.mod_two_eq_zero_or_one a with ha | ha <;> rcases Nat.mod_two_eq_zero_or_one b with hb | hb
  · rw [if_neg (by omega), if_neg (by omega), if_neg (by omega)]
  · rw [if_pos (by omega), if_neg (by omega), if_pos hb, Nat.xor_assoc]
  · rw [if_pos (by omega), if_pos ha, if_neg (by omega), Nat.xor_assoc, Nat.xor_assoc, Nat.xor_comm (b / 2)]
  · rw [if_neg (by omega), if_pos ha, if_pos hb]
    rw [Nat.xor_assoc, ← Nat.xor_assoc cpoly, Nat.xor_comm cpoly, Nat.xor_assoc, Nat.xor_self, Nat.xor_zero]
theorem bitSteps_xor : ∀ (n a b : Nat), bitSteps n (a ^^^ b) = bitSteps n a ^^^ bitSteps n b
  | 0, _, _ => rfl
  | n + 1, a, b => by simp only [bitSteps, bitStep_xor]; exact bitSteps_xor n _ _
theorem bitSteps_add : ∀ (m n r : Nat), bitSteps (m + n) r = bitSteps n (bitSteps m r)
  | 0, n, r => by simp [bitSteps]
  | m + 1, n, r => by rw [Nat.add_right_comm]; exact bitSteps_add m n (bitStep r)
theorem bitStep_even (q : Nat) : bitStep (2 * q) = q := by unfold bitStep; rw [if_neg (by omega)]; omega
/-- four bits at once, by the table -/
def nibN (k : Nat) : Nat := (nibs.getD k 0).toNat
theorem nibN_ok : ∀ k : Fin 16, bitSteps 4 k = nibN k := by decide
theorem nib_step (r : Nat) : bitSteps 4 r = (r / 16) ^^^ nibN (r % 16) := by
  have hr : r = (16 * (r / 16)) ^^^ (r % 16) := by
    apply Nat.eq_of_testBit_eq
    intro j
    have h0 : r = 2 ^ 4 * (r / 16) + r % 16 := by omega
    conv => lhs; rw [h0]
    rw [Nat.testBit_xor, Nat.testBit_two_pow_mul_add _ (Nat.mod_lt _ (by decide)), show 16 * (r / 16) = 2 ^ 4 * (r / 16) from rfl, Nat.testBit_two_pow_mul]
    by_cases hj : j < 4
    · simp [hj, show ¬ 4 ≤ j by omega]
    · have hk : (r % 16).testBit j = false := Nat.testBit_lt_two_pow (by
        have : 2 ^ 4 ≤ 2 ^ j := Nat.pow_le_pow_right (by omega) (by omega)
        have := Nat.mod_lt r (show 0 < 16 by omega)
        omega)
      simp [hj, show 4 ≤ j by omega, hk]
  conv => lhs; rw [hr]
  rw [bitSteps_xor]
  have h1 : bitSteps 4 (16 * (r / 16)) = r / 16 := by
    generalize r / 16 = q
    rw [show 16 * q = 2 * (2 * (2 * (2 * q))) by omega]
    simp only [bitSteps, bitStep_even]
  rw [h1]
  have := nibN_ok ⟨r % 16, Nat.mod_lt _ (by omega)⟩
  simp only at this
  rw [this]

theorem xor32 (a b : Nat) (ha : a < 4294967296) (hb : b < 4294967296) : xorI .u32 (a : Int) (b : Int) = (a ^^^ b : Nat) := by
  unfold xorI
  rw [show IntKind.u32.bits = 32 from rfl, BitVec.toNat_xor, ofInt_nat 32 a (by omega), ofInt_nat 32 b (by omega), wrapU32]
  have := xor_lt32 ha hb
  omega
theorem and15 (z : Nat) (h : z < 4294967296) : andI .u32 (z : Int) 15 = (z % 16 : Nat) := by
  unfold andI
  have h2 : (BitVec.ofInt 32 (15 : Int)).toNat = 15 := by decide
  rw [show IntKind.u32.bits = 32 from rfl, BitVec.toNat_and, ofInt_nat 32 z (by omega), h2, show (15 : Nat) = 2 ^ 4 - 1 from rfl, Nat.and_two_pow_sub_one_eq_mod]
  rw [wrapU32 (by omega)]
end Go.Proofs.YtnpmfpcppkdniaaDoor
