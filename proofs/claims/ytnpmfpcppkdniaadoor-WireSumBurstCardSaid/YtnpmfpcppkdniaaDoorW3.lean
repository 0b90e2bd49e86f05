/-
  Wire: bits; groups; PutInt.
-/
import Derived.Test.YtnpmfpcppkdniaaDoorW2
namespace Go.Proofs.YtnpmfpcppkdniaaDoor
open Go

theorem ofInt_nat (k n : Nat) (h : n < 2 ^ k) : (BitVec.ofInt k (n : Int)).toNat = n := by
  simp [Nat.mod_eq_of_lt h]
theorem and127 (z : Nat) (h : z < 18446744073709551616) : andI .u64 (z : Int) 127 = (z % 128 : Nat) := by
  unfold andI
  have h2 : (BitVec.ofInt 64 (127 : Int)).toNat = 127 := by decide
  rw [show IntKind.u64.bits = 64 from rfl, BitVec.toNat_and, ofInt_nat 64 z (by omega), h2, show (127 : Nat) = 2 ^ 7 - 1 from rfl, Nat.and_two_pow_sub_one_eq_mod]
  rw [wrapU64 (by omega)]
theorem or128 (b : Nat) (h : b < 128) : orI .u8 (b : Int) 128 = (b + 128 : Nat) := by
  have : ∀ b : Fin 128, orI .u8 ((b : Nat) : Int) 128 = ((b : Nat) + 128 : Nat) := by decide
  exact this ⟨b, h⟩
theorem xor0 (x : Nat) (h : x < 18446744073709551616) : xorI .u64 (x : Int) 0 = x := by
  unfold xorI
  have h2 : (BitVec.ofInt 64 (0 : Int)) = 0#64 := by decide
  rw [show IntKind.u64.bits = 64 from rfl, h2, BitVec.xor_zero, ofInt_nat 64 x (by omega), wrapU64 (by omega)]
theorem xorAll (x : Nat) (h : x < 18446744073709551616) : xorI .u64 (x : Int) 18446744073709551615 = (18446744073709551615 - x : Nat) := by
  unfold xorI
  have h2 : (BitVec.ofInt 64 (18446744073709551615 : Int)) = BitVec.allOnes 64 := by decide
  rw [show IntKind.u64.bits = 64 from rfl, h2, BitVec.xor_allOnes, BitVec.toNat_not, ofInt_nat 64 x (by omega), wrapU64 (by omega)]
/-- zigzag, by shifts -/
theorem zigBits (n : Int) (h1 : -4611686018427387903 ≤ n) (h2 : n ≤ 4611686018427387903) :
    xorI .u64 (IntKind.u64.wrap (IntKind.u64.wrap n * 2 ^ 1)) (IntKind.u64.wrap (n.fdiv (2 ^ 63))) = (zig n : Nat) := by
  by_cases h : n < 0
  · have e1 : IntKind.u64.wrap n = 18446744073709551616 + n := by unfold IntKind.wrap; simp [IntKind.signed, IntKind.bits]; omega
    have e2 : IntKind.u64.wrap ((18446744073709551616 + n) * 2 ^ 1) = ((18446744073709551616 + 2 * n).toNat : Nat) := by unfold IntKind.wrap; simp [IntKind.signed, IntKind.bits]; omega
    have e3 : n.fdiv (2 ^ 63) = -1 := by rw [Int.fdiv_eq_ediv_of_nonneg _ (by decide)]; omega
    have e4 : IntKind.u64.wrap (-1) = 18446744073709551615 := by decide
    rw [e1, e2, e3, e4, xorAll _ (by omega)]
    unfold zig; rw [if_pos h]; omega
  · have e1 : IntKind.u64.wrap n = n := wrapU64 (by omega)
    have e2 : IntKind.u64.wrap (n * 2 ^ 1) = ((2 * n).toNat : Nat) := by rw [wrapU64 (by omega)]; omega
    have e3 : n.fdiv (2 ^ 63) = 0 := by rw [Int.fdiv_eq_ediv_of_nonneg _ (by decide)]; omega
    have e4 : IntKind.u64.wrap 0 = 0 := by decide
    rw [e1, e2, e3, e4, xor0 _ (by omega)]
    unfold zig; rw [if_neg h]; omega

theorem yieldH_normal {E : Env} {fuel n0 l : Nat} {r : Loop} {σ σ1 σ2 σ3 args : List AV} {ps : List Nat} {asg bdy : MC} {h : Handler} {A A2 A3 : Arena} (h1 : A[n0]? = some (.loop r 0)) (h2 : setAll σ ps args = some σ1)
    (h3 : run E fuel [.code asg] σ1 A = some (.normal σ2 A2)) (h4 : A2[n0]? = some (.loop r 0)) (h5 : run E fuel [.code bdy] σ2 (A2.set n0 .dead) = some (.normal σ3 A3)) :
    yieldH n0 l r σ ps (evC E fuel asg) (evC E fuel bdy) h (.func (.yield l) [] []) args A = some (.bool true, A3.set n0 (.loop r 0)) := by
  unfold yieldH
  simp only [evC_run, h1, h2, h3, h4, h5, and_self, if_true]

/-- a byte slice is no row of other content -/
theorem Full.ne_row {A : Arena} {o : AV} {l : List UInt8} (h : Full A o 1 (bytesA l)) {b : Nat} {gr : Bool} {a : AV} (hb : A[b]? = some (.row 1 gr [a])) (ha : ∀ x : Int, a ≠ .int .u8 x) : ∀ n, o ≠ .sl b 0 n := by
  rintro n rfl
  rcases h with ⟨h, _⟩ | ⟨id, gr', h1, h2⟩
  · cases h
  · cases h1
    rw [hb] at h2
    injection h2 with h2; injection h2 with _ _ h2
    cases l with
    | nil => simp [bytesA] at h2
    | cons x r =>
      simp [bytesA] at h2
      exact ha _ h2.1
theorem Full.ne_row' {A : Arena} {o o' : AV} {l : List UInt8} (h : Full A o 1 (bytesA l)) {b : Nat} {gr : Bool} (hb : A[b]? = some (.row 1 gr [o'])) (ho : ∀ x : Int, o' ≠ .int .u8 x) : ∀ n, o ≠ .sl b 0 n := h.ne_row hb ho
theorem Full.ne_loop {A : Arena} {o : AV} {l : List UInt8} (h : Full A o 1 (bytesA l)) {b : Nat} {r : Loop} {k : Nat} (hb : A[b]? = some (.loop r k)) : ∀ n, o ≠ .sl b 0 n := by
  rintro n rfl
  rcases h with ⟨h, _⟩ | ⟨id, gr', h1, h2⟩
  · cases h
  · cases h1; rw [hb] at h2; cases h2

theorem Full.row {A : Arena} {o : AV} {esz : Nat} {xs : List AV} (h : Full A o esz xs) (hx : xs ≠ []) : ∃ id, o = .sl id 0 xs.length ∧ id < A.length := by
  rcases h with ⟨_, h⟩ | ⟨id, gr, h1, h2⟩
  · exact absurd h hx
  · exact ⟨id, h1, (List.getElem?_eq_some_iff.1 h2).1⟩

/-- the loop's body: a group, appended -/
theorem round12 (E : Env) (fuel : Nat) (a0 a1 a2 a6 a7 a8 a9 a10 : AV) (c : Nat) (b : Nat) (hb : b < 128) (last : Bool) (A : Arena) (o : AV) (l : List UInt8) (hc : A[c]? = some (.row 1 false [o])) (hF : Full A o 1 (bytesA l)) (hl : l.length < 100) :
    ∃ σ3 A3 o', run E fuel [.code lp12x1] [a0, a1, a2, .ptr c 0 0, .int .u8 b, .bool last, a6, a7, a8, a9, a10] A = some (.normal σ3 A3) ∧ A3[c]? = some (.row 1 false [o']) ∧
      Full A3 o' 1 (bytesA (l ++ [UInt8.ofNat (if last then b else b + 128)])) ∧ (∀ id, id < A.length → id ≠ c → (∀ n, o ≠ .sl id 0 n) → A3[id]? = A[id]?) ∧ A.length ≤ A3.length := by
  obtain ⟨b', hb'⟩ : ∃ b', b' = if last then b else b + 128 := ⟨_, rfl⟩
  have hlt : b' < 256 := by rw [hb']; split <;> omega
  obtain ⟨o', A', p1, p2, p3, p4⟩ := append_byte hF hl b' hlt
  have hcl : c < A.length := (List.getElem?_eq_some_iff.1 hc).1
  have hnc : ∀ n, o ≠ .sl c 0 n := by
    rintro n rfl
    rcases hF with ⟨h, _⟩ | ⟨id, gr', h1, h2⟩
    · cases h
    · cases h1
      rw [hc] at h2
      injection h2 with h2; injection h2 with _ _ h2
      cases l with
      | nil => simp [bytesA] at h2
      | cons x r => simp [bytesA] at h2
  have hc' := (p4 c hcl hnc).trans hc
  have hou : ∀ x : Int, o ≠ .int .u8 x := by
    rintro x rfl
    rcases hF with ⟨h, _⟩ | ⟨id, gr', h1, _⟩
    · cases h
    · cases h1
  obtain ⟨id', rfl, hid'⟩ := p2.row (by simp [bytesA])
  have hne : id' ≠ c := by
    rintro rfl
    exact (p2.ne_row' hc' hou) _ rfl
  refine ⟨[a0, a1, a2, .ptr c 0 0, .int .u8 b', .bool last, a6, a7, a8, a9, .bool (!last)], A'.set c (.row 1 false [.sl id' 0 (bytesA (l ++ [UInt8.ofNat b'])).length]), .sl id' 0 (bytesA (l ++ [UInt8.ofNat b'])).length, ?_, by simp [show c < A'.length by omega], ?_, fun id hid hidc hn => ?_, by simpa using p3⟩
  rotate_left
  · rw [← hb']
    refine p2.keep fun id n e => ?_
    injection e with e1 e2 e3
    subst e1
    rw [List.getElem?_set_ne (Ne.symm hne)]
  · rw [List.getElem?_set_ne (Ne.symm hidc)]; exact p4 id hid hn
  · have hco : (A ++ [Ent.row 1 false [.int .u8 b']])[c]? = some (.row 1 false [o]) := by rw [List.getElem?_append_left hcl]; exact hc
    have hld : loadElem o 1 0 false 1 = some o := by
      rcases hF with ⟨rfl, _⟩ | ⟨id, gr', rfl, _⟩ <;> rfl
    cases last with
    | true =>
      simp at hb'; subst hb'
      simp [lp12x1, hc, hld, p1, hc', hne]
    | false =>
      have ho := or128 b hb
      simp at hb'
      rw [← hb'] at ho
      simp [lp12x1, hc, hld, ho, p1, hc', hne]
end Go.Proofs.YtnpmfpcppkdniaaDoor
