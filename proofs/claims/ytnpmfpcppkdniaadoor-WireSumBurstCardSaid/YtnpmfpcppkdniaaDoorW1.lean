/-
  Wire: numbers drawn; zigzag; the reference's PutInt.
-/
import Derived.Test.YtnpmfpcppkdniaaDoorW0
namespace Go.Proofs.YtnpmfpcppkdniaaDoor
open Go

/-- the one package-level variable -/
def nibs : List Int := [0, 274646895, 549293790, 820201905, 1098587580, 1361435347, 1640403810, 1905808397, 2197175160, 2460548119, 2722870694, 2987750089, 3280807620, 3553878443, 3811616794, 4084100981]
def GW : Nat → Option (List AV) := fun gl => if gl = 0 then some (nibs.map (.int .u32 ·)) else none

def pick (a n : Int) : Int := (if a < 0 then -(a+1) else a).tmod n
theorem ev14 (E : Env) (a n : Int) (ha : inI a) (hn : 0 < n) : evP E 0 mf14 1 [.int .i64 a, .int .i64 n] = some (.int .i64 (pick a n)) := by
  have h3 : n ≠ 0 := by omega
  rw [evP_run _ _ rfl]
  by_cases h : a < 0
  · have h1 : IntKind.i64.wrap (a + 1) = a + 1 := wrapI (by unfold inI at *; omega)
    have h2 : IntKind.i64.wrap (-(a + 1)) = -(a + 1) := wrapI (by unfold inI at *; omega)
    simp [mf14, h, h1, h2, h3, pick]
  · simp [mf14, h, h3, pick]
def M14 : PModel := fun args => match args with
  | [.int .i64 a, .int .i64 n] => if (-9223372036854775808 ≤ a ∧ a ≤ 9223372036854775807) ∧ 0 < n then some (.int .i64 (pick a n)) else none
  | _ => none
theorem spec14 : PureSpec Tryd.prog GW 14 M14 := by
  refine PureSpec.of_ev (E := envOf GW []) (envOf_sound lookM_nil) rfl at14 comp14 1 ?_
  intro args r h
  unfold M14 at h
  split at h
  · simp only [Option.ite_none_right_eq_some, Option.some.injEq] at h
    obtain ⟨⟨h1, h2⟩, rfl⟩ := h
    exact ⟨0, ev14 _ _ _ h1 h2⟩
  · cases h
theorem pick_range (a n : Int) (hn : 0 < n) : 0 ≤ pick a n ∧ pick a n < n := by
  unfold pick
  split
  · exact ⟨Int.tmod_nonneg _ (by omega), Int.tmod_lt_of_pos _ hn⟩
  · exact ⟨Int.tmod_nonneg _ (by omega), Int.tmod_lt_of_pos _ hn⟩

def numTab : List Int := [64, 128, 8192, 16384, 1073741824, 36028797018963968, 576460752303423488, 2]
def numFrom (c : Int) : Int :=
  let n := pick (pick c 4611686018427387904 / 8) (numTab.getD (pick c 8).toNat 0)
  if pick c 16 ≥ 8 then -n else n
set_option maxHeartbeats 1000000 in
theorem ev11 (c : Int) (hc : inI c) : evP (envOf GW [(14, pureH 4 M14)]) 0 mf11 1 [.int .i64 c] = some (.int .i64 (numFrom c)) := by
  have hc' : -9223372036854775808 ≤ c ∧ c ≤ 9223372036854775807 := hc
  have p1 := pick_range c 4611686018427387904 (by omega)
  have p2 := pick_range c 8 (by omega)
  obtain ⟨j, hj, hj'⟩ : ∃ j : Nat, pick c 8 = j ∧ j < 8 := ⟨(pick c 8).toNat, by omega, by omega⟩
  have hd : (pick c 4611686018427387904).tdiv 8 = pick c 4611686018427387904 / 8 := Int.tdiv_eq_ediv_of_nonneg p1.1
  have hw : IntKind.i64.wrap (pick c 4611686018427387904 / 8) = pick c 4611686018427387904 / 8 := wrapI (by unfold inI; omega)
  have hr : -9223372036854775808 ≤ pick c 4611686018427387904 / 8 ∧ pick c 4611686018427387904 / 8 ≤ 9223372036854775807 := by omega
  have hj2 : (j : Int) < 8 := by omega
  obtain ⟨m, hT, hl, hm⟩ : ∃ m : Int, (0 < m ∧ m ≤ 576460752303423488) ∧ [AV.int IntKind.i64 64, AV.int IntKind.i64 128, AV.int IntKind.i64 8192, AV.int IntKind.i64 16384, AV.int IntKind.i64 1073741824, AV.int IntKind.i64 36028797018963968, AV.int IntKind.i64 576460752303423488, AV.int IntKind.i64 2][j] = .int .i64 m ∧ numTab[j]?.getD 0 = m := by
    have : j = 0 ∨ j = 1 ∨ j = 2 ∨ j = 3 ∨ j = 4 ∨ j = 5 ∨ j = 6 ∨ j = 7 := by omega
    rcases this with rfl | rfl | rfl | rfl | rfl | rfl | rfl | rfl <;> exact ⟨_, by decide, rfl, rfl⟩
  have p3 := pick_range (pick c 4611686018427387904 / 8) m hT.1
  have hw2 : IntKind.i64.wrap (-pick (pick c 4611686018427387904 / 8) m) = -pick (pick c 4611686018427387904 / 8) m := wrapI (by unfold inI; omega)
  rw [evP_run _ _ rfl]
  by_cases h8 : 8 ≤ pick c 16
  · simp [mf11, M14, hc', hj, hj', hj2, hl, hm, hd, hw, hw2, hr, hT, h8, numFrom]
  · simp [mf11, M14, hc', hj, hj', hj2, hl, hm, hd, hw, hr, hT, h8, numFrom]
def M11 : PModel := fun args => match args with
  | [.int .i64 c] => if -9223372036854775808 ≤ c ∧ c ≤ 9223372036854775807 then some (.int .i64 (numFrom c)) else none
  | _ => none
theorem spec11 : PureSpec Tryd.prog GW 11 M11 := by
  refine PureSpec.of_ev (E := envOf GW [(14, pureH 4 M14)]) (envOf_sound (lookM_cons (FnSpecY.of_pure spec14 4) lookM_nil)) rfl at11 comp11 1 ?_
  intro args r h
  unfold M11 at h
  split at h
  · simp only [Option.ite_none_right_eq_some, Option.some.injEq] at h
    obtain ⟨h1, rfl⟩ := h
    exact ⟨0, ev11 _ h1⟩
  · cases h
theorem numFrom_range (c : Int) : -576460752303423488 ≤ numFrom c ∧ numFrom c ≤ 576460752303423488 := by
  have h : 0 < numTab.getD (pick c 8).toNat 0 ∧ numTab.getD (pick c 8).toNat 0 ≤ 576460752303423488 := by
    have p2 := pick_range c 8 (by omega)
    have : (pick c 8).toNat = 0 ∨ (pick c 8).toNat = 1 ∨ (pick c 8).toNat = 2 ∨ (pick c 8).toNat = 3 ∨ (pick c 8).toNat = 4 ∨ (pick c 8).toNat = 5 ∨ (pick c 8).toNat = 6 ∨ (pick c 8).toNat = 7 := by omega
    rcases this with h | h | h | h | h | h | h | h <;> rw [h] <;> decide
  have := pick_range (pick c 4611686018427387904 / 8) (numTab.getD (pick c 8).toNat 0) h.1
  unfold numFrom
  simp only
  split <;> omega

/-- n, folded -/
def zig (n : Int) : Nat := (if n < 0 then -n * 2 - 1 else n * 2).toNat
theorem ev24 (E : Env) (n : Int) (h1 : -4611686018427387903 ≤ n) (h2 : n ≤ 4611686018427387903) : evP E 0 mf24 1 [.int .i64 n] = some (.int .u64 (zig n)) := by
  rw [evP_run _ _ rfl]
  by_cases h : n < 0
  · have w1 : IntKind.i64.wrap (-n) = -n := wrapI (by unfold inI; omega)
    have w2 : IntKind.u64.wrap (-n) = -n := wrapU64 (by omega)
    have w3 : IntKind.u64.wrap (-n * 2) = -n * 2 := wrapU64 (by omega)
    have w3' : IntKind.u64.wrap (-(n * 2)) = -n * 2 := by rw [← w3]; congr 1; omega
    have w4 : IntKind.u64.wrap (-n * 2 - 1) = (zig n : Nat) := by rw [wrapU64 (by omega)]; unfold zig; rw [if_pos h]; omega
    have w4' : IntKind.u64.wrap (-(n * 2) - 1) = (zig n : Nat) := by rw [← w4]; congr 1; omega
    simp [mf24, h, w1, w2, w3, w3', w4, w4']
  · have w2 : IntKind.u64.wrap n = n := wrapU64 (by omega)
    have w3 : IntKind.u64.wrap (n * 2) = (zig n : Nat) := by rw [wrapU64 (by omega)]; unfold zig; rw [if_neg h]; omega
    simp [mf24, h, w2, w3]
def M24 : PModel := fun args => match args with
  | [.int .i64 n] => if -4611686018427387903 ≤ n ∧ n ≤ 4611686018427387903 then some (.int .u64 (zig n)) else none
  | _ => none
theorem spec24 : PureSpec Tryd.prog GW 24 M24 := by
  refine PureSpec.of_ev (E := envOf GW []) (envOf_sound lookM_nil) rfl at24 comp24 1 ?_
  intro args r h
  unfold M24 at h
  split at h
  · simp only [Option.ite_none_right_eq_some, Option.some.injEq] at h
    obtain ⟨⟨h1, h2⟩, rfl⟩ := h
    exact ⟨0, ev24 _ _ h1 h2⟩
  · cases h

/-- the groups of z -/
def enc (z : Nat) : List UInt8 := if h : z < 128 then [UInt8.ofNat z] else UInt8.ofNat (z % 128 + 128) :: enc (z / 128)
termination_by z
decreasing_by omega
theorem enc_lt {z : Nat} (h : z < 128) : enc z = [UInt8.ofNat z] := by rw [enc, dif_pos h]
theorem enc_ge {z : Nat} (h : ¬ z < 128) : enc z = UInt8.ofNat (z % 128 + 128) :: enc (z / 128) := by rw [enc, dif_neg h]
theorem enc_len (k : Nat) : ∀ z : Nat, z < 128 ^ (k + 1) → (enc z).length ≤ k + 1 := by
  induction k with
  | zero => intro z h; rw [enc_lt (by simpa using h)]; simp
  | succ k ih =>
    intro z h
    by_cases h1 : z < 128
    · rw [enc_lt h1]; simp
    · rw [enc_ge h1]
      have := ih (z / 128) (by rw [Nat.div_lt_iff_lt_mul (by omega)]; rw [Nat.pow_succ] at h; exact h)
      simp; omega

/-- what PutInt gives -/
def putInt (n : Int) : AV := if n < -4611686018427387903 ∨ 4611686018427387903 < n then .tup [.str [], .int .i64 10] else .tup [.str (enc (zig n)), .int .i64 0]
end Go.Proofs.YtnpmfpcppkdniaaDoor
