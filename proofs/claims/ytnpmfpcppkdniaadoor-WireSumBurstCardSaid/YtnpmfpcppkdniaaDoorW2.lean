/-
  Wire: the reference's PutInt.
-/
import Derived.Test.YtnpmfpcppkdniaaDoorW1
namespace Go.Proofs.YtnpmfpcppkdniaaDoor
open Go

theorem bytesA_append (l m : List UInt8) : bytesA (l ++ m) = bytesA l ++ bytesA m := by simp [bytesA]
theorem bytesA_length (l : List UInt8) : (bytesA l).length = l.length := by simp [bytesA]
theorem natu8 {n : Nat} (h : n < 256) : ((UInt8.ofNat n).toNat : Int) = n := by simp; omega

/-- a byte, appended -/
theorem append_byte {A : Arena} {o : AV} {l : List UInt8} (h : Full A o 1 (bytesA l)) (hl : l.length < 100) (b : Nat) (hb : b < 256) : ∃ o' A', evAppend 1 1 (A ++ [Ent.row 1 false [.int .u8 b]]) o (.sl A.length 0 1) = some (o', A') ∧ Full A' o' 1 (bytesA (l ++ [UInt8.ofNat b])) ∧ A.length ≤ A'.length ∧
    ∀ id, id < A.length → (∀ n, o ≠ .sl id 0 n) → A'[id]? = A[id]? := by
  obtain ⟨o', A', h1, h2, h3, h4⟩ := append_full (x := .sl A.length 0 1) (ys := [.int .u8 b]) (bytes := 1) (h.push (.row 1 false [.int .u8 b])) (srcElems_new A 1 false [.int .u8 b]) (by simp) (by simp) (by simp) (by simp [bytesA_length]; omega)
  refine ⟨o', A', h1, ?_, by simp at h3; omega, fun id hid hne => ?_⟩
  · rw [bytesA_append]; simpa only [bytesA, List.map_cons, List.map_nil, natu8 hb] using h2
  · rw [h4 id (by simp; omega) hne, List.getElem?_append_left hid]

theorem loop13_spec (E : Env) (fuel : Nat) : ∀ (k z : Nat), z < 128 ^ (k + 1) → z < 18446744073709551616 → ∀ (m : Nat) (l : List UInt8) (A : Arena) (o a0 a1 a2 a5 a6 : AV), k < m → l.length + k < 90 → Full A o 1 (bytesA l) →
    ∃ (z' : Nat) (l' : List UInt8) (A' : Arena) (o' : AV), iter (evC E fuel lp13x0) [0, 1, 2, 5, 6] m [a0, a1, a2, .int .u64 z, o, a5, a6] A = some (.exit 0 [.undef, .undef, .undef, .int .u64 z', o', .undef, .bool false] A') ∧
      Full A' o' 1 (bytesA l') ∧ z' < 128 ∧ l' ++ [UInt8.ofNat z'] = l ++ enc z ∧ l'.length ≤ l.length + k := by
  intro k
  induction k with
  | zero =>
    intro z hz hz2 m l A o a0 a1 a2 a5 a6 hm hl hF
    obtain ⟨m, rfl⟩ : ∃ j, m = j + 1 := ⟨m - 1, by omega⟩
    have hlt : z < 128 := by simpa using hz
    refine ⟨z, l, A, o, ?_, hF, hlt, by rw [enc_lt hlt], by omega⟩
    rw [iter_succ]
    have h1 : ¬ (128 : Int) ≤ z := by omega
    simp [lp13x0, h1]
  | succ k ih =>
    intro z hz hz2 m l A o a0 a1 a2 a5 a6 hm hl hF
    obtain ⟨m, rfl⟩ : ∃ j, m = j + 1 := ⟨m - 1, by omega⟩
    by_cases hlt : z < 128
    · refine ⟨z, l, A, o, ?_, hF, hlt, by rw [enc_lt hlt], by omega⟩
      rw [iter_succ]
      have h1 : ¬ (128 : Int) ≤ z := by omega
      simp [lp13x0, h1]
    · have h1 : (128 : Int) ≤ z := by omega
      obtain ⟨b, hb⟩ : ∃ b, b = z % 128 + 128 := ⟨_, rfl⟩
      obtain ⟨q, hq⟩ : ∃ q, q = z / 128 := ⟨_, rfl⟩
      have e1 : (z : Int).tmod 128 = (b : Int) - 128 := by rw [Int.tmod_eq_emod_of_nonneg (by omega)]; omega
      have e2 : IntKind.u64.wrap (b : Int) = b := wrapU64 (by omega)
      have e3 : IntKind.u8.wrap (b : Int) = b := wrapU8 (by omega)
      have e4 : (z : Int).tdiv 128 = q := by rw [Int.tdiv_eq_ediv_of_nonneg (by omega)]; omega
      have e5 : IntKind.u64.wrap (q : Int) = q := wrapU64 (by omega)
      obtain ⟨o', A', p1, p2, p3, p4⟩ := append_byte hF (by omega) b (by omega)
      obtain ⟨z', l', A'', o'', q1, q2, q3, q4, q5⟩ := ih q (by rw [hq, Nat.div_lt_iff_lt_mul (by omega)]; rw [Nat.pow_succ] at hz; exact hz) (by omega) m (l ++ [UInt8.ofNat b]) A' o' .undef .undef .undef .undef (.bool true) (by omega) (by simp; omega) p2
      refine ⟨z', l', A'', o'', ?_, q2, q3, by rw [q4, enc_ge hlt, hb, hq]; simp, by simp at q5; omega⟩
      have hbody : run E fuel [.code lp13x0] (clear [0, 1, 2, 5, 6] [a0, a1, a2, .int .u64 z, o, a5, a6]) A = some (.normal [.undef, .undef, .undef, .int .u64 q, o', .undef, .bool true] A') := by
        simp [lp13x0, h1, e1, e2, e3, e4, e5, p1]
      rw [iter_succ, hbody]
      exact q1

theorem zig_lt {n : Int} (h1 : -4611686018427387903 ≤ n) (h2 : n ≤ 4611686018427387903) : zig n < 9223372036854775807 := by
  unfold zig; split <;> omega

theorem ev13 (n : Int) (hn : inI n) : evP (envOf GW [(24, pureH 4 M24)]) 20 mf13 1 [.int .i64 n] = some (putInt n) := by
  rw [evP_run _ _ rfl]
  unfold putInt
  by_cases h : n < -4611686018427387903
  · simp [mf13, h]
  · by_cases h' : 4611686018427387903 < n
    · simp [mf13, h, h']
    · have hz := zig_lt (n := n) (by omega) (by omega)
      have hM : M24 [.int .i64 n] = some (.int .u64 (zig n)) := by simp [M24]; omega
      obtain ⟨z', l', A', o', q1, q2, q3, q4, q5⟩ := loop13_spec (envOf GW [(24, pureH 4 M24)]) 20 9 (zig n) (by omega) (by omega) 20 [] [] .nilS (.int .i64 n) (.str []) (.int .i64 0) (.bool false) .undef (by omega) (by simp) (.inl ⟨rfl, rfl⟩)
      have e3 : IntKind.u8.wrap (z' : Int) = z' := wrapU8 (by omega)
      obtain ⟨o'', A'', p1, p2, p3, p4⟩ := append_byte q2 (by simp at q5; omega) z' (by omega)
      have p5 := toStr_full p2
      rw [q4] at p5
      simp only [List.nil_append] at p5
      simp only [mf13]
      simp [h, h', hM, run_loop _ _ _ q1, e3, p1, p5]

def M13 : PModel := fun args => match args with
  | [.int .i64 n] => if -9223372036854775808 ≤ n ∧ n ≤ 9223372036854775807 then some (putInt n) else none
  | _ => none
theorem spec13 : PureSpec Tryd.prog GW 13 M13 := by
  refine PureSpec.of_ev (E := envOf GW [(24, pureH 4 M24)]) (envOf_sound (lookM_cons (FnSpecY.of_pure spec24 4) lookM_nil)) rfl at13 comp13 1 ?_
  intro args r h
  unfold M13 at h
  split at h
  · simp only [Option.ite_none_right_eq_some, Option.some.injEq] at h
    obtain ⟨h1, rfl⟩ := h
    exact ⟨20, ev13 _ h1⟩
  · cases h
end Go.Proofs.YtnpmfpcppkdniaaDoor
