/-
  Wire: Int, PutString, String.
-/
import Derived.Test.YtnpmfpcppkdniaaDoorW6
namespace Go.Proofs.YtnpmfpcppkdniaaDoor
open Go

theorem ev15 (E : Env) (l : List UInt8) (a : Int) (hl : l.length ≤ 1000000000) : evP E 20 mf15 1 [.str l, .int .i64 a] = some (getInt l a) := by
  rw [evP_run _ _ rfl]
  unfold getInt
  by_cases h : a < 0
  · simp [mf15, h]
  · by_cases h' : (l.length : Int) < a
    · simp [mf15, h, h']
    · obtain ⟨n, rfl⟩ : ∃ n : Nat, a = n := ⟨a.toNat, by omega⟩
      obtain ⟨out, q1, q2⟩ := loop15 E 20 l n hl (by omega) [] 9 0 0 rfl (by simp) 20 (.int .i64 0) (.int .i64 0) (.int .i64 0) .undef .undef .undef (.bool false) .undef .undef .undef .undef (by omega)
      have hrun := fun k => run_loop (k := k) _ _ _ q1
      simp only [Nat.add_zero, mask15, Int.natCast_zero, Int.cast_ofNat_Int] at hrun q2
      have hif : ¬ ((n : Int) < 0 ∨ (l.length : Int) < n) := by omega
      rw [if_neg hif]
      simp only [Int.toNat_natCast]
      have hex : ∀ σ : List AV, out = .exit 0 σ [] → σ.length = 15 → (match run E 20 [.code mf15.mc] ([.str l, .int .i64 (n : Int)] ++ List.replicate (mf15.len - mf15.n) .undef) [] with
          | some (.normal σ A') => (evRes A' σ mf15.res).map fun l => frz A' 1 (pack l)
          | some (.ret σ A') => (evRes A' σ mf15.res).map fun l => frz A' 1 (pack l)
          | _ => none) = some (.tup [.int .i64 0, .int .i64 0, .int .i64 10]) := by
        rintro σ rfl hσ
        simp [mf15, h', hrun, hσ]
      cases hd : dec 9 (l.drop n) with
      | none =>
        rw [hd] at q2
        obtain ⟨σ, h1, h2⟩ := q2
        exact hex σ h1 h2
      | some x =>
        obtain ⟨v, i, c⟩ := x
        rw [hd] at q2
        simp only [Nat.pow_zero, Nat.one_mul, Nat.zero_add, Int.add_zero] at q2 ⊢
        split at q2
        · rename_i hc
          obtain ⟨σ, h1, h2⟩ := q2
          rw [if_pos hc]
          exact hex σ h1 h2
        · rename_i hc
          obtain ⟨σ, rfl, h2, h3, h4⟩ := q2
          rw [if_neg hc]
          simp [mf15, h', hrun, h2, h3, h4]

def M15 : PModel := fun args => match args with
  | [.str l, .int .i64 a] => if l.length ≤ 1000000000 then some (getInt l a) else none
  | _ => none
theorem spec15 : PureSpec Tryd.prog GW 15 M15 := by
  refine PureSpec.of_ev (E := envOf GW []) (envOf_sound lookM_nil) rfl at15 comp15 1 ?_
  intro args r h
  unfold M15 at h
  split at h
  · simp only [Option.ite_none_right_eq_some, Option.some.injEq] at h
    obtain ⟨h1, rfl⟩ := h
    exact ⟨20, ev15 _ _ _ h1⟩
  · cases h

/-- what PutString gives -/
def putStr (l : List UInt8) : AV := if 65536 < l.length then .tup [.str [], .int .i64 10] else .tup [.str (enc (zig l.length) ++ l), .int .i64 0]
theorem zig_nat (n : Nat) : zig (n : Int) = 2 * n := by unfold zig; split <;> omega
theorem enc_len10 {z : Nat} (h : z < 9223372036854775808) : (enc z).length ≤ 9 := enc_len 8 z (by omega)
theorem ev19 (l : List UInt8) : evP (envOf GW [(12, pureH 4 M13)]) 0 mf19 1 [.str l] = some (putStr l) := by
  rw [evP_run _ _ rfl]
  unfold putStr
  by_cases h : 65536 < l.length
  · have h' : (65536 : Int) < l.length := by omega
    simp [mf19, h, h']
  · have h' : ¬ (65536 : Int) < l.length := by omega
    have hm : M13 [.int .i64 (l.length : Int)] = some (.tup [.str (enc (zig l.length)), .int .i64 0]) := by
      simp only [M13, putInt]
      rw [if_pos (by omega), if_neg (by omega)]
    have hz : (enc (zig l.length)).length ≤ 9 := enc_len10 (by rw [zig_nat]; omega)
    have hb : (enc (zig l.length)).length + l.length ≤ 9223372036854775807 := by omega
    simp [mf19, h, h', hm, hb]
theorem ev20 (l : List UInt8) : evP (envOf GW [(13, pureH 4 M13)]) 0 mf20 1 [.str l] = some (putStr l) := by
  rw [evP_run _ _ rfl]
  unfold putStr
  by_cases h : 65536 < l.length
  · have h' : (65536 : Int) < l.length := by omega
    simp [mf20, h, h']
  · have h' : ¬ (65536 : Int) < l.length := by omega
    have hm : M13 [.int .i64 (l.length : Int)] = some (.tup [.str (enc (zig l.length)), .int .i64 0]) := by
      simp only [M13, putInt]
      rw [if_pos (by omega), if_neg (by omega)]
    have hz : (enc (zig l.length)).length ≤ 9 := enc_len10 (by rw [zig_nat]; omega)
    have hb : (enc (zig l.length)).length + l.length ≤ 9223372036854775807 := by omega
    simp [mf20, h, h', hm, hb]
def M19 : PModel := fun args => match args with
  | [.str l] => some (putStr l)
  | _ => none
theorem spec19 : PureSpec Tryd.prog GW 19 M19 := by
  refine PureSpec.of_ev (E := envOf GW [(12, pureH 4 M13)]) (envOf_sound (lookM_cons (FnSpecY.of_pure spec12 4) lookM_nil)) rfl at19 comp19 1 ?_
  intro args r h
  unfold M19 at h
  split at h
  · injection h with h; subst h; exact ⟨0, ev19 _⟩
  · cases h
theorem spec20 : PureSpec Tryd.prog GW 20 M19 := by
  refine PureSpec.of_ev (E := envOf GW [(13, pureH 4 M13)]) (envOf_sound (lookM_cons (FnSpecY.of_pure spec13 4) lookM_nil)) rfl at20 comp20 1 ?_
  intro args r h
  unfold M19 at h
  split at h
  · injection h with h; subst h; exact ⟨0, ev20 _⟩
  · cases h
end Go.Proofs.YtnpmfpcppkdniaaDoor
