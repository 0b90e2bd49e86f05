/-
  Wire: groups and PutInt.
-/
import Derived.Test.YtnpmfpcppkdniaaDoorW3
namespace Go.Proofs.YtnpmfpcppkdniaaDoor
open Go

theorem Full.ne_dead {A : Arena} {o : AV} {esz : Nat} {xs : List AV} (h : Full A o esz xs) {b : Nat} (hb : A[b]? = some .dead) : ∀ n, o ≠ .sl b 0 n := by
  rintro n rfl
  rcases h with ⟨h, _⟩ | ⟨id, gr', h1, h2⟩
  · cases h
  · cases h1; rw [hb] at h2; cases h2
theorem Full.no_int {A : Arena} {o : AV} {esz : Nat} {xs : List AV} (h : Full A o esz xs) (k : IntKind) (x : Int) : o ≠ .int k x := by
  rintro rfl
  rcases h with ⟨h, _⟩ | ⟨id, gr', h1, _⟩
  · cases h
  · cases h1

theorem set_dead {A : Arena} {n0 : Nat} (h : A[n0]? = some .dead) : A.set n0 .dead = A := by
  apply List.ext_getElem?
  intro i
  by_cases e : n0 = i
  · subst e; rw [List.getElem?_set_self (List.getElem?_eq_some_iff.1 h).1, h]
  · rw [List.getElem?_set_ne e]

/-- what a yield does -/
theorem yield12 (E : Env) (fuel n0 : Nat) (a0 a1 a2 a4 a5 a6 a7 a8 a9 a10 : AV) (c b : Nat) (hb : b < 128) (last : Bool) (A : Arena) (o : AV) (l : List UInt8) (hn : A[n0]? = some .dead) (hc : A[c]? = some (.row 1 false [o]))
    (hF : Full A o 1 (bytesA l)) (hl : l.length < 100) :
    ∃ A' o', (∀ (L : Nat) (r : Loop) (h0 : Handler), yieldH n0 L r [a0, a1, a2, .ptr c 0 0, a4, a5, a6, a7, a8, a9, a10] [8, 9] (evC E fuel lp12x0) (evC E fuel lp12x1) h0 (.func (.yield L) [] []) [.int .u8 b, .bool last] (A.set n0 (.loop r 0)) = some (.bool true, A'.set n0 (.loop r 0))) ∧
      A'[n0]? = some .dead ∧ A'[c]? = some (.row 1 false [o']) ∧ Full A' o' 1 (bytesA (l ++ [UInt8.ofNat (if last then b else b + 128)])) ∧ (∀ id, id < A.length → id ≠ c → (∀ n, o ≠ .sl id 0 n) → A'[id]? = A[id]?) := by
  have hnc : n0 ≠ c := by rintro rfl; rw [hn] at hc; cases hc
  have hlt : n0 < A.length := (List.getElem?_eq_some_iff.1 hn).1
  have hon := hF.ne_dead hn
  obtain ⟨σ3, A3, o', q1, q2, q3, q4, q5⟩ := round12 E fuel a0 a1 a2 a6 a7 (.int .u8 b) (.bool last) a10 c b hb last A o l hc hF hl
  refine ⟨A3, o', fun L r h0 => ?_, (q4 n0 hlt hnc hon).trans hn, q2, q3, q4⟩
  refine yieldH_normal (σ1 := [a0, a1, a2, .ptr c 0 0, a4, a5, a6, a7, .int .u8 b, .bool last, a10]) (A2 := A.set n0 (.loop r 0)) (by simp [hlt]) rfl (by simp [lp12x0]) (by simp [hlt]) (σ2 := [a0, a1, a2, .ptr c 0 0, .int .u8 b, .bool last, a6, a7, .int .u8 b, .bool last, a10]) (σ3 := σ3) ?_
  rw [List.set_set, set_dead hn]; exact q1

theorem loop25 (E : Env) (fuel f2 n0 : Nat) (a0 a1 a2 a4 a5 a6 a7 a8 a9 a10 : AV) (c b : Nat) : ∀ (k z : Nat), z < 128 ^ (k + 1) → z < 18446744073709551616 →
    ∀ (m : Nat) (l : List UInt8) (A : Arena) (o b2 b3 : AV), k < m → l.length + k < 90 → A[b]? = some (.row 1 false [.int .u64 z]) → A[n0]? = some .dead → A[c]? = some (.row 1 false [o]) → Full A o 1 (bytesA l) →
    ∃ A' o', (∀ (L : Nat) (r : Loop) (h0 : Handler) (fs : List (FuncId × HModel)), iter (evC (envY GW fs (yieldH n0 L r [a0, a1, a2, .ptr c 0 0, a4, a5, a6, a7, a8, a9, a10] [8, 9] (evC E f2 lp12x0) (evC E f2 lp12x1) h0)) fuel lp25x0) [2, 3] m
        [.func (.yield L) [] [], .ptr b 0 0, b2, b3] (A.set n0 (.loop r 0)) = some (.ret [.func (.yield L) [] [], .ptr b 0 0, .bool true, .bool true] (A'.set n0 (.loop r 0)))) ∧
      A'[n0]? = some .dead ∧ A'[c]? = some (.row 1 false [o']) ∧ Full A' o' 1 (bytesA (l ++ enc z)) := by
  intro k
  have last : ∀ (z : Nat), z < 128 → z < 18446744073709551616 → ∀ (m : Nat) (l : List UInt8) (A : Arena) (o b2 b3 : AV), 0 < m → l.length < 90 → A[b]? = some (.row 1 false [.int .u64 z]) → A[n0]? = some .dead → A[c]? = some (.row 1 false [o]) → Full A o 1 (bytesA l) →
      ∃ A' o', (∀ (L : Nat) (r : Loop) (h0 : Handler) (fs : List (FuncId × HModel)), iter (evC (envY GW fs (yieldH n0 L r [a0, a1, a2, .ptr c 0 0, a4, a5, a6, a7, a8, a9, a10] [8, 9] (evC E f2 lp12x0) (evC E f2 lp12x1) h0)) fuel lp25x0) [2, 3] m
        [.func (.yield L) [] [], .ptr b 0 0, b2, b3] (A.set n0 (.loop r 0)) = some (.ret [.func (.yield L) [] [], .ptr b 0 0, .bool true, .bool true] (A'.set n0 (.loop r 0)))) ∧
      A'[n0]? = some .dead ∧ A'[c]? = some (.row 1 false [o']) ∧ Full A' o' 1 (bytesA (l ++ enc z)) := by
    intro z hlt hz2 m l A o b2 b3 hm hl hAb hAn hAc hF
    obtain ⟨m, rfl⟩ : ∃ j, m = j + 1 := ⟨m - 1, by omega⟩
    have h1 : (z : Int) < 128 := by omega
    have e1 : andI .u64 (z : Int) 127 = z := by rw [and127 z hz2, Nat.mod_eq_of_lt hlt]
    have e2 : IntKind.u8.wrap (z : Int) = z := wrapU8 (by omega)
    have hbn : n0 ≠ b := by rintro rfl; rw [hAb] at hAn; cases hAn
    obtain ⟨A', o', q1, q2, q3, q4, q5⟩ := yield12 E f2 n0 a0 a1 a2 a4 a5 a6 a7 a8 a9 a10 c z hlt true A o l hAn hAc hF (by omega)
    refine ⟨A', o', fun L r h0 fs => ?_, q2, q3, by simpa [enc_lt hlt] using q4⟩
    have hAb2 : (A.set n0 (.loop r 0))[b]? = some (.row 1 false [.int .u64 z]) := by rw [List.getElem?_set_ne hbn]; exact hAb
    have hbody : run (envY GW fs (yieldH n0 L r [a0, a1, a2, .ptr c 0 0, a4, a5, a6, a7, a8, a9, a10] [8, 9] (evC E f2 lp12x0) (evC E f2 lp12x1) h0)) fuel [.code lp25x0] (clear [2, 3] [.func (.yield L) [] [], .ptr b 0 0, b2, b3]) (A.set n0 (.loop r 0)) =
        some (.ret [.func (.yield L) [] [], .ptr b 0 0, .bool true, .bool true] (A'.set n0 (.loop r 0))) := by
      simp [lp25x0, hAb2, h1, e1, e2, q1]
    rw [iter_succ, hbody]
  induction k with
  | zero => exact fun z hz hz2 m l A o b2 b3 hm hl => last z (by simpa using hz) hz2 m l A o b2 b3 hm (by omega)
  | succ k ih =>
    intro z hz hz2 m l A o b2 b3 hm hl hAb hAn hAc hF
    by_cases hlt : z < 128
    · exact last z hlt hz2 m l A o b2 b3 (by omega) (by omega) hAb hAn hAc hF
    · obtain ⟨m, rfl⟩ : ∃ j, m = j + 1 := ⟨m - 1, by omega⟩
      have h1 : ¬ (z : Int) < 128 := by omega
      obtain ⟨g, hg⟩ : ∃ g, g = z % 128 := ⟨_, rfl⟩
      obtain ⟨q, hq⟩ : ∃ q, q = z / 128 := ⟨_, rfl⟩
      have e1 : andI .u64 (z : Int) 127 = g := by rw [and127 z hz2, hg]
      have e2 : IntKind.u8.wrap (g : Int) = g := wrapU8 (by omega)
      have e3 : (z : Int).fdiv 128 = q := by rw [Int.fdiv_eq_ediv_of_nonneg _ (by decide)]; omega
      obtain ⟨A', o', q1, q2, q3, q4, q5⟩ := yield12 E f2 n0 a0 a1 a2 a4 a5 a6 a7 a8 a9 a10 c g (by omega) false A o l hAn hAc hF (by omega)
      have hbl : b < A.length := (List.getElem?_eq_some_iff.1 hAb).1
      have hbc : b ≠ c := by
        rintro rfl
        rw [hAb] at hAc
        injection hAc with h; injection h with _ _ h; injection h with h
        exact hF.no_int _ _ h.symm
      have hbn : b ≠ n0 := by rintro rfl; rw [hAb] at hAn; cases hAn
      have hAb' := (q5 b hbl hbc (hF.ne_row hAb (by simp))).trans hAb
      have hbl' : b < A'.length := (List.getElem?_eq_some_iff.1 hAb').1
      have q4' : Full A' o' 1 (bytesA (l ++ [UInt8.ofNat (g + 128)])) := q4
      have hF2 : Full (A'.set b (.row 1 false [.int .u64 q])) o' 1 (bytesA (l ++ [UInt8.ofNat (g + 128)])) := by
        refine q4'.keep fun id n e => ?_
        rw [List.getElem?_set_ne]
        rintro rfl
        exact q4'.ne_row hAb' (by simp) n e
      obtain ⟨A'', o'', r1, r2, r3, r4⟩ := ih q (by rw [hq, Nat.div_lt_iff_lt_mul (by omega)]; rw [Nat.pow_succ] at hz; exact hz) (by omega) m (l ++ [UInt8.ofNat (g + 128)]) (A'.set b (.row 1 false [.int .u64 q])) o' (.bool false) (.bool false) (by omega) (by simp; omega)
        (by simp [hbl']) (by rw [List.getElem?_set_ne hbn]; exact q2) (by rw [List.getElem?_set_ne hbc]; exact q3) hF2
      refine ⟨A'', o'', fun L r h0 fs => ?_, r2, r3, by rw [enc_ge hlt, ← hg, ← hq]; simpa using r4⟩
      have hAb2 : (A.set n0 (.loop r 0))[b]? = some (.row 1 false [.int .u64 z]) := by rw [List.getElem?_set_ne (Ne.symm hbn)]; exact hAb
      have hAb3 : (A'.set n0 (.loop r 0))[b]? = some (.row 1 false [.int .u64 z]) := by rw [List.getElem?_set_ne (Ne.symm hbn)]; exact hAb'
      have hbody : run (envY GW fs (yieldH n0 L r [a0, a1, a2, .ptr c 0 0, a4, a5, a6, a7, a8, a9, a10] [8, 9] (evC E f2 lp12x0) (evC E f2 lp12x1) h0)) fuel [.code lp25x0] (clear [2, 3] [.func (.yield L) [] [], .ptr b 0 0, b2, b3]) (A.set n0 (.loop r 0)) =
          some (.normal [.func (.yield L) [] [], .ptr b 0 0, .bool false, .bool false] ((A'.set n0 (.loop r 0)).set b (.row 1 false [.int .u64 q]))) := by
        simp [lp25x0, hAb2, h1, e1, e2, e3, q1, hAb3]
      rw [iter_succ, hbody]
      simp only
      rw [List.set_comm _ _ (Ne.symm hbn)]
      exact r1 L r h0 fs

/-- groups: a function that yields -/
theorem ev23 (E : Env) (z : Int) (A : Arena) : evFun E 0 mf23 [.int .u64 z] A = some (.func (.func 25) [] [.ptr A.length 0 0], A ++ [.row 1 false [.int .u64 z]]) := by
  rw [evFun_run _ _ rfl]
  simp [mf23]
noncomputable def H23 : HModel := fun h => evFun (envY GW [] h) 0 mf23
noncomputable def H25 : HModel := fun h => evFun (envY GW [] h) 20 mf25
theorem spec23 : FnSpecY Tryd.prog GW 23 H23 := evFun_soundY lookM_nil at23 comp23
theorem spec25 : FnSpecY Tryd.prog GW 25 H25 := evFun_soundY lookM_nil at25 comp25
noncomputable def E12 : Env := envOf GW [(23, H23), (25, H25)]

theorem ev12 (n : Int) (hn : inI n) : evP E12 20 mf12 1 [.int .i64 n] = some (putInt n) := by
  rw [evP_run _ _ rfl]
  unfold putInt
  by_cases h : n < -4611686018427387903
  · simp [mf12, h]
  · by_cases h' : 4611686018427387903 < n
    · simp [mf12, h, h']
    · have hz := zig_lt (n := n) (by omega) (by omega)
      have hzb := zigBits n (by omega) (by omega)
      obtain ⟨σ, hσ⟩ : ∃ σ : List AV, σ = [.int .i64 n, .str [], .int .i64 0, .ptr 0 0 0, .undef, .undef, .bool false, .func (.func 25) [] [.ptr 1 0 0], .undef, .undef, .undef] := ⟨_, rfl⟩
      obtain ⟨σ, hσ⟩ : ∃ σ : List AV, σ = [.int .i64 n, .str [], .int .i64 0, .ptr 0 0 0, .undef, .undef, .bool false, .func (.func 25) [] [.ptr 1 0 0], .undef, .undef, .undef] := ⟨_, rfl⟩
      obtain ⟨A', o', q1, q2, q3, q4⟩ := loop25 E12 20 20 2 (.int .i64 n) (.str []) (.int .i64 0) .undef .undef (.bool false) (.func (.func 25) [] [.ptr 1 0 0]) .undef .undef .undef 0 1 9 (zig n) (by omega) (by omega) 20 []
        [.row 1 false [.nilS], .row 1 false [.int .u64 (zig n)], .dead] .nilS .undef .undef (by omega) (by simp) rfl rfl rfl (.inl ⟨rfl, rfl⟩)
      have hlen : 2 < A'.length := (List.getElem?_eq_some_iff.1 q2).1
      have hrange : run E12 20 [.code (.rangeFunc (.var 7) [8, 9] lp12x0 lp12x1)] σ [.row 1 false [.nilS], .row 1 false [.int .u64 (zig n)]] = some (.normal σ A') := by
        refine (run_rangeFunc _ _ _ _ (.normal σ A') fun L r => ?_).trans (by simp)
        have hq := q1 L r (fun _ _ _ => none) []
        simp only [List.set_cons_succ, List.set_cons_zero] at hq
        have hcall : E12.callY (yieldH 2 L r σ [8, 9] (evC E12 20 lp12x0) (evC E12 20 lp12x1) E12.hand) (evX E12 σ [] (.var 7)) [.func (.yield L) [] []] ([.row 1 false [.nilS], .row 1 false [.int .u64 (zig n)]] ++ [Ent.loop r 0]) = some (.tup [], A'.set 2 (.loop r 0)) := by
          have hx : evX E12 σ [] (.var 7) = .func (.func 25) [] [.ptr 1 0 0] := by rw [hσ]; rfl
          rw [hx]
          show H25 _ ([] ++ [.func (.yield L) [] []] ++ [.ptr 1 0 0]) _ = _
          unfold H25
          rw [evFun_run _ _ rfl]
          rw [hσ]
          have hq' := run_loop (k := [.blk 0]) _ _ _ hq
          simp only [envOf, envY, E12] at hq' ⊢
          simp [mf25, hq', envY]
        have hlen' : [Ent.row 1 false [.nilS], .row 1 false [.int .u64 (zig n)]].length = 2 := rfl
        rw [hlen', hcall]
        simp only [afterR]
        simp [hlen, List.set_set, set_dead q2]
      have hM : ∀ h A, H23 h [.int .u64 (zig n)] A = some (.func (.func 25) [] [.ptr A.length 0 0], A ++ [.row 1 false [.int .u64 (zig n)]]) := fun h A => ev23 _ _ A
      have hcall : ∀ (h : Handler) (A : Arena), callM [(23, H23), (25, H25)] h (.func (.func 23) [] []) [.int .u64 (zig n)] A = some (.func (.func 25) [] [.ptr A.length 0 0], A ++ [.row 1 false [.int .u64 (zig n)]]) := fun h A => hM h A
      have hld : loadElem o' 1 0 false 1 = some o' := by
        rcases q4 with ⟨rfl, _⟩ | ⟨id, gr', rfl, _⟩ <;> rfl
      have hstr := toStr_full q4
      rw [hσ] at hrange
      simp at hzb
      unfold E12 at hrange ⊢
      simp only [List.nil_append] at hstr
      simp [mf12, h, h', hzb, hcall, run_of hrange, q3, hld, hstr, -callM]

theorem spec12 : PureSpec Tryd.prog GW 12 M13 := by
  refine PureSpec.of_ev (E := E12) (envOf_sound (lookM_cons spec23 (lookM_cons spec25 lookM_nil))) rfl at12 comp12 1 ?_
  intro args r h
  unfold M13 at h
  split at h
  · simp only [Option.ite_none_right_eq_some, Option.some.injEq] at h
    obtain ⟨h1, rfl⟩ := h
    exact ⟨20, ev12 _ h1⟩
  · cases h
end Go.Proofs.YtnpmfpcppkdniaaDoor
