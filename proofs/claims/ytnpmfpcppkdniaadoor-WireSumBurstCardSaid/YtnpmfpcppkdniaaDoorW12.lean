/-
  Wire: the reference's Sum.
-/
import Derived.Test.YtnpmfpcppkdniaaDoorW11
namespace Go.Proofs.YtnpmfpcppkdniaaDoor
open Go

theorem loop22 (fs : List (FuncId × HModel)) (fuel : Nat) (hf : 8 < fuel) (s : List UInt8) (hs : s.length ≤ 1000000000) (A : Arena) : ∀ (k i r : Nat), i + k = s.length → r < 4294967296 → ∀ (m : Nat) (b1 b4 b5 b6 b7 b8 : AV), k < m →
    iter (evC (envOf GW fs) fuel lp22x1) [1, 4, 5, 6, 7, 8] m [.str s, b1, .int .u32 r, .int .i64 i, b4, b5, b6, b7, b8] A =
      some (.exit 0 [.str s, .undef, .int .u32 (crc (s.drop i) r), .int .i64 s.length, .undef, .undef, .bool false, .undef, .undef] A) := by
  intro k
  induction k with
  | zero =>
    intro i r hik hr m b1 b4 b5 b6 b7 b8 hm
    obtain ⟨m, rfl⟩ : ∃ j, m = j + 1 := ⟨m - 1, by omega⟩
    obtain rfl : i = s.length := by omega
    rw [iter_succ, List.drop_length]
    simp [lp22x1, crc]
  | succ k ih =>
    intro i r hik hr m b1 b4 b5 b6 b7 b8 hm
    obtain ⟨m, rfl⟩ : ∃ j, m = j + 1 := ⟨m - 1, by omega⟩
    have hlt : i < s.length := by omega
    have hlt' : (i : Int) < s.length := by omega
    obtain ⟨b, hb⟩ : ∃ b, s[i]? = some b := ⟨s[i], by simp [hlt]⟩
    have hdrop : s.drop i = b :: s.drop (i + 1) := by
      rw [List.drop_eq_getElem_cons hlt]
      rw [List.getElem?_eq_getElem hlt] at hb
      injection hb with hb; rw [hb]
    have hbl := u8_lt b
    obtain ⟨c, hc⟩ : ∃ c, c = b.toNat := ⟨_, rfl⟩
    have hb' : Option.map (fun b => AV.int IntKind.u8 (b.toNat : Int)) s[i]? = some (.int .u8 c) := by rw [hb, hc]; rfl
    have e0 : IntKind.u32.wrap (c : Int) = c := wrapU32 (by omega)
    obtain ⟨x1, hx1⟩ : ∃ x1, x1 = r ^^^ c := ⟨_, rfl⟩
    have e1 : xorI .u32 (r : Int) (c : Int) = x1 := by rw [xor32 r c hr (by omega), hx1]
    have hx1l : x1 < 4294967296 := by rw [hx1]; exact xor_lt32 hr (by omega)
    obtain ⟨c5, c8, hin⟩ := loop22i (envOf GW fs) fuel (.str s) (.int .i64 i) A 8 0 x1 rfl hx1l fuel .undef .undef (.bool true) .undef .undef hf
    have hrun := fun k => run_loop (k := k) _ _ _ hin
    simp only [Int.natCast_zero, Int.cast_ofNat_Int] at hrun
    have hcb : crcByte r b = bitSteps 8 x1 := by unfold crcByte; rw [hx1, hc]
    obtain ⟨i1, hi1⟩ : ∃ i1, i1 = i + 1 := ⟨_, rfl⟩
    have w2 : IntKind.i64.wrap ((i : Int) + 1) = i1 := by rw [wrapI (by unfold inI; omega)]; omega
    have hbody : run (envOf GW fs) fuel [.code lp22x1] (clear [1, 4, 5, 6, 7, 8] [.str s, b1, .int .u32 r, .int .i64 i, b4, b5, b6, b7, b8]) A =
        some (.normal [.str s, .undef, .int .u32 (bitSteps 8 x1), .int .i64 i1, .int .i64 8, c5, .undef, .bool false, c8] A) := by
      simp [lp22x1, hlt', hb', e0, e1, hrun, w2]
    rw [iter_succ, hbody]
    have := ih i1 (bitSteps 8 x1) (by omega) (bitSteps_lt 8 hx1l) m .undef (.int .i64 8) c5 .undef (.bool false) c8 (by omega)
    simp only
    rw [this, hdrop]
    simp only [crc, List.foldl_cons, hcb, ← hi1]

theorem ev22 (l : List UInt8) (hl : l.length ≤ 1000000000) : evP (envOf GW []) (l.length + 20) mf22 1 [.str l] = some (.int .i64 (sumL l)) := by
  rw [evP_run _ _ rfl]
  have hlp := loop22 [] (l.length + 20) (by omega) l hl [] l.length 0 4294967295 (by omega) (by omega) (l.length + 20) (.int .i64 0) .undef .undef .undef .undef .undef (by omega)
  have hrun := fun k => run_loop (k := k) _ _ _ hlp
  simp only [Int.natCast_zero, Int.cast_ofNat_Int, List.drop_zero] at hrun
  have hc := crc_lt l (show 4294967295 < 4294967296 by omega)
  have hm : IntKind.u32.max = ((4294967295 : Nat) : Int) := by decide
  have e1 : xorI .u32 IntKind.u32.max (crc l 4294967295 : Int) = ((4294967295 ^^^ crc l 4294967295 : Nat) : Int) := by rw [hm, xor32 _ _ (by omega) hc]
  have hx := xor_lt32 (show 4294967295 < 4294967296 by omega) hc
  have e2 : IntKind.i64.wrap ((4294967295 ^^^ crc l 4294967295 : Nat) : Int) = sumL l := by rw [wrapI (by unfold inI; omega)]; rfl
  have hs : IntKind.u32.signed = false := rfl
  simp only [mf22]
  obtain ⟨y, hy⟩ : ∃ y : Nat, y = 4294967295 ^^^ crc l 4294967295 := ⟨_, rfl⟩
  rw [← hy] at e1 e2
  simp [hrun, hs, e1, e2]

def M21 : PModel := fun args => match args with
  | [.str l] => if l.length ≤ 1000000000 then some (.int .i64 (sumL l)) else none
  | _ => none
theorem spec21 : PureSpec Tryd.prog GW 21 M21 := by
  refine PureSpec.of_ev (E := envOf GW []) (envOf_sound lookM_nil) rfl at21 comp21 1 ?_
  intro args r h
  unfold M21 at h
  split at h
  · simp only [Option.ite_none_right_eq_some, Option.some.injEq] at h
    obtain ⟨h1, rfl⟩ := h
    exact ⟨_, ev21 _ h1⟩
  · cases h
theorem spec22 : PureSpec Tryd.prog GW 22 M21 := by
  refine PureSpec.of_ev (E := envOf GW []) (envOf_sound lookM_nil) rfl at22 comp22 1 ?_
  intro args r h
  unfold M21 at h
  split at h
  · simp only [Option.ite_none_right_eq_some, Option.some.injEq] at h
    obtain ⟨h1, rfl⟩ := h
    exact ⟨_, ev22 _ h1⟩
  · cases h

/-- what the laws call -/
def fsW : List (FuncId × HModel) := [(10, pureH 4 fun args => match args with | [] => some (.bool true) | _ => none), (11, pureH 4 M11), (12, pureH 4 M13), (13, pureH 4 M13), (14, pureH 4 M14), (15, pureH 4 M15), (16, pureH 4 M15), (17, pureH 4 M17), (18, pureH 4 M17), (19, pureH 4 M19), (20, pureH 4 M19), (21, pureH 4 M21), (22, pureH 4 M21)]
def fsS : List (FuncId × HModel) := [(12, pureH 4 M13), (15, pureH 4 M15), (17, pureH 4 M17), (19, pureH 4 M19), (21, pureH 4 M21)]
theorem soundS : ∀ f M, lookM fsS f = some M → FnSpecY Tryd.prog GW f M :=
  lookM_cons (FnSpecY.of_pure spec12 4) (lookM_cons (FnSpecY.of_pure spec15 4) (lookM_cons (FnSpecY.of_pure spec17 4) (lookM_cons (FnSpecY.of_pure spec19 4) (lookM_cons (FnSpecY.of_pure spec21 4) lookM_nil))))

set_option maxRecDepth 100000 in
set_option maxHeartbeats 2000000 in
theorem ev10 : evP (envOf GW fsS) 0 mf10 1 [] = some (.bool true) := by
  have m1 : M13 [.int .i64 (-64)] = some (.tup [.str [127], .int .i64 0]) := by
    simp only [M13, putInt]; rw [if_pos (by omega), if_neg (by omega), show zig (-64) = 127 by decide, enc_lt (by omega)]; rfl
  have m2 : M13 [.int .i64 64] = some (.tup [.str [128, 1], .int .i64 0]) := by
    simp only [M13, putInt]; rw [if_pos (by omega), if_neg (by omega), show zig 64 = 128 by decide, enc_ge (by omega), enc_lt (by omega)]; rfl
  have m3 : M15 [.str [97, 172, 2, 98], .int .i64 1] = some (.tup [.int .i64 150, .int .i64 3, .int .i64 0]) := by rfl
  have m4 : M15 [.str [128, 0], .int .i64 0] = some (.tup [.int .i64 0, .int .i64 0, .int .i64 10]) := by rfl
  have m5 : M19 [.str [97, 98]] = some (.tup [.str [4, 97, 98], .int .i64 0]) := by
    simp only [M19, putStr]; rw [if_neg (by decide), show zig (([97, 98] : List UInt8).length : Int) = 4 by decide, enc_lt (by omega)]; rfl
  have m6 : M17 [.str [4, 97, 98, 99], .int .i64 0] = some (.tup [.str [97, 98], .int .i64 3, .int .i64 0]) := by rfl
  have m7 : M17 [.str [4, 97], .int .i64 0] = some (.tup [.str [], .int .i64 0, .int .i64 10]) := by rfl
  have m8 : M13 [.int .i64 4611686018427387904] = some (.tup [.str [], .int .i64 10]) := by
    simp only [M13, putInt]; rw [if_pos (by omega), if_pos (by omega)]
  have m9 : M15 [.str [], .int .i64 1] = some (.tup [.int .i64 0, .int .i64 0, .int .i64 2]) := by rfl
  have m10 : M21 [.str [49, 50, 51, 52, 53, 54, 55, 56, 57]] = some (.int .i64 3808858755) := by rfl
  rw [evP_run _ _ rfl]
  simp [mf10, fsS, m1, m2, m3, m4, m5, m6, m7, m8, m9, m10]
end Go.Proofs.YtnpmfpcppkdniaaDoor
