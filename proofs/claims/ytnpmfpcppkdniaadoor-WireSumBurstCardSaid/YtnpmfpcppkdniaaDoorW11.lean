/-
  Wire: both Sums.
-/
import Derived.Test.YtnpmfpcppkdniaaDoorW10
namespace Go.Proofs.YtnpmfpcppkdniaaDoor
open Go

theorem nibs_get {k : Nat} (h : k < 16) : nibs[k]? = some (nibN k : Int) := by
  have : ∀ k : Fin 16, nibs[(k : Nat)]? = some (nibN k : Int) := by decide
  exact this ⟨k, h⟩
theorem nibs_get' {k : Nat} (h : k < 16) (h' : k < nibs.length) : nibs[k] = (nibN k : Int) := by
  have := nibs_get h
  rw [List.getElem?_eq_getElem h'] at this
  injection this
theorem nibs_len : nibs.length = 16 := rfl
theorem nibN_lt {k : Nat} (h : k < 16) : nibN k < 4294967296 := by
  have : ∀ k : Fin 16, nibN k < 4294967296 := by decide
  exact this ⟨k, h⟩

theorem crcByte_nib (r : Nat) (b : UInt8) (x1 x2 : Nat) (h1 : x1 = r ^^^ b.toNat) (h2 : x2 = (x1 / 16) ^^^ nibN (x1 % 16)) : crcByte r b = (x2 / 16) ^^^ nibN (x2 % 16) := by
  unfold crcByte
  rw [show (8 : Nat) = 4 + 4 from rfl, bitSteps_add, ← h1, nib_step x1, ← h2, nib_step x2]

theorem loop21 (fuel : Nat) (fs : List (FuncId × HModel)) (s : List UInt8) (hs : s.length ≤ 1000000000) (A : Arena) : ∀ (k i r : Nat), i + k = s.length → r < 4294967296 → ∀ (m : Nat) (b1 b3 b6 : AV), k < m →
    iter (evC (envOf GW fs) fuel lp21x0) [1, 3, 6] m [.str s, b1, .int .u32 r, b3, .int .i64 s.length, .int .i64 i, b6] A =
      some (.exit 0 [.str s, .undef, .int .u32 (crc (s.drop i) r), .undef, .int .i64 s.length, .int .i64 s.length, .bool false] A) := by
  intro k
  induction k with
  | zero =>
    intro i r hik hr m b1 b3 b6 hm
    obtain ⟨m, rfl⟩ : ∃ j, m = j + 1 := ⟨m - 1, by omega⟩
    obtain rfl : i = s.length := by omega
    rw [iter_succ, List.drop_length]
    simp [lp21x0, crc]
  | succ k ih =>
    intro i r hik hr m b1 b3 b6 hm
    obtain ⟨m, rfl⟩ : ∃ j, m = j + 1 := ⟨m - 1, by omega⟩
    have hlt : i < s.length := by omega
    have hlt' : (i : Int) < s.length := by omega
    obtain ⟨b, hb⟩ : ∃ b, s[i]? = some b := ⟨s[i], by simp [hlt]⟩
    have hdrop : s.drop i = b :: s.drop (i + 1) := by
      rw [List.drop_eq_getElem_cons hlt]
      rw [List.getElem?_eq_getElem hlt] at hb
      injection hb with hb; rw [hb]
    have hbl := u8_lt b
    obtain ⟨c, hc⟩ : ∃ c, c = b.toNat := ⟨_, rfl⟩
    have hb' : Option.map (fun b => AV.int IntKind.u8 (b.toNat : Int)) s[i]? = some (.int .u8 c) := by rw [hb, hc]; rfl
    have e0 : IntKind.u32.wrap (c : Int) = c := wrapU32 (by omega)
    obtain ⟨x1, hx1⟩ : ∃ x1, x1 = r ^^^ c := ⟨_, rfl⟩
    have e1 : xorI .u32 (r : Int) (c : Int) = x1 := by rw [xor32 r c hr (by omega), hx1]
    have hx1l : x1 < 4294967296 := by rw [hx1]; exact xor_lt32 hr (by omega)
    obtain ⟨q1, hq1⟩ : ∃ q1, q1 = x1 / 16 := ⟨_, rfl⟩
    obtain ⟨k1, hk1⟩ : ∃ k1, k1 = x1 % 16 := ⟨_, rfl⟩
    have f1 : (x1 : Int).fdiv 16 = q1 := by rw [Int.fdiv_eq_ediv_of_nonneg _ (by decide)]; omega
    have f2 : andI .u32 (x1 : Int) 15 = k1 := by rw [and15 x1 hx1l, hk1]
    have f3 : k1 < 16 := by omega
    have f3' : (k1 : Int) < 16 := by omega
    have f4 := nibs_get' f3
    obtain ⟨x2, hx2⟩ : ∃ x2, x2 = q1 ^^^ nibN k1 := ⟨_, rfl⟩
    have f5 : xorI .u32 (q1 : Int) (nibN k1 : Int) = x2 := by rw [xor32 q1 _ (by omega) (nibN_lt f3), hx2]
    have hx2l : x2 < 4294967296 := by rw [hx2]; exact xor_lt32 (by omega) (nibN_lt f3)
    obtain ⟨q2, hq2⟩ : ∃ q2, q2 = x2 / 16 := ⟨_, rfl⟩
    obtain ⟨k2, hk2⟩ : ∃ k2, k2 = x2 % 16 := ⟨_, rfl⟩
    have g1 : (x2 : Int).fdiv 16 = q2 := by rw [Int.fdiv_eq_ediv_of_nonneg _ (by decide)]; omega
    have g2 : andI .u32 (x2 : Int) 15 = k2 := by rw [and15 x2 hx2l, hk2]
    have g3 : k2 < 16 := by omega
    have g3' : (k2 : Int) < 16 := by omega
    have g4 := nibs_get' g3
    obtain ⟨x3, hx3⟩ : ∃ x3, x3 = q2 ^^^ nibN k2 := ⟨_, rfl⟩
    have g5 : xorI .u32 (q2 : Int) (nibN k2 : Int) = x3 := by rw [xor32 q2 _ (by omega) (nibN_lt g3), hx3]
    have hcb : crcByte r b = x3 := by rw [crcByte_nib r b x1 x2 (by rw [hx1, hc]) (by rw [hx2, hq1, hk1]), hx3, hq2, hk2]
    obtain ⟨i1, hi1⟩ : ∃ i1, i1 = i + 1 := ⟨_, rfl⟩
    have w2 : IntKind.i64.wrap ((i : Int) + 1) = i1 := by rw [wrapI (by unfold inI; omega)]; omega
    have hbody : run (envOf GW fs) fuel [.code lp21x0] (clear [1, 3, 6] [.str s, b1, .int .u32 r, b3, .int .i64 s.length, .int .i64 i, b6]) A =
        some (.normal [.str s, .undef, .int .u32 x3, .int .i64 i, .int .i64 s.length, .int .i64 i1, .bool true] A) := by
      simp [lp21x0, hlt', hb', e0, e1, f1, f2, f3, f3', f4, f5, g1, g2, g3, g3', g4, g5, w2, GW, nibs_len, evIndexArr]
    rw [iter_succ, hbody]
    have hx3l : x3 < 4294967296 := by rw [← hcb]; exact crcByte_lt hr b
    have := ih i1 x3 (by omega) hx3l m .undef (.int .i64 i) (.bool true) (by omega)
    simp only
    rw [this, hdrop]
    simp only [crc, List.foldl_cons, hcb, ← hi1]

theorem ev21 (l : List UInt8) (hl : l.length ≤ 1000000000) : evP (envOf GW []) (l.length + 1) mf21 1 [.str l] = some (.int .i64 (sumL l)) := by
  rw [evP_run _ _ rfl]
  have hlp := loop21 (l.length + 1) [] l hl [] l.length 0 4294967295 (by omega) (by omega) (l.length + 1) (.int .i64 0) .undef .undef (by omega)
  have hrun := fun k => run_loop (k := k) _ _ _ hlp
  simp only [Int.natCast_zero, Int.cast_ofNat_Int, List.drop_zero] at hrun
  have hc := crc_lt l (show 4294967295 < 4294967296 by omega)
  have hm : IntKind.u32.max = ((4294967295 : Nat) : Int) := by decide
  have e1 : xorI .u32 IntKind.u32.max (crc l 4294967295 : Int) = ((4294967295 ^^^ crc l 4294967295 : Nat) : Int) := by rw [hm, xor32 _ _ (by omega) hc]
  have hx := xor_lt32 (show 4294967295 < 4294967296 by omega) hc
  have e2 : IntKind.i64.wrap ((4294967295 ^^^ crc l 4294967295 : Nat) : Int) = sumL l := by rw [wrapI (by unfold inI; omega)]; rfl
  have hs : IntKind.u32.signed = false := rfl
  simp only [mf21]
  obtain ⟨y, hy⟩ : ∃ y : Nat, y = 4294967295 ^^^ crc l 4294967295 := ⟨_, rfl⟩
  rw [← hy] at e1 e2
  simp [hrun, hs, e1, e2]

theorem loop22i (E : Env) (fuel : Nat) (a0 a3 : AV) (A : Arena) : ∀ (k i r : Nat), i + k = 8 → r < 4294967296 → ∀ (m : Nat) (b1 b5 b6 b7 b8 : AV), k < m →
    ∃ c5 c8, iter (evC E fuel lp22x0) [1, 5, 6, 7, 8] m [a0, b1, .int .u32 r, a3, .int .i64 i, b5, b6, b7, b8] A =
      some (.exit 2 [a0, .undef, .int .u32 (bitSteps k r), a3, .int .i64 8, c5, .undef, .bool false, c8] A) := by
  intro k
  induction k with
  | zero =>
    intro i r hik hr m b1 b5 b6 b7 b8 hm
    obtain ⟨m, rfl⟩ : ∃ j, m = j + 1 := ⟨m - 1, by omega⟩
    obtain rfl : i = 8 := by omega
    refine ⟨.undef, .undef, ?_⟩
    rw [iter_succ]
    simp [lp22x0, bitSteps]
  | succ k ih =>
    intro i r hik hr m b1 b5 b6 b7 b8 hm
    obtain ⟨m, rfl⟩ : ∃ j, m = j + 1 := ⟨m - 1, by omega⟩
    have hlt : (i : Int) < 8 := by omega
    obtain ⟨i1, hi1⟩ : ∃ i1, i1 = i + 1 := ⟨_, rfl⟩
    have w2 : IntKind.i64.wrap ((i : Int) + 1) = i1 := by rw [wrapI (by unfold inI; omega)]; omega
    obtain ⟨h, hh⟩ : ∃ h, h = r / 2 := ⟨_, rfl⟩
    have e2 : (r : Int).tdiv 2 = h := by rw [Int.tdiv_eq_ediv_of_nonneg (by omega)]; omega
    have e3 : IntKind.u32.wrap (h : Int) = h := wrapU32 (by omega)
    by_cases hodd : r % 2 = 1
    · have e1 : (r : Int).tmod 2 = 1 := by rw [Int.tmod_eq_emod_of_nonneg (by omega)]; omega
      obtain ⟨x, hx⟩ : ∃ x, x = h ^^^ cpoly := ⟨_, rfl⟩
      have e4 : xorI .u32 (h : Int) 2197175160 = x := by rw [hx]; exact xor32 h cpoly (by omega) (by decide)
      obtain ⟨c5, c8, q⟩ := ih i1 x (by omega) (by rw [hx]; exact xor_lt32 (by omega) (by decide)) m .undef (.bool true) .undef (.bool true) (.bool true) (by omega)
      refine ⟨c5, c8, ?_⟩
      have hb : run E fuel [.code lp22x0] (clear [1, 5, 6, 7, 8] [a0, b1, .int .u32 r, a3, .int .i64 i, b5, b6, b7, b8]) A = some (.normal [a0, .undef, .int .u32 x, a3, .int .i64 i1, .bool true, .undef, .bool true, .bool true] A) := by
        simp [lp22x0, hlt, e1, e2, e3, e4, w2]
      rw [iter_succ, hb]
      simp only
      rw [q]
      simp only [bitSteps, bitStep, if_pos hodd, ← hh, ← hx]
    · have e1 : (r : Int).tmod 2 = 0 := by rw [Int.tmod_eq_emod_of_nonneg (by omega)]; omega
      obtain ⟨c5, c8, q⟩ := ih i1 h (by omega) (by omega) m .undef (.bool false) .undef (.bool true) (.bool false) (by omega)
      refine ⟨c5, c8, ?_⟩
      have hb : run E fuel [.code lp22x0] (clear [1, 5, 6, 7, 8] [a0, b1, .int .u32 r, a3, .int .i64 i, b5, b6, b7, b8]) A = some (.normal [a0, .undef, .int .u32 h, a3, .int .i64 i1, .bool false, .undef, .bool true, .bool false] A) := by
        simp [lp22x0, hlt, e1, e2, e3, w2]
      rw [iter_succ, hb]
      simp only
      rw [q]
      simp only [bitSteps, bitStep, if_neg hodd, ← hh]
end Go.Proofs.YtnpmfpcppkdniaaDoor
