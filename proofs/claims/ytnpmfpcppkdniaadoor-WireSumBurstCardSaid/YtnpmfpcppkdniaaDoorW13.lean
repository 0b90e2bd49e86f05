/-
  Wire: RoundTrip.
-/
import Derived.Test.YtnpmfpcppkdniaaDoorW12
namespace Go.Proofs.YtnpmfpcppkdniaaDoor
open Go

theorem enc_pos (z : Nat) : 0 < (enc z).length := by
  by_cases h : z < 128
  · rw [enc_lt h]; simp
  · rw [enc_ge h]; simp

theorem dec_of_enc (q : List UInt8) : ∀ (k z : Nat), z < 128 ^ (k + 1) → ∃ c, dec (k + 1) (enc z ++ q) = some (z, (enc z).length - 1, c) ∧ (c = 0 → (enc z).length = 1) := by
  intro k
  induction k with
  | zero =>
    intro z hz
    have hlt : z < 128 := by simpa using hz
    refine ⟨z, ?_, fun _ => by rw [enc_lt hlt]; rfl⟩
    rw [enc_lt hlt]
    have : (UInt8.ofNat z).toNat = z := by simp; omega
    simp only [List.cons_append, dec, this, if_pos hlt, List.length_cons, List.length_nil]
  | succ k ih =>
    intro z hz
    by_cases hlt : z < 128
    · refine ⟨z, ?_, fun _ => by rw [enc_lt hlt]; rfl⟩
      rw [enc_lt hlt]
      have : (UInt8.ofNat z).toNat = z := by simp; omega
      simp only [List.cons_append, dec, this, if_pos hlt, List.length_cons, List.length_nil]
    · obtain ⟨c, h1, h2⟩ := ih (z / 128) (by rw [Nat.div_lt_iff_lt_mul (by omega)]; rw [Nat.pow_succ] at hz; exact hz)
      have hb : (UInt8.ofNat (z % 128 + 128)).toNat = z % 128 + 128 := by simp; omega
      have hlen : 0 < (enc (z / 128)).length := by
        by_cases h : z / 128 < 128
        · rw [enc_lt h]; simp
        · rw [enc_ge h]; simp
      refine ⟨c, ?_, fun hc => ?_⟩
      · rw [enc_ge hlt]
        simp only [List.cons_append, dec, hb, if_neg (show ¬ z % 128 + 128 < 128 by omega), h1, Option.map_some, List.length_cons]
        congr 1
        simp only [Prod.mk.injEq, and_true]
        omega
      · exfalso
        have h3 := h2 hc
        subst hc
        have h4 := dec_bound _ _ _ _ _ h1
        have h5 : z / 128 < 128 := by
          by_cases h : z / 128 < 128
          · exact h
          · have h6 := enc_pos (z / 128 / 128)
            rw [enc_ge h, List.length_cons] at h3
            omega
        rw [enc_lt h5] at h1
        have : (UInt8.ofNat (z / 128)).toNat = z / 128 := by simp; omega
        simp only [List.cons_append, dec, this, if_pos h5, Option.some.injEq, Prod.mk.injEq] at h1
        omega

theorem unzig_zig (n : Int) : unzig (zig n) = n := by
  unfold unzig zig
  split <;> split <;> omega

/-- what was written is read -/
theorem getInt_enc (p q : List UInt8) (n : Int) (h1 : -4611686018427387903 ≤ n) (h2 : n ≤ 4611686018427387903) : getInt (p ++ enc (zig n) ++ q) p.length = .tup [.int .i64 n, .int .i64 (p.length + (enc (zig n)).length), .int .i64 0] := by
  have hz := zig_lt h1 h2
  obtain ⟨c, hd, hc⟩ := dec_of_enc q 8 (zig n) (by omega)
  unfold getInt
  rw [if_neg (by simp; omega)]
  have hdr : (p ++ enc (zig n) ++ q).drop (p.length : Int).toNat = enc (zig n) ++ q := by simp [List.append_assoc]
  have hp := enc_pos (zig n)
  rw [hdr, hd]
  simp only
  rw [unzig_zig, if_neg (by rintro (⟨h, h'⟩ | h); have := hc h; omega; omega)]
  congr 4
  omega

theorem getStr_enc (p q t : List UInt8) (ht : t.length ≤ 65536) : getStr (p ++ (enc (zig t.length) ++ t) ++ q) p.length = .tup [.str t, .int .i64 (p.length + ((enc (zig t.length)).length + t.length : Nat)), .int .i64 0] := by
  have h := getInt_enc p (t ++ q) t.length (by omega) (by omega)
  have e : p ++ (enc (zig t.length) ++ t) ++ q = p ++ enc (zig t.length) ++ (t ++ q) := by simp [List.append_assoc]
  unfold getStr
  rw [e, h]
  simp only
  rw [if_neg (by simp), if_neg (by simp; omega)]
  have hx : ((p.length : Int) + (enc (zig t.length)).length).toNat = (p ++ enc (zig t.length)).length := by simp; omega
  rw [hx, List.drop_left, Int.toNat_natCast, List.take_left]
  congr 4
  push_cast
  omega

def cutN (k : Nat) (l : List UInt8) : Nat := min l.length k
def cut (k : Nat) (l : List UInt8) : List UInt8 := l.take (cutN k l)
theorem cut_length (k : Nat) (l : List UInt8) : (cut k l).length ≤ k := by unfold cut cutN; simp; omega
theorem min_cut (k : Nat) (l : List UInt8) : evMin2 false (.int .i64 l.length) (.int .i64 (k : Int)) = some (.int .i64 (cutN k l : Int)) := by
  unfold evMin2 cutN
  simp only [Bool.false_eq_true, if_false]
  congr 2
  split <;> omega
theorem min_cut200 (l : List UInt8) : evMin2 false (.int .i64 l.length) (.int .i64 200) = some (.int .i64 (cutN 200 l : Int)) := min_cut 200 l
theorem min_cut300 (l : List UInt8) : evMin2 false (.int .i64 l.length) (.int .i64 300) = some (.int .i64 (cutN 300 l : Int)) := min_cut 300 l
theorem min_cut100 (l : List UInt8) : evMin2 false (.int .i64 l.length) (.int .i64 100) = some (.int .i64 (cutN 100 l : Int)) := min_cut 100 l
theorem slice_take (l : List UInt8) (m : Nat) (h : m ≤ l.length) : evSliceStr none (some (.int .i64 (m : Int))) (.str l) = some (.str (l.take m)) := by
  simp [h]
theorem slice_cut (k : Nat) (l : List UInt8) : evSliceStr none (some (.int .i64 (cutN k l : Int))) (.str l) = some (.str (cut k l)) := slice_take l _ (by unfold cutN; omega)
def fs4 : List (FuncId × HModel) := [(10, pureH 4 fun args => match args with | [] => some (.bool true) | _ => none), (11, pureH 4 M11), (12, pureH 4 M13), (15, pureH 4 M15), (17, pureH 4 M17), (19, pureH 4 M19)]

set_option maxRecDepth 100000 in
set_option maxHeartbeats 4000000 in
theorem ev4 (c : Int) (t p q : List UInt8) (hc : inI c) (ht : t.length ≤ 9223372036854775807) (hp : p.length ≤ 9223372036854775807) (hq : q.length ≤ 9223372036854775807) :
    evP (envOf GW fs4) 0 mf4 1 [.int .i64 c, .str t, .agg [.str p, .str q]] = some (.bool true) := by
  have hn := numFrom_range c
  have mc : M11 [.int .i64 c] = some (.int .i64 (numFrom c)) := by simp only [M11]; exact if_pos hc
  obtain ⟨n, hnn⟩ : ∃ n, n = numFrom c := ⟨_, rfl⟩
  rw [← hnn] at mc hn
  have cutl : ∀ l : List UInt8, (cut 200 l).length ≤ 200 := cut_length 200
  obtain ⟨t', ht'⟩ : ∃ t', t' = cut 200 t := ⟨_, rfl⟩
  obtain ⟨p', hp'⟩ : ∃ p', p' = cut 200 p := ⟨_, rfl⟩
  obtain ⟨q', hq'⟩ : ∃ q', q' = cut 200 q := ⟨_, rfl⟩
  have lt' := cutl t; have lp' := cutl p; have lq' := cutl q
  rw [← ht'] at lt'; rw [← hp'] at lp'; rw [← hq'] at lq'
  have hz := zig_lt (n := n) (by omega) (by omega)
  have ha := enc_len10 (z := zig n) (by omega)
  have hb := enc_len10 (z := zig t'.length) (by rw [zig_nat]; omega)
  have m1 : M13 [.int .i64 n] = some (.tup [.str (enc (zig n)), .int .i64 0]) := by
    simp only [M13, putInt]; rw [if_pos (by omega), if_neg (by omega)]
  have m2 : M19 [.str t'] = some (.tup [.str (enc (zig t'.length) ++ t'), .int .i64 0]) := by
    simp only [M19, putStr]; rw [if_neg (by omega)]
  have m3 : M15 [.str (p' ++ enc (zig n) ++ q'), .int .i64 p'.length] = some (.tup [.int .i64 n, .int .i64 (p'.length + (enc (zig n)).length), .int .i64 0]) := by
    simp only [M15]; rw [if_pos (by simp; omega), getInt_enc _ _ _ (by omega) (by omega)]
  have m4 : M17 [.str (p' ++ (enc (zig t'.length) ++ t') ++ q'), .int .i64 p'.length] = some (.tup [.str t', .int .i64 (p'.length + ((enc (zig t'.length)).length + t'.length : Nat)), .int .i64 0]) := by
    simp only [M17]; rw [if_pos (by simp; omega), getStr_enc _ _ _ (by omega)]
  rw [evP_run _ _ rfl]
  have la : p'.length + (enc (zig n)).length ≤ 9223372036854775807 := by omega
  have la2 : p'.length + (enc (zig n)).length + q'.length ≤ 9223372036854775807 := by omega
  have lb : p'.length + ((enc (zig t'.length)).length + t'.length) ≤ 9223372036854775807 := by omega
  have lb2 : p'.length + ((enc (zig t'.length)).length + t'.length) + q'.length ≤ 9223372036854775807 := by omega
  have w1 : IntKind.i64.wrap ((p'.length : Int) + (enc (zig n)).length) = (p'.length : Int) + (enc (zig n)).length := wrapI (by unfold inI; omega)
  obtain ⟨b, hbb⟩ : ∃ b, b = enc (zig t'.length) ++ t' := ⟨_, rfl⟩
  have hbl : b.length = (enc (zig t'.length)).length + t'.length := by rw [hbb]; simp
  rw [← hbl] at m4 lb lb2
  rw [← hbb] at m2 m4
  have w2 : IntKind.i64.wrap ((p'.length : Int) + b.length) = (p'.length : Int) + b.length := wrapI (by unfold inI; omega)
  obtain ⟨e, hee⟩ : ∃ e, e = enc (zig n) := ⟨_, rfl⟩
  rw [← hee] at m1 m3 la la2 w1
  simp only [List.append_assoc] at m3 m4
  simp [mf4, fs4, mc, m3, m4, evIndexArr, min_cut200, slice_cut, ht'.symm, hp'.symm, hq'.symm, m1, m2, la, la2, lb, lb2, w1, w2, -evMin2, -evSliceStr]
end Go.Proofs.YtnpmfpcppkdniaaDoor
