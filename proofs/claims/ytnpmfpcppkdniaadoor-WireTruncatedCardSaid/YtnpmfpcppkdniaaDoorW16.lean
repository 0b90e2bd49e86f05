/-
  Wire: Truncated, plain and run.
-/
import Derived.Test.YtnpmfpcppkdniaaDoorW15
namespace Go.Proofs.YtnpmfpcppkdniaaDoor
open Go

/-- what is cut short is not read -/
theorem dec_short : ∀ (k z j : Nat), j < (enc z).length → dec k ((enc z).take j) = none := by
  intro k
  induction k with
  | zero => intro z j _; rfl
  | succ k ih =>
    intro z j hj
    cases j with
    | zero => rfl
    | succ j =>
      by_cases hlt : z < 128
      · rw [enc_lt hlt] at hj; simp at hj
      · rw [enc_ge hlt] at hj ⊢
        have hb : (UInt8.ofNat (z % 128 + 128)).toNat = z % 128 + 128 := by simp; omega
        simp only [List.length_cons] at hj
        rw [List.take_succ_cons]
        simp only [dec, hb, if_neg (show ¬ z % 128 + 128 < 128 by omega), ih (z / 128) j (by omega), Option.map_none]
theorem getInt_short (z j : Nat) (hj : j < (enc z).length) : getInt ((enc z).take j) 0 = .tup [.int .i64 0, .int .i64 0, .int .i64 10] := by
  unfold getInt
  rw [if_neg (by omega)]
  simp only [Int.toNat_zero, List.drop_zero, dec_short 9 z j hj]
theorem getStr_short (t : List UInt8) (ht : t.length ≤ 65536) (j : Nat) (hj : j < (enc (zig t.length) ++ t).length) : getStr ((enc (zig t.length) ++ t).take j) 0 = .tup [.str [], .int .i64 0, .int .i64 10] := by
  by_cases h : j < (enc (zig t.length)).length
  · unfold getStr
    rw [List.take_append_of_le_length (by omega), getInt_short _ j h]
    simp
  · have e : (enc (zig t.length) ++ t).take j = [] ++ enc (zig t.length) ++ t.take (j - (enc (zig t.length)).length) := by
      rw [List.take_append, List.take_of_length_le (by omega)]; simp
    have hg := getInt_enc [] (t.take (j - (enc (zig t.length)).length)) t.length (by omega) (by omega)
    unfold getStr
    rw [e]
    simp only [List.length_nil, Int.natCast_zero, Int.cast_ofNat_Int] at hg
    rw [hg]
    simp only
    simp only [List.length_append] at hj
    rw [if_neg (by simp), if_pos (by simp; omega)]
/-- no encoding is the start of another -/
theorem enc_start {z z' : Nat} (h1 : z < 9223372036854775808) (h2 : z' < 9223372036854775808) (r : List UInt8) (h : enc z' = enc z ++ r) : z = z' := by
  obtain ⟨c, hd, _⟩ := dec_of_enc r 8 z (by omega)
  obtain ⟨c', hd', _⟩ := dec_of_enc [] 8 z' (by omega)
  rw [List.append_nil, h, hd] at hd'
  simp only [Option.some.injEq, Prod.mk.injEq] at hd'
  exact hd'.1

def fs7 : List (FuncId × HModel) := [(10, pureH 4 fun args => match args with | [] => some (.bool true) | _ => none), (11, pureH 4 M11), (12, pureH 4 M13), (14, pureH 4 M14), (15, pureH 4 M15), (17, pureH 4 M17), (19, pureH 4 M19)]
theorem sound7 : ∀ f M, lookM fs7 f = some M → FnSpecY Tryd.prog GW f M :=
  lookM_cons (FnSpecY.of_pure spec10 4) (lookM_cons (FnSpecY.of_pure spec11 4) (lookM_cons (FnSpecY.of_pure spec12 4) (lookM_cons (FnSpecY.of_pure spec14 4) (lookM_cons (FnSpecY.of_pure spec15 4) (lookM_cons (FnSpecY.of_pure spec17 4) (lookM_cons (FnSpecY.of_pure spec19 4) lookM_nil))))))

set_option maxRecDepth 100000 in
set_option maxHeartbeats 4000000 in
theorem ev7 (c d : Int) (t : List UInt8) (k : Int) (hc : inI c) (hd : inI d) (hk : inI k) : evP (envOf GW fs7) 0 mf7 1 [.int .i64 c, .int .i64 d, .str t, .int .i64 k] = some (.bool true) := by
  have hn := numFrom_range c
  have hm := numFrom_range d
  have mc : M11 [.int .i64 c] = some (.int .i64 (numFrom c)) := by simp only [M11]; exact if_pos hc
  have md : M11 [.int .i64 d] = some (.int .i64 (numFrom d)) := by simp only [M11]; exact if_pos hd
  obtain ⟨n, hnn⟩ : ∃ n, n = numFrom c := ⟨_, rfl⟩
  obtain ⟨m, hmm⟩ : ∃ m, m = numFrom d := ⟨_, rfl⟩
  rw [← hnn] at mc hn
  rw [← hmm] at md hm
  have lt' := cut_length 200 t
  obtain ⟨t', ht'⟩ : ∃ t', t' = cut 200 t := ⟨_, rfl⟩
  rw [← ht'] at lt'
  have hz := zig_lt (n := n) (by omega) (by omega)
  have hz' := zig_lt (n := m) (by omega) (by omega)
  have ha := enc_len10 (z := zig n) (by omega)
  have hb := enc_len10 (z := zig t'.length) (by rw [zig_nat]; omega)
  have hpa := enc_pos (zig n)
  have hpt := enc_pos (zig t'.length)
  have m1 : M13 [.int .i64 n] = some (.tup [.str (enc (zig n)), .int .i64 0]) := by
    simp only [M13, putInt]; rw [if_pos (by omega), if_neg (by omega)]
  have m1' : M13 [.int .i64 m] = some (.tup [.str (enc (zig m)), .int .i64 0]) := by
    simp only [M13, putInt]; rw [if_pos (by omega), if_neg (by omega)]
  have m2 : M19 [.str t'] = some (.tup [.str (enc (zig t'.length) ++ t'), .int .i64 0]) := by
    simp only [M19, putStr]; rw [if_neg (by omega)]
  have sh1 := getInt_short (zig n)
  have sh2 := getStr_short t' (by omega)
  obtain ⟨b, hbb⟩ : ∃ b, b = enc (zig t'.length) ++ t' := ⟨_, rfl⟩
  have hbl : b.length = (enc (zig t'.length)).length + t'.length := by rw [hbb]; simp
  rw [← hbb] at m2 sh2
  have hpre : ((enc (zig m)).take (enc (zig n)).length == enc (zig n)) = decide (n = m) := by
    by_cases h : n = m
    · subst h; simp
    · have : (enc (zig m)).take (enc (zig n)).length ≠ enc (zig n) := fun he => h (by
        have := enc_start (z := zig n) (z' := zig m) (by omega) (by omega) ((enc (zig m)).drop (enc (zig n)).length) (by
          conv => lhs; rw [← List.take_append_drop (enc (zig n)).length (enc (zig m)), he])
        rw [← unzig_zig n, this, unzig_zig])
      simp [h, this]
  have hpre2 : (enc (zig m)).length < (enc (zig n)).length → n ≠ m := by
    rintro h rfl; omega
  obtain ⟨e, hee⟩ : ∃ e, e = enc (zig n) := ⟨_, rfl⟩
  obtain ⟨e', hee'⟩ : ∃ e', e' = enc (zig m) := ⟨_, rfl⟩
  rw [← hee] at m1 ha hpa sh1 hpre hpre2
  rw [← hee'] at m1' hpre hpre2
  have pk1 := pick_range k e.length (by omega)
  have pk2 := pick_range k b.length (by omega)
  have m3 : M14 [.int .i64 k, .int .i64 e.length] = some (.int .i64 (pick k e.length)) := by simp only [M14]; exact if_pos ⟨hk, by omega⟩
  have m4 : M14 [.int .i64 k, .int .i64 b.length] = some (.int .i64 (pick k b.length)) := by simp only [M14]; exact if_pos ⟨hk, by omega⟩
  obtain ⟨j, hj⟩ : ∃ j : Nat, pick k e.length = j := ⟨(pick k e.length).toNat, by omega⟩
  obtain ⟨i, hi⟩ : ∃ i : Nat, pick k b.length = i := ⟨(pick k b.length).toNat, by omega⟩
  rw [hj] at m3 pk1
  rw [hi] at m4 pk2
  have m5 : M15 [.str (e.take j), .int .i64 0] = some (.tup [.int .i64 0, .int .i64 0, .int .i64 10]) := by
    simp only [M15]; rw [if_pos (by simp; omega), sh1 j (by omega)]
  have m6 : M17 [.str (b.take i), .int .i64 0] = some (.tup [.str [], .int .i64 0, .int .i64 10]) := by
    simp only [M17]; rw [if_pos (by simp; omega), sh2 i (by omega)]
  have sl1 := slice_take e j (by omega)
  have sl2 := slice_take b i (by omega)
  have ne1 : e ≠ [] := by rintro rfl; simp at hpa
  have ne2 : b ≠ [] := by rintro rfl; simp at hbl; omega
  rw [evP_run _ _ rfl]
  by_cases hle : e.length ≤ e'.length
  · have sl3 := slice_take e' e.length hle
    simp [mf7, fs7, mc, md, min_cut200, slice_cut, ht'.symm, m1, m1', m2, m3, m4, m5, m6, sl1, sl2, sl3, ne1, ne2, hle, hpre, -evMin2, -evSliceStr]
  · have hnm := hpre2 (by omega)
    simp [mf7, fs7, mc, md, min_cut200, slice_cut, ht'.symm, m1, m1', m2, m3, m4, m5, m6, sl1, sl2, ne1, ne2, hle, hnm, -evMin2, -evSliceStr]
end Go.Proofs.YtnpmfpcppkdniaaDoor
