/-
  Wire: Unique, plain and run.
-/
import Derived.Test.YtnpmfpcppkdniaaDoorW14b
import Derived.Test.YtnpmfpcppkdniaaDoorW0b
namespace Go.Proofs.YtnpmfpcppkdniaaDoor
open Go

/-- Int, whole: what it accepts is PutInt's -/
theorem getInt_uniq (t : List UInt8) (k : Nat) (hk : k ≤ t.length) (hl : t.length ≤ 1000000000) : getInt t k = .tup [.int .i64 0, .int .i64 0, .int .i64 10] ∨
    ∃ (n : Int) (x : Nat), -4611686018427387903 ≤ n ∧ n ≤ 4611686018427387903 ∧ k ≤ x ∧ x ≤ t.length ∧ (t.drop k).take (x - k) = enc (zig n) ∧ getInt t k = .tup [.int .i64 n, .int .i64 x, .int .i64 0] := by
  rcases getInt_cases t k hl with ⟨e, he, h⟩ | ⟨n, x, h1, h2, h3, h4, h5, h⟩
  · rcases he with rfl | rfl
    · exfalso
      unfold getInt at h
      rw [if_neg (by omega)] at h
      split at h
      · split at h <;> simp at h
      · simp at h
    · exact .inl h
  · refine .inr ⟨n, x.toNat, h1, h2, by omega, by omega, ?_, by rw [h]; congr 4; omega⟩
    unfold getInt at h
    rw [if_neg (by omega)] at h
    split at h
    · rename_i v i c hd
      split at h
      · simp at h
      · rename_i hc
        simp only [AV.tup.injEq, List.cons.injEq, AV.int.injEq, true_and, and_true] at h
        obtain ⟨e1, e2⟩ := h
        have := ((dec_enc 9 _ v i c hd).2 (fun hx => hc (.inl hx))).symm
        rw [← e1, zig_unzig]
        have e3 : x.toNat - k = i + 1 := by omega
        rw [e3]
        simpa using this
    · simp at h
theorem getStr_uniq (t : List UInt8) (k : Nat) (hl : t.length ≤ 1000000000) {n : Int} {x : Nat} (hx : x ≤ t.length) (hkx : k ≤ x) (hs : (t.drop k).take (x - k) = enc (zig n)) (hg : getInt t k = .tup [.int .i64 n, .int .i64 x, .int .i64 0]) :
    getStr t k = .tup [.str [], .int .i64 0, .int .i64 10] ∨
    ∃ (s : List UInt8) (y : Nat), s.length ≤ 65536 ∧ k ≤ y ∧ y ≤ t.length ∧ (t.drop k).take (y - k) = enc (zig s.length) ++ s ∧ getStr t k = .tup [.str s, .int .i64 y, .int .i64 0] := by
  unfold getStr
  rw [hg]
  simp only
  rw [if_neg (by simp)]
  split
  · exact .inl rfl
  · rename_i hn
    refine .inr ⟨(t.drop x).take n.toNat, x + n.toNat, by simp; omega, by omega, by omega, ?_, by simp only [Int.toNat_natCast]; congr 4; omega⟩
    have hlen : ((t.drop x).take n.toNat).length = n.toNat := by simp; omega
    rw [hlen, show ((n.toNat : Nat) : Int) = n by omega, ← hs]
    have : x + n.toNat - k = (x - k) + n.toNat := by omega
    rw [this, List.take_add, List.drop_drop, show k + (x - k) = x by omega]

def fs5 : List (FuncId × HModel) := [(10, pureH 4 fun args => match args with | [] => some (.bool true) | _ => none), (12, pureH 4 M13), (14, pureH 4 M14), (15, pureH 4 M15), (17, pureH 4 M17), (19, pureH 4 M19)]
@[simp] theorem fs5_10 : lookM fs5 10 = some (pureH 4 fun args => match args with | [] => some (.bool true) | _ => none) := rfl
@[simp] theorem fs5_12 : lookM fs5 12 = some (pureH 4 M13) := rfl
@[simp] theorem fs5_14 : lookM fs5 14 = some (pureH 4 M14) := rfl
@[simp] theorem fs5_15 : lookM fs5 15 = some (pureH 4 M15) := rfl
@[simp] theorem fs5_17 : lookM fs5 17 = some (pureH 4 M17) := rfl
@[simp] theorem fs5_19 : lookM fs5 19 = some (pureH 4 M19) := rfl
theorem sound5 : ∀ f M, lookM fs5 f = some M → FnSpecY Tryd.prog GW f M :=
  lookM_cons (FnSpecY.of_pure spec10 4) (lookM_cons (FnSpecY.of_pure spec12 4) (lookM_cons (FnSpecY.of_pure spec14 4) (lookM_cons (FnSpecY.of_pure spec15 4) (lookM_cons (FnSpecY.of_pure spec17 4) (lookM_cons (FnSpecY.of_pure spec19 4) lookM_nil)))))
theorem slice_mid (t : List UInt8) (a b : Nat) (h1 : a ≤ b) (h2 : b ≤ t.length) : evSliceStr (some (.int .i64 (a : Int))) (some (.int .i64 (b : Int))) (.str t) = some (.str ((t.drop a).take (b - a))) := by
  have h3 : ¬ b < a := by omega
  simp [h1, h2, h3]

set_option maxRecDepth 100000 in
set_option maxHeartbeats 4000000 in
theorem round5 (fuel : Nat) (t : List UInt8) (ht : t.length ≤ 1000) (k : Nat) (hk : k ≤ t.length) (id : Nat) (A : Arena) (i i1 : Int) (ok : AV) (h1 : evIndexSl 1 A (.sl id 0 2) (.int .i64 i) = some (.ptr id i.toNat 0)) (h2 : evLoad false 1 A (.ptr id i.toNat 0) = some (.int .i64 k))
    (hi : i < 2) (hi1 : IntKind.i64.wrap (i + 1) = i1) : run (envOf GW fs5) fuel [.code lp5x0] (st5x0 ok (.str t) (.sl id 0 2) (.int .i64 2) (.int .i64 i)) A = some (.normal (st5x0 ok (.str t) (.sl id 0 2) (.int .i64 2) (.int .i64 i1)) A) := by
  have hl : t.length ≤ 1000000000 := by omega
  rcases getInt_uniq t k hk hl with hg | ⟨n, x, q1, q2, q3, q4, q5, hg⟩
  · have hs : getStr t k = .tup [.str [], .int .i64 0, .int .i64 10] := by
      unfold getStr; rw [hg]; simp
    have m1 : M15 [.str t, .int .i64 k] = some (.tup [.int .i64 0, .int .i64 0, .int .i64 10]) := by simp only [M15]; rw [if_pos hl, hg]
    have m2 : M17 [.str t, .int .i64 k] = some (.tup [.str [], .int .i64 0, .int .i64 10]) := by simp only [M17]; rw [if_pos hl, hs]
    have m3 : M13 [.int .i64 0] = some (.tup [.str (enc (zig 0)), .int .i64 0]) := by simp only [M13, putInt]; rw [if_pos (by omega), if_neg (by omega)]
    have m4 : M19 [.str []] = some (.tup [.str (enc (zig 0)), .int .i64 0]) := by simp [M19, putStr]
    simp [lp5x0, st5x0, h1, h2, hi, hi1, m1, m2, m3, m4, -evLoad, -evIndexSl, -evSliceStr]
  · have m1 : M15 [.str t, .int .i64 k] = some (.tup [.int .i64 n, .int .i64 x, .int .i64 0]) := by simp only [M15]; rw [if_pos hl, hg]
    have m3 : M13 [.int .i64 n] = some (.tup [.str (enc (zig n)), .int .i64 0]) := by simp only [M13, putInt]; rw [if_pos (by omega), if_neg (by omega)]
    have s1 := slice_mid t k x q3 q4
    rw [q5] at s1
    have c1 : ¬ (x < k) := by omega
    have c2 : ¬ (t.length < x) := by omega
    rcases getStr_uniq t k hl q4 q3 q5 hg with hs | ⟨s, y, p1, p2, p3, p4, hs⟩
    · have m2 : M17 [.str t, .int .i64 k] = some (.tup [.str [], .int .i64 0, .int .i64 10]) := by simp only [M17]; rw [if_pos hl, hs]
      have m4 : M19 [.str []] = some (.tup [.str (enc (zig 0)), .int .i64 0]) := by simp [M19, putStr]
      simp [lp5x0, st5x0, h1, h2, hi, hi1, m1, m2, m3, m4, s1, c1, c2, -evLoad, -evIndexSl, -evSliceStr]
    · have m2 : M17 [.str t, .int .i64 k] = some (.tup [.str s, .int .i64 y, .int .i64 0]) := by simp only [M17]; rw [if_pos hl, hs]
      have m4 : M19 [.str s] = some (.tup [.str (enc (zig s.length) ++ s), .int .i64 0]) := by
        simp only [M19, putStr]; rw [if_neg (by omega)]
      have s2 := slice_mid t k y p2 p3
      rw [p4] at s2
      have c3 : ¬ (y < k) := by omega
      have c4 : ¬ (t.length < y) := by omega
      simp [lp5x0, st5x0, h1, h2, hi, hi1, m1, m2, m3, m4, s1, s2, c1, c2, c3, c4, -evLoad, -evIndexSl, -evSliceStr]

set_option maxRecDepth 100000 in
set_option maxHeartbeats 4000000 in
theorem ev5 (l : List UInt8) (k : Int) (b : Int) (hk : inI k) (hb : 0 ≤ b ∧ b ≤ 255) : evP (envOf GW fs5) 3 mf5 1 [.str l, .int .i64 k, .int .u8 b] = some (.bool true) := by
  have lf := cut_length 300 l
  obtain ⟨f, hf⟩ : ∃ f, f = cut 300 l := ⟨_, rfl⟩
  rw [← hf] at lf
  obtain ⟨t, ht⟩ : ∃ t, t = UInt8.ofNat b.toNat :: f := ⟨_, rfl⟩
  have htl : t.length = f.length + 1 := by rw [ht]; rfl
  have w1 : IntKind.i64.wrap ((t.length : Int) + 1) = (t.length : Int) + 1 := wrapI (by unfold inI; omega)
  have pr := pick_range k ((t.length : Int) + 1) (by omega)
  have mp : M14 [.int .i64 k, .int .i64 ((t.length : Int) + 1)] = some (.int .i64 (pick k ((t.length : Int) + 1))) := by simp only [M14]; exact if_pos ⟨hk, by omega⟩
  obtain ⟨q, hq⟩ : ∃ q : Nat, pick k ((t.length : Int) + 1) = q := ⟨_, (Int.toNat_of_nonneg pr.1).symm⟩
  rw [hq] at mp pr
  have r0 := round5 3 t (by omega) 0 (by omega) 1 [.row 1 false [.int .u8 b], .row 1 false [.int .i64 0, .int .i64 q]] 0 1 (.bool true) (by simp) (by simp) (by omega) (by decide)
  have r1 := round5 3 t (by omega) q (by omega) 1 [.row 1 false [.int .u8 b], .row 1 false [.int .i64 0, .int .i64 q]] 1 2 (.bool true) (by simp) (by simp) (by omega) (by decide)
  have hlp : iter (evC (envOf GW fs5) 3 lp5x0) mask5x0 3 (st5x0 (.bool true) (.str t) (.sl 1 0 2) (.int .i64 2) (.int .i64 0)) [.row 1 false [.int .u8 b], .row 1 false [.int .i64 0, .int .i64 q]] =
      some (.exit 0 ((st5x0 (.bool true) (.str t) (.sl 1 0 2) (.int .i64 2) (.int .i64 2)).set 20 (.bool false)) [.row 1 false [.int .u8 b], .row 1 false [.int .i64 0, .int .i64 q]]) := by
    rw [iter_succ, cl5x0, r0]
    simp only
    rw [iter_succ, cl5x0, r1]
    simp only
    rw [iter_succ, cl5x0]
    simp [lp5x0]
  have hs1 : evToStr [Ent.row 1 false [.int .u8 b]] (.sl 0 0 1) = some (.str [UInt8.ofNat b.toNat]) := by simp [evToStr, srcElems, u8s]
  have hcat : 1 + f.length ≤ 9223372036854775807 := by omega
  rw [evP_run _ _ rfl]
  simp [mf5, min_cut300, slice_cut, hf.symm, hs1, hcat, ht.symm, w1, mp, go5x0 hlp, -evMin2, -evSliceStr]

theorem ev5L (args : List AV) (h : LawArgs Tryd.prog 8 Tryd.f5.params.toList args) : ∃ fuel, evP (envOf GW fs5) fuel mf5 1 args = some (.bool true) := by
  rw [Tryd.params5] at h
  obtain ⟨a, r, rfl, h0, h⟩ := h.cons
  obtain ⟨b, r, rfl, h1, h⟩ := h.cons
  obtain ⟨c, r, rfl, h2, h⟩ := h.cons
  obtain rfl := h.nil
  obtain ⟨l, rfl, _⟩ := TA.str Tryd.underlying9 h0
  obtain ⟨k, rfl, hk⟩ := TA.i64 Tryd.underlying3 h1
  obtain ⟨b, rfl, hb⟩ := TA.int (k := .u8) (by kernel_rfl) h2
  exact ⟨3, ev5 l k b hk hb⟩
end Go.Proofs.YtnpmfpcppkdniaaDoor
