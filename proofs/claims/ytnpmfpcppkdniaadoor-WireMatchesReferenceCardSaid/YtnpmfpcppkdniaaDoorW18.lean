/-
  Wire: MatchesReference, run.
-/
import Derived.Test.YtnpmfpcppkdniaaDoorW14b
import Derived.Test.YtnpmfpcppkdniaaDoorW0b
namespace Go.Proofs.YtnpmfpcppkdniaaDoor
open Go

theorem putInt_form (k : Int) : ∃ (a : List UInt8) (e : Int), putInt k = .tup [.str a, .int .i64 e] := by
  unfold putInt; split <;> exact ⟨_, _, rfl⟩
theorem getInt_form (l : List UInt8) (k : Int) (hl : l.length ≤ 1000000000) : ∃ a b c : Int, getInt l k = .tup [.int .i64 a, .int .i64 b, .int .i64 c] := by
  rcases getInt_cases l k hl with ⟨e, _, h⟩ | ⟨n, x, _, _, _, _, _, h⟩ <;> exact ⟨_, _, _, h⟩
theorem getStr_form (l : List UInt8) (k : Int) (hl : l.length ≤ 1000000000) : ∃ (a : List UInt8) (b c : Int), getStr l k = .tup [.str a, .int .i64 b, .int .i64 c] := by
  obtain ⟨a, b, c, h⟩ := getInt_form l k hl
  unfold getStr
  rw [h]
  simp only
  split
  · exact ⟨_, _, _, rfl⟩
  · split <;> exact ⟨_, _, _, rfl⟩
theorem putStr_form (l : List UInt8) : ∃ (a : List UInt8) (e : Int), putStr l = .tup [.str a, .int .i64 e] := by
  unfold putStr; split <;> exact ⟨_, _, rfl⟩

def fs3 : List (FuncId × HModel) := [(10, pureH 4 fun args => match args with | [] => some (.bool true) | _ => none), (11, pureH 4 M11), (12, pureH 4 M13), (13, pureH 4 M13), (14, pureH 4 M14), (15, pureH 4 M15), (16, pureH 4 M15), (17, pureH 4 M17), (18, pureH 4 M17), (19, pureH 4 M19), (20, pureH 4 M19), (21, pureH 4 M21), (22, pureH 4 M21)]
theorem sound3 : ∀ f M, lookM fs3 f = some M → FnSpecY Tryd.prog GW f M :=
  lookM_cons (FnSpecY.of_pure spec10 4) (lookM_cons (FnSpecY.of_pure spec11 4) (lookM_cons (FnSpecY.of_pure spec12 4) (lookM_cons (FnSpecY.of_pure spec13 4) (lookM_cons (FnSpecY.of_pure spec14 4) (lookM_cons (FnSpecY.of_pure spec15 4) (lookM_cons (FnSpecY.of_pure spec16 4)
    (lookM_cons (FnSpecY.of_pure spec17 4) (lookM_cons (FnSpecY.of_pure spec18 4) (lookM_cons (FnSpecY.of_pure spec19 4) (lookM_cons (FnSpecY.of_pure spec20 4) (lookM_cons (FnSpecY.of_pure spec21 4) (lookM_cons (FnSpecY.of_pure spec22 4) lookM_nil))))))))))))
set_option maxRecDepth 100000 in
set_option maxHeartbeats 8000000 in
theorem ev3 (n : Int) (l : List UInt8) (k : Int) (hn : inI n) (hk : inI k) : evP (envOf GW fs3) 3 mf3 1 [.int .i64 n, .str l, .int .i64 k] = some (.bool true) := by
  have hfn := numFrom_range n
  have mc : M11 [.int .i64 n] = some (.int .i64 (numFrom n)) := by simp only [M11]; exact if_pos hn
  obtain ⟨m, hm⟩ : ∃ m, m = numFrom n := ⟨_, rfl⟩
  rw [← hm] at mc hfn
  have lf := cut_length 300 l
  obtain ⟨f, hf⟩ : ∃ f, f = cut 300 l := ⟨_, rfl⟩
  rw [← hf] at lf
  have w1 : IntKind.i64.wrap ((f.length : Int) + 2) = (f.length : Int) + 2 := wrapI (by unfold inI; omega)
  have mp : M14 [.int .i64 k, .int .i64 ((f.length : Int) + 2)] = some (.int .i64 (pick k ((f.length : Int) + 2))) := by simp only [M14]; exact if_pos ⟨hk, by omega⟩
  obtain ⟨q, hq⟩ : ∃ q, q = pick k ((f.length : Int) + 2) := ⟨_, rfl⟩
  rw [← hq] at mp
  obtain ⟨a, e, ps⟩ := putStr_form f
  have ms : M19 [.str f] = some (.tup [.str a, .int .i64 e]) := by simp only [M19, ps]
  have mu : M21 [.str f] = some (.int .i64 (sumL f)) := by simp only [M21]; exact if_pos (by omega)
  obtain ⟨a0, e0, p0⟩ := putInt_form n
  obtain ⟨a1, e1, p1⟩ := putInt_form m
  have m0 : M13 [.int .i64 n] = some (.tup [.str a0, .int .i64 e0]) := by simp only [M13]; exact (if_pos hn).trans (by rw [p0])
  have m1 : M13 [.int .i64 m] = some (.tup [.str a1, .int .i64 e1]) := by simp only [M13]; rw [if_pos (by omega), p1]
  have hf' : f.length ≤ 1000000000 := by omega
  obtain ⟨b0, c0, d0, q0⟩ := getInt_form f k hf'
  obtain ⟨b1, c1, d1, q1⟩ := getInt_form f q hf'
  obtain ⟨s0, x0, y0, g0⟩ := getStr_form f k hf'
  obtain ⟨s1, x1, y1, g1⟩ := getStr_form f q hf'
  have i0 : M15 [.str f, .int .i64 k] = some (.tup [.int .i64 b0, .int .i64 c0, .int .i64 d0]) := by simp only [M15]; rw [if_pos hf', q0]
  have i1 : M15 [.str f, .int .i64 q] = some (.tup [.int .i64 b1, .int .i64 c1, .int .i64 d1]) := by simp only [M15]; rw [if_pos hf', q1]
  have n0 : M17 [.str f, .int .i64 k] = some (.tup [.str s0, .int .i64 x0, .int .i64 y0]) := by simp only [M17]; rw [if_pos hf', g0]
  have n1 : M17 [.str f, .int .i64 q] = some (.tup [.str s1, .int .i64 x1, .int .i64 y1]) := by simp only [M17]; rw [if_pos hf', g1]
  have z1 : IntKind.i64.wrap 1 = 1 := by decide
  have z2 : IntKind.i64.wrap 2 = 2 := by decide
  rw [evP_run _ _ rfl]
  simp [mf3, lp3x0, lp3x1, fs3, mc, min_cut300, slice_cut, hf.symm, w1, mp, ms, mu, m0, m1, i0, i1, n0, n1, z1, z2, run_loopE, iter_succ, -evMin2, -evSliceStr]
theorem ev3L (args : List AV) (h : LawArgs Tryd.prog 8 Tryd.f3.params.toList args) : ∃ fuel, evP (envOf GW fs3) fuel mf3 1 args = some (.bool true) := by
  rw [Tryd.params3] at h
  obtain ⟨a, r, rfl, h0, h⟩ := h.cons
  obtain ⟨b, r, rfl, h1, h⟩ := h.cons
  obtain ⟨c, r, rfl, h2, h⟩ := h.cons
  obtain rfl := h.nil
  obtain ⟨n, rfl, hn⟩ := TA.i64 Tryd.underlying3 h0
  obtain ⟨l, rfl, _⟩ := TA.str Tryd.underlying9 h1
  obtain ⟨k, rfl, hk⟩ := TA.i64 Tryd.underlying3 h2
  exact ⟨3, ev3 n l k hn hk⟩
end Go.Proofs.YtnpmfpcppkdniaaDoor
