/-
  Cycle: the law CycleSmallestMatchesReference, run.
-/
import Derived.Test.YtfmlfekcdbfioaaNLC40
namespace Go.Proofs.Ytfmlfekcdbfioaa
open Go

theorem buildS2 {A : Arena} {es : List AV} (h1 : es.length ≤ 1000) (h2 : ∀ x ∈ es, x.solid = true ∧ (cellsOf x).length = 2) : evBuildSlice 2 es A = some (.sl A.length 0 es.length, A ++ [.row 2 false es]) := by
  unfold evBuildSlice
  rw [if_pos ⟨by omega, by omega, by rw [List.all_eq_true]; intro x hx; obtain ⟨e1, e2⟩ := h2 x hx; rw [e1, e2]; rfl⟩]
section
variable {a : AV} {l : List CArc} (ha : arcsOf a = some l)
include ha
set_option maxRecDepth 100000 in
set_option maxHeartbeats 4000000 in
theorem round4b (fuel : Nat) {A : Arena} {r i : Nat} {es : List AV} (hrow : A[r]? = some (.row 2 false es)) (hi : i < 2) {lo hi' : Int} (he : es[i]? = some (.agg [.int .i64 lo, .int .i64 hi'])) (n : Int) (v1 v2 v3 v5 v13 v14 v15 : AV) :
    ∃ X, run (envOf GC fsR) fuel [.code lp4x0] (st4x0 (.int .i64 n) v1 v2 v3 v5 a v13 v14 v15 (.sl r 0 2) (.int .i64 2) (.int .i64 (i : Int))) A =
      some (.normal (st4x0 (.int .i64 n) v1 v2 v3 v5 a v13 v14 v15 (.sl r 0 2) (.int .i64 2) (.int .i64 ((i + 1 : Nat) : Int))) (A ++ X)) := by
  have b1 : evBin .lss (.int .i64 (i : Int)) (.int .i64 2) = some (.bool true) := by rw [evLss, decide_eq_true (by omega)]
  have b3 := add1_nat i (by omega)
  have k1 : evIndexSl 2 A (.sl r 0 2) (.int .i64 (i : Int)) = some (.ptr r i 0) := by simp [evIndexSl, hrow]; omega
  have m23 : M23 [.int .i64 n, a, .int .i64 lo, .int .i64 hi'] = some (smT (smM n l lo hi')) := by simp only [M23, ha, Option.map_some]
  unfold smT at m23
  obtain ⟨z, hz⟩ : ∃ z, z = (smM n l lo hi').getD 0 := ⟨_, rfl⟩
  obtain ⟨d, hd⟩ : ∃ d, d = (smM n l lo hi').isSome := ⟨_, rfl⟩
  rw [← hz, ← hd] at m23
  have b2 : evBin .neq (.int .i64 z) (.int .i64 z) = some (.bool false) := by rw [evNeq]; simp
  have eb : evEqBool true (.bool d) (.bool d) = some (.bool false) := by cases d <;> rfl
  have hfa : ∀ A n, frz A n a = a := fun A n => arcsOf_frz ha A n
  have hra : ∀ k, noRefB k a = true := fun k => arcsOf_noRef ha k
  obtain ⟨j1, hj1⟩ : ∃ j1 : Nat, j1 = i + 1 := ⟨_, rfl⟩
  rw [← hj1] at b3 ⊢
  refine ⟨[.row 2 false [.agg [.int .i64 lo, .int .i64 hi']]], ?_⟩
  simp [lp4x0, b1, b2, b3, k1, hrow, he, m23, hfa, hra, eb, evBox, evIndexArr, frz_i, scalarB, -frz, -evBin, -evIndexSl, -evEqBool]
set_option maxRecDepth 100000 in
theorem loop4b (fuel : Nat) (hf : 3 < fuel) {A : Arena} {r : Nat} {x0 y0 x1 y1 : Int} (hrow : A[r]? = some (.row 2 false [.agg [.int .i64 x0, .int .i64 y0], .agg [.int .i64 x1, .int .i64 y1]])) (n : Int) (v1 v2 v3 v5 v13 v14 v15 : AV) :
    ∃ X, iter (evC (envOf GC fsR) fuel lp4x0) mask4x0 fuel (st4x0 (.int .i64 n) v1 v2 v3 v5 a v13 v14 v15 (.sl r 0 2) (.int .i64 2) (.int .i64 0)) A =
      some (.exit 2 ((st4x0 (.int .i64 n) v1 v2 v3 v5 a v13 v14 v15 (.sl r 0 2) (.int .i64 2) (.int .i64 2)).set 20 (.bool false)) (A ++ X)) := by
  obtain ⟨X, r0⟩ := round4b ha fuel hrow (i := 0) (by omega) rfl n v1 v2 v3 v5 v13 v14 v15
  obtain ⟨Y, r1⟩ := round4b ha fuel (old_at (X := X) hrow) (i := 1) (by omega) rfl n v1 v2 v3 v5 v13 v14 v15
  refine ⟨X ++ Y, ?_⟩
  rw [show ((0 : Nat) : Int) = 0 from rfl, show ((0 + 1 : Nat) : Int) = 1 from rfl] at r0
  rw [show ((1 : Nat) : Int) = 1 from rfl, show ((1 + 1 : Nat) : Int) = 2 from rfl] at r1
  obtain ⟨f, hf3⟩ : ∃ f, fuel = f + 3 := ⟨fuel - 3, by omega⟩
  have e : iter (evC (envOf GC fsR) fuel lp4x0) mask4x0 (f + 3) (st4x0 (.int .i64 n) v1 v2 v3 v5 a v13 v14 v15 (.sl r 0 2) (.int .i64 2) (.int .i64 0)) A = some (.exit 2 ((st4x0 (.int .i64 n) v1 v2 v3 v5 a v13 v14 v15 (.sl r 0 2) (.int .i64 2) (.int .i64 2)).set 20 (.bool false)) (A ++ (X ++ Y))) := by
    rw [iter_succ, cl4x0, r0]
    simp only
    rw [iter_succ, cl4x0, r1]
    simp only
    rw [iter_succ, cl4x0]
    have b1 : evBin .lss (.int .i64 2) (.int .i64 2) = some (.bool false) := by rw [evLss, decide_eq_false (by omega)]
    simp [lp4x0, b1, -evBin]
  rw [← hf3] at e
  exact e
end
section
variable {x : AV} {r4 : List R4} (hx : r4sOf x = some r4)
include hx
set_option maxRecDepth 100000 in
theorem round4p (fuel : Nat) (hf : 3 < fuel) {A : Arena} {r i : Nat} {es : List AV} (hrow : A[r]? = some (.row 1 false es)) (hi : i < 2) {d : Bool} (he : es[i]? = some (.bool d)) {n1 lo hi' : Int} (hn : 1 ≤ n1 ∧ n1 ≤ 32) (hlo : inI lo) (hhi : inI hi') (v5 : AV) :
    ∃ X, run (envOf GC fsR) fuel [.code lp4x1] (st4x1 (.int .i64 n1) x (.int .i64 lo) (.int .i64 hi') v5 (.sl r 0 2) (.int .i64 2) (.int .i64 (i : Int))) A =
      some (.normal (st4x1 (.int .i64 n1) x (.int .i64 lo) (.int .i64 hi') v5 (.sl r 0 2) (.int .i64 2) (.int .i64 ((i + 1 : Nat) : Int))) (A ++ X)) := by
  have b1 : evBin .lss (.int .i64 (i : Int)) (.int .i64 2) = some (.bool true) := by rw [evLss, decide_eq_true (by omega)]
  have b3 := add1_nat i (by omega)
  have k1 : evIndexSl 1 A (.sl r 0 2) (.int .i64 (i : Int)) = some (.ptr r i 0) := by simp [evIndexSl, hrow]; omega
  have p60 := pick_range lo 60 (by omega)
  have m2 := M12_eq hlo (show (0 : Int) < 60 by omega)
  have b2 := evSub (a := pick lo 60) (b := 20) (by omega)
  obtain ⟨q0, hq0⟩ : ∃ z, z = pick lo 60 := ⟨_, rfl⟩
  rw [← hq0] at m2 b2
  obtain ⟨q, hq⟩ : ∃ z, z = q0 - 20 := ⟨_, rfl⟩
  rw [← hq] at b2
  have p120 := pick_range hi' 120 (by omega)
  have m3 := M12_eq hhi (show (0 : Int) < 120 by omega)
  have b4 := evSub (a := pick hi' 120) (b := 20) (by omega)
  obtain ⟨w0, hw0⟩ : ∃ z, z = pick hi' 120 := ⟨_, rfl⟩
  rw [← hw0] at m3 b4
  obtain ⟨w, hw⟩ : ∃ z, z = w0 - 20 := ⟨_, rfl⟩
  rw [← hw] at b4
  have m5 : M13 [x, .int .i64 n1, .bool d] = some (slA 4 ((arcsD r4 n1 d).map arcA)) := by
    simp only [M13, hx, Option.map_some]; exact if_pos hn.1
  have harg := arcsD_arg hn r4 d
  have hfx : ∀ A, frz A 4 x = x := fun A => (r4sOf_some hx).1.frz 4
  obtain ⟨T, hT⟩ : ∃ T, T = slA 4 ((arcsD r4 n1 d).map arcA) := ⟨_, rfl⟩
  rw [← hT] at m5 harg
  have bs := buildS2 (A := A) (es := [.agg [.int .i64 lo, .int .i64 hi'], .agg [.int .i64 q, .int .i64 w]]) (by simp) (by simp [AV.solid, cellsOf])
  rw [show [AV.agg [.int .i64 lo, .int .i64 hi'], AV.agg [.int .i64 q, .int .i64 w]].length = 2 from rfl] at bs
  obtain ⟨X, lp⟩ := loop4b harg fuel hf (x0 := lo) (y0 := hi') (x1 := q) (y1 := w) (A := A ++ [.row 2 false [.agg [.int .i64 lo, .int .i64 hi'], .agg [.int .i64 q, .int .i64 w]]]) (r := A.length) (by simp) n1 x (.int .i64 lo) (.int .i64 hi') v5 (.sl r 0 2) (.int .i64 2) (.int .i64 (i : Int))
  obtain ⟨j1, hj1⟩ : ∃ j1 : Nat, j1 = i + 1 := ⟨_, rfl⟩
  rw [← hj1] at b3 ⊢
  refine ⟨[.row 2 false [.agg [.int .i64 lo, .int .i64 hi'], .agg [.int .i64 q, .int .i64 w]]] ++ X, ?_⟩
  rw [← List.append_assoc]
  obtain ⟨R, hR⟩ : ∃ R, R = A ++ [Ent.row 2 false [.agg [.int .i64 lo, .int .i64 hi'], .agg [.int .i64 q, .int .i64 w]]] := ⟨_, rfl⟩
  rw [← hR] at bs lp ⊢
  simp [lp4x1, b1, b2, b3, b4, k1, hrow, he, m2, m3, m5, hfx, bs, go4x0 lp, frz_i, frz_b, -frz, -evBin, -evIndexSl, -evBuildSlice]
set_option maxRecDepth 100000 in
theorem loop4p (fuel : Nat) (hf : 3 < fuel) {A : Arena} {r : Nat} (hrow : A[r]? = some (.row 1 false [.bool true, .bool false])) {n1 lo hi' : Int} (hn : 1 ≤ n1 ∧ n1 ≤ 32) (hlo : inI lo) (hhi : inI hi') (v5 : AV) :
    ∃ X, iter (evC (envOf GC fsR) fuel lp4x1) mask4x1 fuel (st4x1 (.int .i64 n1) x (.int .i64 lo) (.int .i64 hi') v5 (.sl r 0 2) (.int .i64 2) (.int .i64 0)) A =
      some (.exit 0 ((st4x1 (.int .i64 n1) x (.int .i64 lo) (.int .i64 hi') v5 (.sl r 0 2) (.int .i64 2) (.int .i64 2)).set 16 (.bool false)) (A ++ X)) := by
  obtain ⟨X, r0⟩ := round4p hx fuel hf hrow (i := 0) (by omega) rfl hn hlo hhi v5
  obtain ⟨Y, r1⟩ := round4p hx fuel hf (old_at (X := X) hrow) (i := 1) (by omega) rfl hn hlo hhi v5
  refine ⟨X ++ Y, ?_⟩
  rw [show ((0 : Nat) : Int) = 0 from rfl, show ((0 + 1 : Nat) : Int) = 1 from rfl] at r0
  rw [show ((1 : Nat) : Int) = 1 from rfl, show ((1 + 1 : Nat) : Int) = 2 from rfl] at r1
  obtain ⟨f, hf3⟩ : ∃ f, fuel = f + 3 := ⟨fuel - 3, by omega⟩
  have e : iter (evC (envOf GC fsR) fuel lp4x1) mask4x1 (f + 3) (st4x1 (.int .i64 n1) x (.int .i64 lo) (.int .i64 hi') v5 (.sl r 0 2) (.int .i64 2) (.int .i64 0)) A = some (.exit 0 ((st4x1 (.int .i64 n1) x (.int .i64 lo) (.int .i64 hi') v5 (.sl r 0 2) (.int .i64 2) (.int .i64 2)).set 16 (.bool false)) (A ++ (X ++ Y))) := by
    rw [iter_succ, cl4x1, r0]
    simp only
    rw [iter_succ, cl4x1, r1]
    simp only
    rw [iter_succ, cl4x1]
    have b1 : evBin .lss (.int .i64 2) (.int .i64 2) = some (.bool false) := by rw [evLss, decide_eq_false (by omega)]
    simp [lp4x1, b1, -evBin]
  rw [← hf3] at e
  exact e
set_option maxRecDepth 100000 in
theorem ev4 {n lo hi' : Int} (hn : inI n) (hlo : inI lo) (hhi : inI hi') : evP (envOf GC fsR) 50 mf4 1 [.int .i64 n, x, .int .i64 lo, .int .i64 hi'] = some (.bool true) := by
  have p7 := pick_range n 7 (by omega)
  have m1 := M12_eq hn (show (0 : Int) < 7 by omega)
  obtain ⟨n0, hn0⟩ : ∃ z, z = pick n 7 := ⟨_, rfl⟩
  rw [← hn0] at p7 m1
  have b1 := add1_pick p7
  obtain ⟨n1, hn1⟩ : ∃ z, z = 1 + n0 := ⟨_, rfl⟩
  rw [← hn1] at b1
  have bs := buildS1 (A := []) (es := [.bool true, .bool false]) (by simp) (by simp [AV.solid, cellsOf])
  rw [show [AV.bool true, AV.bool false].length = 2 from rfl, List.nil_append, List.length_nil] at bs
  obtain ⟨X, lp⟩ := loop4p hx 50 (by omega) (A := [.row 1 false [.bool true, .bool false]]) (r := 0) rfl (show 1 ≤ n1 ∧ n1 ≤ 32 by omega) hlo hhi (.bool true)
  rw [evP_run _ _ rfl]
  simp [mf4, m1, b1, bs, go4x1 lp, frz_i, frz_b, scalarB, -frz, -evBin, -evBuildSlice]
end
theorem ev4L (args : List AV) (h : LawArgs Try.prog 8 Try.f4.params.toList args) : ∃ fuel, evP (envOf GC fsR) fuel mf4 1 args = some (.bool true) := by
  rw [Try.params4] at h
  obtain ⟨a, r, rfl, h0, h⟩ := h.cons
  obtain ⟨b, r, rfl, h1, h⟩ := h.cons
  obtain ⟨c, r, rfl, h2, h⟩ := h.cons
  obtain ⟨d, r, rfl, h3, h⟩ := h.cons
  obtain rfl := h.nil
  obtain ⟨n, rfl, hn⟩ := TA.i64 Try.underlying3 h0
  obtain ⟨r, hr⟩ := r4s_arg (n := 5) h1
  obtain ⟨lo, rfl, hlo⟩ := TA.i64 Try.underlying3 h2
  obtain ⟨hi', rfl, hhi⟩ := TA.i64 Try.underlying3 h3
  exact ⟨50, ev4 hr hn hlo hhi⟩
end Go.Proofs.Ytfmlfekcdbfioaa
