/-
  What the proof is built on (K22 to K23b).
-/
import Derived.Test.YtemklhljjaniaaaQ06
/-
  Cluster: the law Carried, run.
-/
namespace Go.Proofs.Ytemklhljjaniaaa
open Go
open Cy (GC CArc arcA arcsOf isPer ValidA okA smM smT lvM lvT VerOk RefOk Ready Pos frz_i frz_b intsA_len M12_eq)

noncomputable def M29 : PModel := fun args => evP (envOf GC []) 0 mf29 1 args
theorem spec29 : PureSpec Try.prog GC 29 M29 := PureSpec.of_ev (E := envOf GC []) (envOf_sound lookM_nil) rfl at29 comp29 1 fun _ _ h => ⟨0, h⟩
set_option maxRecDepth 100000 in
theorem M29_eq {T : Tool} (chv : AV) (h : ValidC T) : M29 [toolA T chv] = some (.int .i64 (workT T)) := by
  obtain ⟨_, ⟨h1, h2, h3⟩, _⟩ := h
  obtain ⟨ch, pk, pl, tr, bl⟩ := T
  simp only at h1 h2 h3
  have b0 := evEqlI bl 2
  have b1 := evAddI (a := pk) (b := pl) (by omega)
  have b2 := evAddI (a := pk) (b := tr) (by omega)
  have b3 := evAddI (a := pk + tr) (b := pl) (by omega)
  rw [show toolA ⟨ch, pk, pl, tr, bl⟩ chv = .agg [chv, .int .i64 pk, .int .i64 pl, .int .i64 tr, .int .i64 bl] from rfl]
  have l : ∀ A : Arena, A[0]? = some (.row 5 false [.agg [chv, .int .i64 pk, .int .i64 pl, .int .i64 tr, .int .i64 bl]]) → evLoad false 1 A (.ptr 0 0 1) = some (.int .i64 pk) ∧ evLoad false 1 A (.ptr 0 0 2) = some (.int .i64 pl) ∧ evLoad false 1 A (.ptr 0 0 3) = some (.int .i64 tr) ∧ evLoad false 1 A (.ptr 0 0 4) = some (.int .i64 bl) := fun A hA => by
    refine ⟨?_, ?_, ?_, ?_⟩ <;> simp only [evLoad, hA] <;> rfl
  obtain ⟨l1, l2, l3, l4⟩ := l [.row 5 false [.agg [chv, .int .i64 pk, .int .i64 pl, .int .i64 tr, .int .i64 bl]]] rfl
  obtain ⟨s1, hs1⟩ : ∃ s, s = pk + pl := ⟨_, rfl⟩
  obtain ⟨s2, hs2⟩ : ∃ s, s = pk + tr := ⟨_, rfl⟩
  obtain ⟨s3, hs3⟩ : ∃ s, s = s2 + pl := ⟨_, rfl⟩
  rw [← hs1] at b1
  rw [← hs2] at b2 b3
  rw [← hs3] at b3
  have e : workT ⟨ch, pk, pl, tr, bl⟩ = if bl = 2 then s1 else s3 := by
    unfold workT; simp only; rw [hs3, hs2, hs1]
  rw [e]
  unfold M29
  rw [evP_run _ _ rfl]
  by_cases hb : bl = 2
  · rw [decide_eq_true hb] at b0
    rw [if_pos hb]
    simp [mf29, b0, b1, l1, l2, l4, -evBin, -evLoad]
  · rw [decide_eq_false hb] at b0
    rw [if_neg hb]
    simp [mf29, b0, b2, b3, l1, l2, l3, l4, -evBin, -evLoad]

/-! ### the loop, in parts -/
noncomputable def fs6 : List (FuncId × HModel) := [(11, pureH 4 M11), (13, pureFH 4 M13), (22, pureH 4 M22), (29, pureH 4 M29), (30, pureH 4 Cy.M12)]
@[simp] theorem fs6_11 : lookM fs6 11 = some (pureH 4 M11) := rfl
@[simp] theorem fs6_13 : lookM fs6 13 = some (pureFH 4 M13) := rfl
@[simp] theorem fs6_22 : lookM fs6 22 = some (pureH 4 M22) := rfl
@[simp] theorem fs6_29 : lookM fs6 29 = some (pureH 4 M29) := rfl
@[simp] theorem fs6_30 : lookM fs6 30 = some (pureH 4 Cy.M12) := rfl
theorem sound6 : ∀ f M, lookM fs6 f = some M → FnSpecY Try.prog GC f M := lookM_cons (FnSpecY.of_pure spec11 4) (lookM_cons (FnSpecY.of_pureF spec13 4) (lookM_cons (FnSpecY.of_pure spec22 4) (lookM_cons (FnSpecY.of_pure spec29 4) (lookM_cons (FnSpecY.of_pure Cy.spec12 4) lookM_nil))))
def q6_0 : MC := .region [⟨none, .fieldAddr 1 (.var 7), none⟩, ⟨none, .load false 1 (.tmp 0), none⟩, ⟨none, .mv (.var 16), none⟩, ⟨none, .indexSl 1 (.tmp 1) (.tmp 2), none⟩, ⟨none, .load false 1 (.tmp 3), none⟩, ⟨some 17, .mv (.tmp 4), none⟩]
def q6_1 : MC := .seq (.region [⟨none, .mv (.var 17), none⟩, ⟨none, .bin .lss (.tmp 0) (.cst (.int .i64 0)), none⟩, ⟨none, .mv (.tmp 1), none⟩, ⟨none, .mv (.var 17), some (.tmp 2, false)⟩, ⟨none, .mv (.var 9), some (.tmp 2, false)⟩, ⟨none, .bin .gtr (.tmp 3) (.tmp 4), some (.tmp 2, false)⟩, ⟨some 26, .pick (.tmp 2) (.cst (.bool true)) (.tmp 5), none⟩]) (.cond (.var 26) (.seq (.region [⟨some 4, .mv (.cst (.bool false)), none⟩]) .ret) .skip)
def q6_2 : MC := .region [⟨none, .fieldAddr 2 (.var 7), none⟩, ⟨none, .load false 1 (.tmp 0), none⟩, ⟨none, .mv (.var 17), none⟩, ⟨none, .indexSl 1 (.tmp 1) (.tmp 2), none⟩, ⟨none, .load false 1 (.tmp 3), none⟩, ⟨none, .mv (.var 15), none⟩, ⟨none, .fieldAddr 0 (.var 7), none⟩, ⟨none, .load false 1 (.tmp 6), none⟩, ⟨none, .bin .mul (.tmp 5) (.tmp 7), none⟩, ⟨none, .bin .add (.tmp 4) (.tmp 8), none⟩, ⟨some 18, .mv (.tmp 9), none⟩]
def q6_3 : MC := .region [⟨some 19, .mv (.cst (.int .i64 0)), none⟩]
def q6_4 : MC := .seq (.region [⟨none, .mv (.var 12), none⟩, ⟨none, .mv (.var 17), none⟩, ⟨some 27, .bin .neq (.tmp 0) (.tmp 1), none⟩]) (.cond (.var 27) (.region [⟨none, .fieldAddr 3 (.var 6), none⟩, ⟨none, .load false 1 (.tmp 0), none⟩, ⟨some 19, .mv (.tmp 1), none⟩]) .skip)
def q6_5 : MC := .seq (.region [⟨none, .mv (.var 15), none⟩, ⟨none, .bin .gtr (.tmp 0) (.cst (.int .i64 0)), none⟩, ⟨none, .mv (.tmp 1), none⟩, ⟨none, .mv (.var 16), some (.tmp 2, false)⟩, ⟨none, .bin .gtr (.tmp 3) (.cst (.int .i64 0)), some (.tmp 2, false)⟩, ⟨none, .pick (.tmp 2) (.cst (.bool true)) (.tmp 4), none⟩, ⟨none, .mv (.tmp 5), none⟩, ⟨none, .mv (.var 18), some (.tmp 6, true)⟩, ⟨none, .mv (.var 11), some (.tmp 6, true)⟩, ⟨none, .mv (.var 19), some (.tmp 6, true)⟩, ⟨none, .bin .add (.tmp 8) (.tmp 9), some (.tmp 6, true)⟩, ⟨none, .bin .lss (.tmp 7) (.tmp 10), some (.tmp 6, true)⟩, ⟨some 28, .pick (.tmp 6) (.tmp 11) (.cst (.bool false)), none⟩]) (.cond (.var 28) (.seq (.region [⟨some 4, .mv (.cst (.bool false)), none⟩]) .ret) .skip)
def q6_6 : MC := .region [⟨none, .mv (.var 18), none⟩, ⟨none, .mv (.var 10), none⟩, ⟨none, .bin .add (.tmp 0) (.tmp 1), none⟩, ⟨some 11, .mv (.tmp 2), none⟩]
def q6_7 : MC := .region [⟨none, .mv (.var 17), none⟩, ⟨none, .bin .add (.tmp 0) (.cst (.int .i64 1)), none⟩, ⟨some 20, .mv (.tmp 1), none⟩]
def q6_8 : MC := .seq (.region [⟨none, .fieldAddr 4 (.var 6), none⟩, ⟨none, .load false 1 (.tmp 0), none⟩, ⟨some 29, .bin .eql (.tmp 1) (.cst (.int .i64 2)), none⟩]) (.cond (.var 29) (.seq (.region [⟨none, .mv (.var 17), none⟩, ⟨some 20, .mv (.tmp 0), none⟩]) (.region [⟨some 12, .mv (.cst (.int .i64 (-1))), none⟩])) (.region [⟨none, .mv (.var 17), none⟩, ⟨none, .bin .add (.tmp 0) (.cst (.int .i64 1)), none⟩, ⟨some 12, .mv (.tmp 1), none⟩]))
def q6_9 : MC := .seq (.region [⟨none, .mv (.var 14), none⟩, ⟨none, .mv (.var 17), none⟩, ⟨none, .indexSl 1 (.tmp 0) (.tmp 1), none⟩, ⟨none, .load false 1 (.tmp 2), none⟩, ⟨none, .mv (.tmp 3), none⟩, ⟨none, .mv (.var 17), some (.tmp 4, true)⟩, ⟨none, .bin .gtr (.tmp 5) (.cst (.int .i64 0)), some (.tmp 4, true)⟩, ⟨some 30, .pick (.tmp 4) (.tmp 6) (.cst (.bool false)), none⟩]) (.cond (.var 30) (.seq (.region [⟨none, .mv (.var 18), none⟩, ⟨none, .mv (.var 13), none⟩, ⟨none, .mv (.var 17), none⟩, ⟨none, .indexSl 1 (.tmp 1) (.tmp 2), none⟩, ⟨none, .load false 1 (.tmp 3), none⟩, ⟨none, .bin .sub (.tmp 0) (.tmp 4), none⟩, ⟨some 21, .mv (.tmp 5), none⟩]) (.seq (.region [⟨none, .mv (.var 21), none⟩, ⟨none, .fieldAddr 0 (.var 6), none⟩, ⟨none, .load false 1 (.tmp 1), none⟩, ⟨none, .mv (.var 17), none⟩, ⟨none, .bin .sub (.tmp 3) (.cst (.int .i64 1)), none⟩, ⟨none, .indexSl 2 (.tmp 2) (.tmp 4), none⟩, ⟨none, .fieldAddr 0 (.tmp 5), none⟩, ⟨none, .load false 1 (.tmp 6), none⟩, ⟨none, .bin .lss (.tmp 0) (.tmp 7), none⟩, ⟨none, .mv (.tmp 8), none⟩, ⟨none, .mv (.var 21), some (.tmp 9, false)⟩, ⟨none, .fieldAddr 0 (.var 6), some (.tmp 9, false)⟩, ⟨none, .load false 1 (.tmp 11), some (.tmp 9, false)⟩, ⟨none, .mv (.var 17), some (.tmp 9, false)⟩, ⟨none, .bin .sub (.tmp 13) (.cst (.int .i64 1)), some (.tmp 9, false)⟩, ⟨none, .indexSl 2 (.tmp 12) (.tmp 14), some (.tmp 9, false)⟩, ⟨none, .fieldAddr 0 (.tmp 15), some (.tmp 9, false)⟩, ⟨none, .load false 1 (.tmp 16), some (.tmp 9, false)⟩, ⟨none, .fieldAddr 0 (.var 6), some (.tmp 9, false)⟩, ⟨none, .load false 1 (.tmp 18), some (.tmp 9, false)⟩, ⟨none, .mv (.var 17), some (.tmp 9, false)⟩, ⟨none, .bin .sub (.tmp 20) (.cst (.int .i64 1)), some (.tmp 9, false)⟩, ⟨none, .indexSl 2 (.tmp 19) (.tmp 21), some (.tmp 9, false)⟩, ⟨none, .fieldAddr 1 (.tmp 22), some (.tmp 9, false)⟩, ⟨none, .load false 1 (.tmp 23), some (.tmp 9, false)⟩, ⟨none, .bin .add (.tmp 17) (.tmp 24), some (.tmp 9, false)⟩, ⟨none, .bin .gtr (.tmp 10) (.tmp 25), some (.tmp 9, false)⟩, ⟨some 31, .pick (.tmp 9) (.cst (.bool true)) (.tmp 26), none⟩]) (.cond (.var 31) (.seq (.region [⟨some 4, .mv (.cst (.bool false)), none⟩]) .ret) .skip))) .skip)
def q6_10 : MC := .region [⟨none, .mv (.var 14), none⟩, ⟨none, .mv (.var 17), none⟩, ⟨none, .indexSl 1 (.tmp 0) (.tmp 1), none⟩, ⟨none, .store 1 (.tmp 2) (.cst (.bool false)), none⟩]
def q6_11 : MC := .seq (.region [⟨none, .mv (.var 14), none⟩, ⟨none, .mv (.var 20), none⟩, ⟨none, .indexSl 1 (.tmp 0) (.tmp 1), none⟩, ⟨none, .load false 1 (.tmp 2), none⟩, ⟨none, .mv (.tmp 3), none⟩, ⟨none, .mv (.var 20), some (.tmp 4, true)⟩, ⟨none, .mv (.var 9), some (.tmp 4, true)⟩, ⟨none, .bin .leq (.tmp 5) (.tmp 6), some (.tmp 4, true)⟩, ⟨none, .pick (.tmp 4) (.tmp 7) (.cst (.bool false)), none⟩, ⟨none, .mv (.tmp 8), none⟩, ⟨none, .mv (.var 20), some (.tmp 9, true)⟩, ⟨none, .bin .gtr (.tmp 10) (.cst (.int .i64 0)), some (.tmp 9, true)⟩, ⟨some 32, .pick (.tmp 9) (.tmp 11) (.cst (.bool false)), none⟩]) (.cond (.var 32) (.seq (.region [⟨some 4, .mv (.cst (.bool false)), none⟩]) .ret) .skip)
def q6_12 : MC := .region [⟨none, .mv (.var 14), none⟩, ⟨none, .mv (.var 20), none⟩, ⟨none, .indexSl 1 (.tmp 0) (.tmp 1), none⟩, ⟨none, .store 1 (.tmp 2) (.cst (.bool true)), none⟩]
def q6_13 : MC := .region [⟨none, .mv (.var 13), none⟩, ⟨none, .mv (.var 20), none⟩, ⟨none, .mv (.var 11), none⟩, ⟨none, .indexSl 1 (.tmp 0) (.tmp 1), none⟩, ⟨none, .store 1 (.tmp 3) (.tmp 2), none⟩]
theorem lp6_eq : lp6x0 = .seq (.seq (.region [⟨none, .mv (.var 16), none⟩, ⟨none, .mv (.var 9), none⟩, ⟨some 25, .bin .leq (.tmp 0) (.tmp 1), none⟩]) (.cond (.var 25) .skip (.exit 2))) (.seq (.seq (.block 3 (.seq q6_0 (.seq q6_1 (.seq q6_2 (.seq q6_3 (.seq q6_4 (.seq q6_5 (.seq q6_6 (.seq q6_7 (.seq q6_8 (.seq q6_9 (.seq q6_10 (.seq q6_11 (.seq q6_12 q6_13)))))))))))))) (.kill [0, 1, 3, 4, 8, 17, 18, 19, 20, 21, 22, 23, 24, 25, 26, 27, 28, 29, 30, 31, 32])) (.region [⟨none, .mv (.var 16), none⟩, ⟨none, .bin .add (.tmp 0) (.cst (.int .i64 1)), none⟩, ⟨some 16, .mv (.tmp 1), none⟩])) := rfl
abbrev s6 (v2 v5 v6 v7 v9 v10 v11 v12 v13 v14 v15 v16 v17 v18 v19 v20 v21 v25 v26 v27 v28 v29 v30 v31 v32 : AV) : List AV := [.undef, .undef, v2, .undef, .undef, v5, v6, v7, .undef, v9, v10, v11, v12, v13, v14, v15, v16, v17, v18, v19, v20, v21, .undef, .undef, .undef, v25, v26, v27, v28, v29, v30, v31, v32]
theorem seg6_0 {K : List KC} {v2 v5 v6 v9 v10 v11 v12 v13 v14 v15 v17 v18 v19 v20 v21 v25 v26 v27 v28 v29 v30 v31 v32 : AV} {A : Arena} {O : AV} {i t : Int} (f1 : evFieldAddr 1 A (.ptr 2 0 0) = some (.ptr 2 0 1)) (l1 : evLoad false 1 A (.ptr 2 0 1) = some O) (x1 : evIndexSl 1 A O (.int .i64 i) = some (.fp [.int .i64 t])) :
    run (envOf GC fs6) 300 (.code q6_0 :: K) (s6 v2 v5 v6 (.ptr 2 0 0) v9 v10 v11 v12 v13 v14 v15 (.int .i64 i) v17 v18 v19 v20 v21 v25 v26 v27 v28 v29 v30 v31 v32) A = run (envOf GC fs6) 300 K (s6 v2 v5 v6 (.ptr 2 0 0) v9 v10 v11 v12 v13 v14 v15 (.int .i64 i) (.int .i64 t) v18 v19 v20 v21 v25 v26 v27 v28 v29 v30 v31 v32) A := by
  simp [q6_0, f1, l1, x1, -evFieldAddr, -evLoad, -evIndexSl]

theorem seg6_1 {K : List KC} {v2 v5 v6 v7 v10 v11 v12 v13 v14 v15 v16 v18 v19 v20 v21 v25 v26 v27 v28 v29 v30 v31 v32 : AV} {A : Arena} {n t : Int} (b1 : evBin .lss (.int .i64 t) (.int .i64 0) = some (.bool false)) (b2 : evBin .gtr (.int .i64 t) (.int .i64 n) = some (.bool false)) :
    run (envOf GC fs6) 300 (.code q6_1 :: K) (s6 v2 v5 v6 v7 (.int .i64 n) v10 v11 v12 v13 v14 v15 v16 (.int .i64 t) v18 v19 v20 v21 v25 v26 v27 v28 v29 v30 v31 v32) A = run (envOf GC fs6) 300 K (s6 v2 v5 v6 v7 (.int .i64 n) v10 v11 v12 v13 v14 v15 v16 (.int .i64 t) v18 v19 v20 v21 v25 (.bool false) v27 v28 v29 v30 v31 v32) A := by
  simp [q6_1, b1, b2, -evBin]

theorem seg6_2 {K : List KC} {v2 v5 v6 v9 v10 v11 v12 v13 v14 v16 v18 v19 v20 v21 v25 v26 v27 v28 v29 v30 v31 v32 : AV} {A : Arena} {ST : AV} {k t S P m s : Int} (f2 : evFieldAddr 2 A (.ptr 2 0 0) = some (.ptr 2 0 2)) (l2 : evLoad false 1 A (.ptr 2 0 2) = some ST) (x2 : evIndexSl 1 A ST (.int .i64 t) = some (.fp [.int .i64 S])) (f0 : evFieldAddr 0 A (.ptr 2 0 0) = some (.ptr 2 0 0)) (l0 : evLoad false 1 A (.ptr 2 0 0) = some (.int .i64 P)) (b1 : evBin .mul (.int .i64 k) (.int .i64 P) = some (.int .i64 m)) (b2 : evBin .add (.int .i64 S) (.int .i64 m) = some (.int .i64 s)) :
    run (envOf GC fs6) 300 (.code q6_2 :: K) (s6 v2 v5 v6 (.ptr 2 0 0) v9 v10 v11 v12 v13 v14 (.int .i64 k) v16 (.int .i64 t) v18 v19 v20 v21 v25 v26 v27 v28 v29 v30 v31 v32) A = run (envOf GC fs6) 300 K (s6 v2 v5 v6 (.ptr 2 0 0) v9 v10 v11 v12 v13 v14 (.int .i64 k) v16 (.int .i64 t) (.int .i64 s) v19 v20 v21 v25 v26 v27 v28 v29 v30 v31 v32) A := by
  simp [q6_2, f2, l2, x2, f0, l0, b1, b2, -evFieldAddr, -evLoad, -evIndexSl, -evBin]

theorem seg6_3 {K : List KC} {v2 v5 v6 v7 v9 v10 v11 v12 v13 v14 v15 v16 v17 v18 v19 v20 v21 v25 v26 v27 v28 v29 v30 v31 v32 : AV} {A : Arena}  :
    run (envOf GC fs6) 300 (.code q6_3 :: K) (s6 v2 v5 v6 v7 v9 v10 v11 v12 v13 v14 v15 v16 v17 v18 v19 v20 v21 v25 v26 v27 v28 v29 v30 v31 v32) A = run (envOf GC fs6) 300 K (s6 v2 v5 v6 v7 v9 v10 v11 v12 v13 v14 v15 v16 v17 v18 (.int .i64 0) v20 v21 v25 v26 v27 v28 v29 v30 v31 v32) A := by
  simp [q6_3]

theorem seg6_4 {K : List KC} {v2 v5 v7 v9 v10 v11 v13 v14 v15 v16 v18 v20 v21 v25 v26 v27 v28 v29 v30 v31 v32 : AV} {A : Arena} {p t tr : Int} {d : Bool} (b1 : evBin .neq (.int .i64 p) (.int .i64 t) = some (.bool d)) (f3 : evFieldAddr 3 A (.ptr 1 0 0) = some (.ptr 1 0 3)) (l3 : evLoad false 1 A (.ptr 1 0 3) = some (.int .i64 tr)) :
    run (envOf GC fs6) 300 (.code q6_4 :: K) (s6 v2 v5 (.ptr 1 0 0) v7 v9 v10 v11 (.int .i64 p) v13 v14 v15 v16 (.int .i64 t) v18 (.int .i64 0) v20 v21 v25 v26 v27 v28 v29 v30 v31 v32) A = run (envOf GC fs6) 300 K (s6 v2 v5 (.ptr 1 0 0) v7 v9 v10 v11 (.int .i64 p) v13 v14 v15 v16 (.int .i64 t) v18 (.int .i64 (if d = true then tr else 0)) v20 v21 v25 v26 (.bool d) v28 v29 v30 v31 v32) A := by
  cases d <;> simp [q6_4, b1, f3, l3, -evFieldAddr, -evLoad, -evBin]

theorem seg6_5 {K : List KC} {v2 v5 v6 v7 v9 v10 v12 v13 v14 v17 v20 v21 v25 v26 v27 v28 v29 v30 v31 v32 : AV} {A : Arena} {bz k i s x y : Int} {d e : Bool} (b1 : evBin .gtr (.int .i64 k) (.int .i64 0) = some (.bool d)) (b2 : evBin .gtr (.int .i64 i) (.int .i64 0) = some (.bool e)) (b3 : evBin .add (.int .i64 bz) (.int .i64 x) = some (.int .i64 y)) (b4 : (d || e) = true → evBin .lss (.int .i64 s) (.int .i64 y) = some (.bool false)) :
    run (envOf GC fs6) 300 (.code q6_5 :: K) (s6 v2 v5 v6 v7 v9 v10 (.int .i64 bz) v12 v13 v14 (.int .i64 k) (.int .i64 i) v17 (.int .i64 s) (.int .i64 x) v20 v21 v25 v26 v27 v28 v29 v30 v31 v32) A = run (envOf GC fs6) 300 K (s6 v2 v5 v6 v7 v9 v10 (.int .i64 bz) v12 v13 v14 (.int .i64 k) (.int .i64 i) v17 (.int .i64 s) (.int .i64 x) v20 v21 v25 v26 v27 (.bool false) v29 v30 v31 v32) A := by
  cases d with
  | true =>
    have b4 := b4 rfl
    simp [q6_5, b1, b3, b4, -evBin]
  | false =>
    cases e with
    | true =>
      have b4 := b4 rfl
      simp [q6_5, b1, b2, b3, b4, -evBin]
    | false => simp [q6_5, b1, b2, -evBin]

theorem seg6_6 {K : List KC} {v2 v5 v6 v7 v9 v11 v12 v13 v14 v15 v16 v17 v19 v20 v21 v25 v26 v27 v28 v29 v30 v31 v32 : AV} {A : Arena} {w s y : Int} (b1 : evBin .add (.int .i64 s) (.int .i64 w) = some (.int .i64 y)) :
    run (envOf GC fs6) 300 (.code q6_6 :: K) (s6 v2 v5 v6 v7 v9 (.int .i64 w) v11 v12 v13 v14 v15 v16 v17 (.int .i64 s) v19 v20 v21 v25 v26 v27 v28 v29 v30 v31 v32) A = run (envOf GC fs6) 300 K (s6 v2 v5 v6 v7 v9 (.int .i64 w) (.int .i64 y) v12 v13 v14 v15 v16 v17 (.int .i64 s) v19 v20 v21 v25 v26 v27 v28 v29 v30 v31 v32) A := by
  simp [q6_6, b1, -evBin]

theorem seg6_7 {K : List KC} {v2 v5 v6 v7 v9 v10 v11 v12 v13 v14 v15 v16 v18 v19 v20 v21 v25 v26 v27 v28 v29 v30 v31 v32 : AV} {A : Arena} {t y : Int} (b1 : evBin .add (.int .i64 t) (.int .i64 1) = some (.int .i64 y)) :
    run (envOf GC fs6) 300 (.code q6_7 :: K) (s6 v2 v5 v6 v7 v9 v10 v11 v12 v13 v14 v15 v16 (.int .i64 t) v18 v19 v20 v21 v25 v26 v27 v28 v29 v30 v31 v32) A = run (envOf GC fs6) 300 K (s6 v2 v5 v6 v7 v9 v10 v11 v12 v13 v14 v15 v16 (.int .i64 t) v18 v19 (.int .i64 y) v21 v25 v26 v27 v28 v29 v30 v31 v32) A := by
  simp [q6_7, b1, -evBin]

theorem seg6_8 {K : List KC} {v2 v5 v7 v9 v10 v11 v12 v13 v14 v15 v16 v18 v19 v21 v25 v26 v27 v28 v29 v30 v31 v32 : AV} {A : Arena} {t y bl : Int} {d : Bool} (f4 : evFieldAddr 4 A (.ptr 1 0 0) = some (.ptr 1 0 4)) (l4 : evLoad false 1 A (.ptr 1 0 4) = some (.int .i64 bl)) (b1 : evBin .eql (.int .i64 bl) (.int .i64 2) = some (.bool d)) (b2 : evBin .add (.int .i64 t) (.int .i64 1) = some (.int .i64 y)) :
    run (envOf GC fs6) 300 (.code q6_8 :: K) (s6 v2 v5 (.ptr 1 0 0) v7 v9 v10 v11 v12 v13 v14 v15 v16 (.int .i64 t) v18 v19 (.int .i64 y) v21 v25 v26 v27 v28 v29 v30 v31 v32) A = run (envOf GC fs6) 300 K (s6 v2 v5 (.ptr 1 0 0) v7 v9 v10 v11 (.int .i64 (if d = true then -1 else y)) v13 v14 v15 v16 (.int .i64 t) v18 v19 (.int .i64 (if d = true then t else y)) v21 v25 v26 v27 v28 (.bool d) v30 v31 v32) A := by
  cases d <;> simp [q6_8, f4, l4, b1, b2, -evBin, -evFieldAddr, -evLoad]

theorem seg6_9 {K : List KC} {v2 v5 v7 v9 v10 v11 v12 v15 v16 v19 v20 v21 v25 v26 v27 v28 v29 v30 v31 v32 : AV} {A : Arena} {SN FL C : AV} {t s z u t1 tm sy x : Int} {d e : Bool} {pf ps : AV} (x1 : evIndexSl 1 A FL (.int .i64 t) = some pf) (l1 : evLoad false 1 A pf = some (.bool d)) (b1 : evBin .gtr (.int .i64 t) (.int .i64 0) = some (.bool e))
    (x2 : evIndexSl 1 A SN (.int .i64 t) = some ps) (l2 : evLoad false 1 A ps = some (.int .i64 z)) (b2 : d = true → e = true → evBin .sub (.int .i64 s) (.int .i64 z) = some (.int .i64 u)) (f0 : evFieldAddr 0 A (.ptr 1 0 0) = some (.ptr 1 0 0)) (l0 : evLoad false 1 A (.ptr 1 0 0) = some C) (b3 : evBin .sub (.int .i64 t) (.int .i64 1) = some (.int .i64 t1))
    (x3 : e = true → evIndexSl 2 A C (.int .i64 t1) = some (.fp [.int .i64 tm, .int .i64 sy])) (b4 : d = true → e = true → evBin .lss (.int .i64 u) (.int .i64 tm) = some (.bool false)) (b5 : evBin .add (.int .i64 tm) (.int .i64 sy) = some (.int .i64 x)) (b6 : d = true → e = true → evBin .gtr (.int .i64 u) (.int .i64 x) = some (.bool false)) :
    ∃ v21' v30' v31' : AV, run (envOf GC fs6) 300 (.code q6_9 :: K) (s6 v2 v5 (.ptr 1 0 0) v7 v9 v10 v11 v12 SN FL v15 v16 (.int .i64 t) (.int .i64 s) v19 v20 v21 v25 v26 v27 v28 v29 v30 v31 v32) A = run (envOf GC fs6) 300 K (s6 v2 v5 (.ptr 1 0 0) v7 v9 v10 v11 v12 SN FL v15 v16 (.int .i64 t) (.int .i64 s) v19 v20 v21' v25 v26 v27 v28 v29 v30' v31' v32) A := by
  have g0 : evFieldAddr 0 A (.fp [.int .i64 tm, .int .i64 sy]) = some (.fp [.int .i64 tm, .int .i64 sy]) := rfl
  have g1 : evFieldAddr 1 A (.fp [.int .i64 tm, .int .i64 sy]) = some (.fp [.int .i64 sy]) := rfl
  have e0 : evLoad false 1 A (.fp [.int .i64 tm, .int .i64 sy]) = some (.int .i64 tm) := rfl
  cases d with
  | false => exact ⟨v21, .bool false, v31, by simp [q6_9, x1, l1, -evBin, -evFieldAddr, -evLoad, -evIndexSl]⟩
  | true =>
    cases e with
    | false => exact ⟨v21, .bool false, v31, by simp [q6_9, x1, l1, b1, -evBin, -evFieldAddr, -evLoad, -evIndexSl]⟩
    | true =>
      have b2 := b2 rfl rfl
      have x3 := x3 rfl
      have b4 := b4 rfl rfl
      have b6 := b6 rfl rfl
      exact ⟨.int .i64 u, .bool true, .bool false, by simp [q6_9, x1, l1, b1, x2, l2, b2, f0, l0, b3, x3, b4, b5, b6, g0, g1, e0, -evBin, -evFieldAddr, -evLoad, -evIndexSl]⟩

theorem seg6_10 {K : List KC} {v2 v5 v6 v7 v9 v10 v11 v12 v13 v15 v16 v18 v19 v20 v21 v25 v26 v27 v28 v29 v30 v31 v32 : AV} {A : Arena} {A' : Arena} {FL pf : AV} {t : Int} (x1 : evIndexSl 1 A FL (.int .i64 t) = some pf) (s1 : evStore 1 A pf (.bool false) = some A') :
    run (envOf GC fs6) 300 (.code q6_10 :: K) (s6 v2 v5 v6 v7 v9 v10 v11 v12 v13 FL v15 v16 (.int .i64 t) v18 v19 v20 v21 v25 v26 v27 v28 v29 v30 v31 v32) A = run (envOf GC fs6) 300 K (s6 v2 v5 v6 v7 v9 v10 v11 v12 v13 FL v15 v16 (.int .i64 t) v18 v19 v20 v21 v25 v26 v27 v28 v29 v30 v31 v32) A' := by
  simp [q6_10, x1, s1, -evStore, -evIndexSl]

theorem seg6_11 {K : List KC} {v2 v5 v6 v7 v10 v11 v12 v13 v15 v16 v17 v18 v19 v21 v25 v26 v27 v28 v29 v30 v31 v32 : AV} {A : Arena} {n y : Int} {FL pf : AV} {d e g : Bool} (x1 : evIndexSl 1 A FL (.int .i64 y) = some pf) (l1 : evLoad false 1 A pf = some (.bool d)) (b1 : evBin .leq (.int .i64 y) (.int .i64 n) = some (.bool e)) (b2 : evBin .gtr (.int .i64 y) (.int .i64 0) = some (.bool g)) (hd : (d && e && g) = false) :
    run (envOf GC fs6) 300 (.code q6_11 :: K) (s6 v2 v5 v6 v7 (.int .i64 n) v10 v11 v12 v13 FL v15 v16 v17 v18 v19 (.int .i64 y) v21 v25 v26 v27 v28 v29 v30 v31 v32) A = run (envOf GC fs6) 300 K (s6 v2 v5 v6 v7 (.int .i64 n) v10 v11 v12 v13 FL v15 v16 v17 v18 v19 (.int .i64 y) v21 v25 v26 v27 v28 v29 v30 v31 (.bool false)) A := by
  cases d <;> cases e <;> cases g <;> first | (simp at hd; done) | simp [q6_11, x1, l1, b1, b2, -evBin, -evLoad, -evIndexSl]

theorem seg6_12 {K : List KC} {v2 v5 v6 v7 v9 v10 v11 v12 v13 v15 v16 v17 v18 v19 v21 v25 v26 v27 v28 v29 v30 v31 v32 : AV} {A : Arena} {A' : Arena} {FL pf : AV} {y : Int} (x1 : evIndexSl 1 A FL (.int .i64 y) = some pf) (s1 : evStore 1 A pf (.bool true) = some A') :
    run (envOf GC fs6) 300 (.code q6_12 :: K) (s6 v2 v5 v6 v7 v9 v10 v11 v12 v13 FL v15 v16 v17 v18 v19 (.int .i64 y) v21 v25 v26 v27 v28 v29 v30 v31 v32) A = run (envOf GC fs6) 300 K (s6 v2 v5 v6 v7 v9 v10 v11 v12 v13 FL v15 v16 v17 v18 v19 (.int .i64 y) v21 v25 v26 v27 v28 v29 v30 v31 v32) A' := by
  simp [q6_12, x1, s1, -evStore, -evIndexSl]

theorem seg6_13 {K : List KC} {v2 v5 v6 v7 v9 v10 v12 v14 v15 v16 v17 v18 v19 v21 v25 v26 v27 v28 v29 v30 v31 v32 : AV} {A : Arena} {A' : Arena} {SN pf : AV} {y bz : Int} (x1 : evIndexSl 1 A SN (.int .i64 y) = some pf) (s1 : evStore 1 A pf (.int .i64 bz) = some A') :
    run (envOf GC fs6) 300 (.code q6_13 :: K) (s6 v2 v5 v6 v7 v9 v10 (.int .i64 bz) v12 SN v14 v15 v16 v17 v18 v19 (.int .i64 y) v21 v25 v26 v27 v28 v29 v30 v31 v32) A = run (envOf GC fs6) 300 K (s6 v2 v5 v6 v7 v9 v10 (.int .i64 bz) v12 SN v14 v15 v16 v17 v18 v19 (.int .i64 y) v21 v25 v26 v27 v28 v29 v30 v31 v32) A' := by
  simp [q6_13, x1, s1, -evStore, -evIndexSl]

end Go.Proofs.Ytemklhljjaniaaa
/-
  Cluster: the law Carried, run: a task is done.
-/
namespace Go.Proofs.Ytemklhljjaniaaa
open Go
open Cy (GC CArc arcA arcsOf isPer ValidA okA smM smT lvM lvT VerOk RefOk Ready Pos lar Keeps frz_i frz_b intsA_len M12_eq)

def A6 (x : X5) (T : Tool) (C : AV) (s : Sched) (sn : List Int) (fl : List Bool) : Arena := [.row 5 false [x5A x], .row 5 false [toolA T C], .row 4 false [schA s], .row 1 false (intsA sn), .row 1 false (fl.map .bool)]
theorem S6_bd {st : List Int} (h : ∀ x ∈ st, 0 ≤ x ∧ x ≤ 1000000000) (t : Int) : 0 ≤ S6 st t ∧ S6 st t ≤ 1000000000 := by
  unfold S6
  rw [List.getD_eq_getElem?_getD]
  by_cases ht : t.toNat < st.length
  · rw [List.getElem?_eq_getElem ht]; exact h _ (List.getElem_mem ht)
  · rw [List.getElem?_eq_none (by omega)]; simp
theorem start_bd {o st : List Int} (h : ∀ x ∈ st, 0 ≤ x ∧ x ≤ 1000000000) {P : Int} (hP : 1 ≤ P ∧ P ≤ 1000000) {k : Nat} (hk : k ≤ 10) (i : Nat) : 0 ≤ startO o st P k i ∧ startO o st P k i ≤ 1010000000 := by
  have h1 := S6_bd h (o.getD i 0)
  have h2 : (0 : Int) ≤ k * P := Int.mul_nonneg (by omega) (by omega)
  have h3 : (k : Int) * P ≤ 10 * 1000000 := Int.mul_le_mul (by omega) (by omega) (by omega) (by omega)
  unfold startO
  omega
theorem busy_bd {T : Tool} {o st : List Int} (hv : ValidC T) (h : ∀ x ∈ st, 0 ≤ x ∧ x ≤ 1000000000) {P : Int} (hP : 1 ≤ P ∧ P ≤ 1000000) {k : Nat} (hk : k ≤ 10) (i : Nat) : 0 ≤ busyO T o st P k i ∧ busyO T o st P k i ≤ 1020000000 := by
  have hw := workT_bd hv
  unfold busyO
  split
  · have := start_bd (o := o) h hP hk (i - 1); omega
  · split
    · have := start_bd (o := o) h hP (k := k - 1) (by omega) T.ch.length; omega
    · omega
set_option maxRecDepth 100000 in
set_option maxHeartbeats 4000000 in
theorem round6 {x : X5} {T : Tool} {C : AV} {s : Sched} (hO : s.order ∈ ordersM T) (hK : Keeps (lar s.period (arcsL T s.order)) s.starts) (hP : 1 ≤ s.period ∧ s.period ≤ 1000000) (hsl : s.starts.length = T.ch.length + 1) (hsb : ∀ x ∈ s.starts, 0 ≤ x ∧ x ≤ 1000000000)
    (hcv : SlA 2 (T.ch.map chA) C) {k i : Nat} (hk : k ≤ 10) (hi : i < s.order.length) {sn : List Int} {fl : List Bool} (hC : C6 T s.order s.starts s.period k i sn fl) (v2 : AV) :
    ∃ sn' fl', run (envOf GC fs6) 300 [.code lp6x0] (st6x0 v2 (.bool true) (.ptr 1 0 0) (.ptr 2 0 0) (.int .i64 (T.ch.length : Int)) (.int .i64 (workT T)) (.int .i64 (busyO T s.order s.starts s.period k i)) (.int .i64 (placeO T s.order k i)) (.sl 3 0 (T.ch.length + 2)) (.sl 4 0 (T.ch.length + 2)) (.int .i64 (k : Int)) (.int .i64 (i : Int))) (A6 x T C s sn fl) =
      some (.normal (st6x0 v2 (.bool true) (.ptr 1 0 0) (.ptr 2 0 0) (.int .i64 (T.ch.length : Int)) (.int .i64 (workT T)) (.int .i64 (busyO T s.order s.starts s.period k (i + 1))) (.int .i64 (placeO T s.order k (i + 1))) (.sl 3 0 (T.ch.length + 2)) (.sl 4 0 (T.ch.length + 2)) (.int .i64 (k : Int)) (.int .i64 ((i + 1 : Nat) : Int))) (A6 x T C s sn' fl')) ∧ C6 T s.order s.starts s.period k (i + 1) sn' fl' := by
  obtain ⟨hv, hol, _, hnd⟩ := orders_mem hO
  have hn4 := hv.2.2.2.1
  have hw := workT_bd hv
  have hbd := orders_bd hO _ (List.getElem_mem hi)
  obtain ⟨t, ht⟩ : ∃ t : Nat, s.order[i] = (t : Int) := ⟨s.order[i].toNat, by omega⟩
  have htn : t ≤ T.ch.length := by omega
  have hot : s.order.getD i 0 = (t : Int) := by rw [List.getD_eq_getElem?_getD, List.getElem?_eq_getElem hi, ← ht]; rfl
  obtain ⟨put, hput⟩ : ∃ put : Nat, (put : Int) = putT T t := by
    refine ⟨(putT T t).toNat, ?_⟩
    unfold putT; split <;> omega
  have hputn : put ≤ T.ch.length + 1 := by unfold putT at hput; split at hput <;> omega
  have hsb1 := start_bd (o := s.order) hsb hP hk i
  have hst : startO s.order s.starts s.period k i = S6 s.starts t + k * s.period := by unfold startO; rw [hot]
  have hbz := busy_bd (o := s.order) hv hsb hP hk i
  have hmul : (0 : Int) ≤ k * s.period ∧ (k : Int) * s.period ≤ 10000000 := ⟨Int.mul_nonneg (by omega) (by omega), Int.mul_le_mul (c := (10 : Int)) (d := 1000000) (by omega) (by omega) (by omega) (by omega)⟩
  have hstep := hC.step hO hi ht hput (by rw [← hst]; omega)
  refine ⟨_, _, ?_, hstep⟩
  have hb1 : busyO T s.order s.starts s.period k (i + 1) = startO s.order s.starts s.period k i + workT T := by
    unfold busyO; rw [if_pos (by omega), Nat.add_sub_cancel]
  have hp1 : placeO T s.order k (i + 1) = if T.blades = 2 then -1 else (t : Int) + 1 := by
    unfold placeO
    rw [if_neg (show ¬ (i + 1 = 0 ∧ k = 0) by omega)]
    split
    · rfl
    · rw [if_pos (by omega), Nat.add_sub_cancel, hot]
  rw [hb1, hp1]
  obtain ⟨A, hA⟩ : ∃ A, A = A6 x T C s sn fl := ⟨_, rfl⟩
  obtain ⟨A1, hA1⟩ : ∃ A, A = A6 x T C s sn (fl.set t false) := ⟨_, rfl⟩
  obtain ⟨A2, hA2⟩ : ∃ A, A = A6 x T C s sn ((fl.set t false).set put true) := ⟨_, rfl⟩
  have ls := hC.lsn
  have lf := hC.lfl
  -- the facts
  have hos := slA_holds 1 (intsA s.order)
  have hss := slA_holds 1 (intsA s.starts)
  have f1 : evFieldAddr 1 A (.ptr 2 0 0) = some (.ptr 2 0 1) := by rw [hA]; rfl
  have f2 : evFieldAddr 2 A (.ptr 2 0 0) = some (.ptr 2 0 2) := by rw [hA]; rfl
  have f0 : evFieldAddr 0 A (.ptr 2 0 0) = some (.ptr 2 0 0) := by rw [hA]; rfl
  have l1 : evLoad false 1 A (.ptr 2 0 1) = some (slA 1 (intsA s.order)) := by rw [hA]; rfl
  have l2 : evLoad false 1 A (.ptr 2 0 2) = some (slA 1 (intsA s.starts)) := by rw [hA]; rfl
  have l0 : evLoad false 1 A (.ptr 2 0 0) = some (.int .i64 s.period) := by rw [hA]; rfl
  have x1 := hos.int (A := A) _ _ (show s.order[i]? = some (t : Int) by rw [List.getElem?_eq_getElem hi, ht]) .i64
  have x2 := hss.int (A := A) (i := t) (z := S6 s.starts t) _ _ (by
    unfold S6
    rw [Int.toNat_natCast, List.getD_eq_getElem?_getD, List.getElem?_eq_getElem (by omega)]; rfl) .i64
  have c0 : evFieldAddr 0 A (.ptr 1 0 0) = some (.ptr 1 0 0) := by rw [hA]; rfl
  have c3 : evFieldAddr 3 A (.ptr 1 0 0) = some (.ptr 1 0 3) := by rw [hA]; rfl
  have c4 : evFieldAddr 4 A (.ptr 1 0 0) = some (.ptr 1 0 4) := by rw [hA]; rfl
  have d0 : evLoad false 1 A (.ptr 1 0 0) = some C := by rw [hA]; rfl
  have d3 : evLoad false 1 A (.ptr 1 0 3) = some (.int .i64 T.travel) := by rw [hA]; rfl
  have d4 : evLoad false 1 A (.ptr 1 0 4) = some (.int .i64 T.blades) := by rw [hA]; rfl
  have ixS : ∀ (A : Arena) (g : List AV) (r j : Nat), A[r]? = some (.row 1 false g) → j < T.ch.length + 2 → evIndexSl 1 A (.sl r 0 (T.ch.length + 2)) (.int .i64 (j : Int)) = some (.ptr r j 0) := fun A g r j hr hj => by
    simp [evIndexSl, hr]; omega
  have xF : evIndexSl 1 A (.sl 4 0 (T.ch.length + 2)) (.int .i64 (t : Int)) = some (.ptr 4 t 0) := ixS A _ 4 t (by rw [hA]; rfl) (by omega)
  have xS : evIndexSl 1 A (.sl 3 0 (T.ch.length + 2)) (.int .i64 (t : Int)) = some (.ptr 3 t 0) := ixS A _ 3 t (by rw [hA]; rfl) (by omega)
  have xF1 : evIndexSl 1 A1 (.sl 4 0 (T.ch.length + 2)) (.int .i64 (put : Int)) = some (.ptr 4 put 0) := ixS A1 _ 4 put (by rw [hA1]; rfl) (by omega)
  have xS2 : evIndexSl 1 A2 (.sl 3 0 (T.ch.length + 2)) (.int .i64 (put : Int)) = some (.ptr 3 put 0) := ixS A2 _ 3 put (by rw [hA2]; rfl) (by omega)
  have ldB : ∀ (A : Arena) (g : List Bool) (j : Nat), A[4]? = some (.row 1 false (g.map .bool)) → j < g.length → evLoad false 1 A (.ptr 4 j 0) = some (.bool (g.getD j false)) := fun A g j hr hj => by
    simp [evLoad, hr, hj]
  have lF : evLoad false 1 A (.ptr 4 t 0) = some (.bool (fl.getD t false)) := ldB A fl t (by rw [hA]; rfl) (by omega)
  have lF1 : evLoad false 1 A1 (.ptr 4 put 0) = some (.bool ((fl.set t false).getD put false)) := ldB A1 _ put (by rw [hA1]; rfl) (by simp; omega)
  have lS : evLoad false 1 A (.ptr 3 t 0) = some (.int .i64 (sn.getD t 0)) := by
    have : A[3]? = some (.row 1 false (intsA sn)) := by rw [hA]; rfl
    have hts : t < sn.length := by omega
    simp [evLoad, this, intsA, hts]
  have sF : evStore 1 A (.ptr 4 t 0) (.bool false) = some A1 := by
    have h4 : A[4]? = some (.row 1 false (fl.map .bool)) := by rw [hA]; rfl
    have htl : t < fl.length := by omega
    have e : A.set 4 (.row 1 false ((fl.map .bool).set t (.bool false))) = A1 := by rw [← List.map_set, hA, hA1]; rfl
    rw [← e]
    simp [evStore, h4, htl, storeElem]
  have sT : evStore 1 A1 (.ptr 4 put 0) (.bool true) = some A2 := by
    have h4 : A1[4]? = some (.row 1 false ((fl.set t false).map .bool)) := by rw [hA1]; rfl
    have htl : put < (fl.set t false).length := by simp; omega
    have e : A1.set 4 (.row 1 false (((fl.set t false).map .bool).set put (.bool true))) = A2 := by rw [← List.map_set, hA1, hA2]; rfl
    rw [← e]
    simp only [evStore, h4]
    rw [List.getElem?_map, List.getElem?_eq_getElem htl]
    rfl
  obtain ⟨A3, hA3⟩ : ∃ A, A = A6 x T C s (sn.set put (S6 s.starts t + k * s.period + workT T)) ((fl.set t false).set put true) := ⟨_, rfl⟩
  have sS : evStore 1 A2 (.ptr 3 put 0) (.int .i64 (S6 s.starts t + k * s.period + workT T)) = some A3 := by
    have h4 : A2[3]? = some (.row 1 false (intsA sn)) := by rw [hA2]; rfl
    have htl : put < sn.length := by omega
    have e : A2.set 3 (.row 1 false ((intsA sn).set put (.int .i64 (S6 s.starts t + k * s.period + workT T)))) = A3 := by
      unfold intsA
      rw [← List.map_set, hA2, hA3]; rfl
    rw [← e]
    simp [evStore, h4, htl, storeElem, intsA]
  rw [← hA, ← hA3]
  -- numbers
  have b1 : evBin .lss (.int .i64 (t : Int)) (.int .i64 0) = some (.bool false) := by rw [evLssI, decide_eq_false (by omega)]
  have b2 : evBin .gtr (.int .i64 (t : Int)) (.int .i64 (T.ch.length : Int)) = some (.bool false) := by rw [evGtrI, decide_eq_false (by omega)]
  have b3 : evBin .mul (.int .i64 (k : Int)) (.int .i64 s.period) = some (.int .i64 (k * s.period)) := evMulI (by omega)
  have b4 : evBin .add (.int .i64 (S6 s.starts t)) (.int .i64 (k * s.period)) = some (.int .i64 (startO s.order s.starts s.period k i)) := by
    rw [hst]; exact evAddI (by omega)
  have b5 := evNeqI (placeO T s.order k i) (t : Int)
  have b6 := evGtrI (k : Int) 0
  have b7 := evGtrI (i : Int) 0
  have htr := hv.2.1.2.2
  have b8 : evBin .add (.int .i64 (busyO T s.order s.starts s.period k i)) (.int .i64 (if decide (placeO T s.order k i ≠ (t : Int)) = true then T.travel else 0)) = some (.int .i64 (busyO T s.order s.starts s.period k i + (if decide (placeO T s.order k i ≠ (t : Int)) = true then T.travel else 0))) := evAddI (by split <;> omega)
  have b9 : (decide ((k : Int) > 0) || decide ((i : Int) > 0)) = true → evBin .lss (.int .i64 (startO s.order s.starts s.period k i)) (.int .i64 (busyO T s.order s.starts s.period k i + (if decide (placeO T s.order k i ≠ (t : Int)) = true then T.travel else 0))) = some (.bool false) := fun h => by
    simp only [Bool.or_eq_true, decide_eq_true_eq] at h
    have hr := robot hO hK (k := k) hi (by omega)
    rw [hot] at hr
    rw [evLssI, decide_eq_false]
    simp only [decide_eq_true_eq]
    omega
  have b10 : evBin .add (.int .i64 (startO s.order s.starts s.period k i)) (.int .i64 (workT T)) = some (.int .i64 (startO s.order s.starts s.period k i + workT T)) := evAddI (by omega)
  have b11 : evBin .add (.int .i64 (t : Int)) (.int .i64 1) = some (.int .i64 ((t : Int) + 1)) := evAddI (by omega)
  have b12 := evEqlI T.blades 2
  have b13 := evGtrI (t : Int) 0
  have hstay := fun (h1 : 1 ≤ t) hf => hC.stay hO hK hi ht h1 hf
  have hsnb : 0 ≤ sn.getD t 0 ∧ sn.getD t 0 ≤ 2000000000 := by
    have hts : t < sn.length := by omega
    rw [List.getD_eq_getElem?_getD, List.getElem?_eq_getElem hts]
    exact hC.bd _ (List.getElem_mem hts)
  have b14 : fl.getD t false = true → decide ((t : Int) > 0) = true → evBin .sub (.int .i64 (startO s.order s.starts s.period k i)) (.int .i64 (sn.getD t 0)) = some (.int .i64 (startO s.order s.starts s.period k i - sn.getD t 0)) := fun _ _ => evSubI (by omega)
  have b15 : evBin .sub (.int .i64 (t : Int)) (.int .i64 1) = some (.int .i64 ((t : Int) - 1)) := evSubI (by omega)
  have x3 : decide ((t : Int) > 0) = true → evIndexSl 2 A C (.int .i64 ((t : Int) - 1)) = some (.fp [.int .i64 (T.ch.getD (t - 1) (0, 0)).1, .int .i64 (T.ch.getD (t - 1) (0, 0)).2]) := fun h => by
    rw [decide_eq_true_eq] at h
    have h1 : t - 1 < T.ch.length := by omega
    have := hcv.index (A := A) (i := t - 1) (x := chA (T.ch.getD (t - 1) (0, 0))) (by
      rw [List.getElem?_map, List.getD_eq_getElem?_getD, List.getElem?_eq_getElem h1]; rfl) rfl (by omega) .i64
    rw [show ((t - 1 : Nat) : Int) = (t : Int) - 1 by omega] at this
    exact this
  have b16 : fl.getD t false = true → decide ((t : Int) > 0) = true → evBin .lss (.int .i64 (startO s.order s.starts s.period k i - sn.getD t 0)) (.int .i64 (T.ch.getD (t - 1) (0, 0)).1) = some (.bool false) := fun h1 h2 => by
    rw [decide_eq_true_eq] at h2
    have := hstay (by omega) h1
    rw [evLssI, decide_eq_false (by rw [hst]; omega)]
  have hchb : 0 ≤ (T.ch.getD (t - 1) (0, 0)).1 ∧ (T.ch.getD (t - 1) (0, 0)).1 ≤ 100000 ∧ 0 ≤ (T.ch.getD (t - 1) (0, 0)).2 ∧ (T.ch.getD (t - 1) (0, 0)).2 ≤ 100000 := by
    by_cases h1 : t - 1 < T.ch.length
    · rw [List.getD_eq_getElem?_getD, List.getElem?_eq_getElem h1]
      have := hv.1 _ (List.getElem_mem h1)
      unfold okCh at this
      simp only [Option.getD_some]
      omega
    · rw [List.getD_eq_getElem?_getD, List.getElem?_eq_none (by omega)]; simp
  have b17 : evBin .add (.int .i64 (T.ch.getD (t - 1) (0, 0)).1) (.int .i64 (T.ch.getD (t - 1) (0, 0)).2) = some (.int .i64 ((T.ch.getD (t - 1) (0, 0)).1 + (T.ch.getD (t - 1) (0, 0)).2)) := evAddI (by omega)
  have b18 : fl.getD t false = true → decide ((t : Int) > 0) = true → evBin .gtr (.int .i64 (startO s.order s.starts s.period k i - sn.getD t 0)) (.int .i64 ((T.ch.getD (t - 1) (0, 0)).1 + (T.ch.getD (t - 1) (0, 0)).2)) = some (.bool false) := fun h1 h2 => by
    rw [decide_eq_true_eq] at h2
    have := hstay (by omega) h1
    rw [evGtrI, decide_eq_false (by rw [hst]; omega)]
  have b19 := evLeqI (put : Int) (T.ch.length : Int)
  have b20 := evGtrI (put : Int) 0
  have hpv : (if decide (T.blades = 2) = true then (t : Int) else (t : Int) + 1) = (put : Int) := by
    rw [hput]; unfold putT
    simp only [decide_eq_true_eq]
  have hfr : ((fl.set t false).getD put false && decide ((put : Int) ≤ (T.ch.length : Int)) && decide ((put : Int) > 0)) = false := by
    by_cases hb : T.blades = 2
    · have : put = t := by unfold putT at hput; rw [if_pos hb] at hput; omega
      subst this
      rw [getD_set' _ _ _ _ _ (by omega), if_pos rfl]; rfl
    · have e : put = t + 1 := by unfold putT at hput; rw [if_neg hb] at hput; omega
      by_cases hle : t + 1 ≤ T.ch.length
      · rw [e, getD_set' _ _ _ _ _ (by omega), if_neg (by omega), hC.free hO hi ht hb hle]; rfl
      · rw [decide_eq_false (show ¬ (put : Int) ≤ T.ch.length by omega)]; simp
  have bh : evBin .leq (.int .i64 (i : Int)) (.int .i64 (T.ch.length : Int)) = some (.bool true) := by rw [evLeqI, decide_eq_true (by omega)]
  have bi := add1_nat i (by omega)
  rw [lp6_eq]
  have hd : run (envOf GC fs6) 300 [.code (.seq (.region [⟨none, .mv (.var 16), none⟩, ⟨none, .mv (.var 9), none⟩, ⟨some 25, .bin .leq (.tmp 0) (.tmp 1), none⟩]) (.cond (.var 25) .skip (.exit 2)))] (st6x0 v2 (.bool true) (.ptr 1 0 0) (.ptr 2 0 0) (.int .i64 (T.ch.length : Int)) (.int .i64 (workT T)) (.int .i64 (busyO T s.order s.starts s.period k i)) (.int .i64 (placeO T s.order k i)) (.sl 3 0 (T.ch.length + 2)) (.sl 4 0 (T.ch.length + 2)) (.int .i64 (k : Int)) (.int .i64 (i : Int))) A =
      some (.normal (s6 v2 (.bool true) (.ptr 1 0 0) (.ptr 2 0 0) (.int .i64 (T.ch.length : Int)) (.int .i64 (workT T)) (.int .i64 (busyO T s.order s.starts s.period k i)) (.int .i64 (placeO T s.order k i)) (.sl 3 0 (T.ch.length + 2)) (.sl 4 0 (T.ch.length + 2)) (.int .i64 (k : Int)) (.int .i64 (i : Int)) .undef .undef .undef .undef .undef (.bool true) .undef .undef .undef .undef .undef .undef .undef) A) := by
    obtain ⟨q1, _⟩ : ∃ q, q = (T.ch.length : Int) := ⟨_, rfl⟩
    simp [bh, -evBin]
  rw [run_seq, run_of hd, after_normal, run_seq, run_seq, run_block]
  rw [run_seq, seg6_0 f1 l1 x1, run_seq, seg6_1 b1 b2, run_seq, seg6_2 f2 l2 x2 f0 l0 b3 b4, run_seq, seg6_3, run_seq, seg6_4 b5 c3 d3, run_seq, seg6_5 b6 b7 b8 b9, run_seq, seg6_6 b10, run_seq, seg6_7 b11, run_seq, seg6_8 c4 d4 b12 b11, run_seq]
  obtain ⟨v21, v30, v31, h9⟩ := seg6_9 (K := [.code (.seq q6_10 (.seq q6_11 (.seq q6_12 q6_13))), .blk 3, .code (.kill [0, 1, 3, 4, 8, 17, 18, 19, 20, 21, 22, 23, 24, 25, 26, 27, 28, 29, 30, 31, 32]), .code (.region [⟨none, .mv (.var 16), none⟩, ⟨none, .bin .add (.tmp 0) (.cst (.int .i64 1)), none⟩, ⟨some 16, .mv (.tmp 1), none⟩])])
    (v2 := v2) (v5 := .bool true) (v7 := .ptr 2 0 0) (v9 := .int .i64 (T.ch.length : Int)) (v10 := .int .i64 (workT T)) (v11 := .int .i64 (startO s.order s.starts s.period k i + workT T)) (v12 := .int .i64 (if decide (T.blades = 2) = true then -1 else (t : Int) + 1)) (v15 := .int .i64 (k : Int)) (v16 := .int .i64 (i : Int))
    (v19 := .int .i64 (if decide (placeO T s.order k i ≠ (t : Int)) = true then T.travel else 0)) (v20 := .int .i64 (if decide (T.blades = 2) = true then (t : Int) else (t : Int) + 1)) (v21 := .undef) (v25 := .bool true) (v26 := .bool false) (v27 := .bool (decide (placeO T s.order k i ≠ (t : Int)))) (v28 := .bool false) (v29 := .bool (decide (T.blades = 2))) (v30 := .undef) (v31 := .undef) (v32 := .undef) xF lF b13 xS lS b14 c0 d0 b15 x3 b16 b17 b18
  rw [h9, run_seq, seg6_10 xF sF, run_seq]
  rw [hpv]
  rw [seg6_11 xF1 lF1 b19 b20 hfr, run_seq, seg6_12 xF1 sT, seg6_13 xS2 (by rw [hst]; exact sS)]
  have hpl : (if decide (T.blades = 2) = true then (-1 : Int) else (t : Int) + 1) = (if T.blades = 2 then -1 else (t : Int) + 1) := by simp only [decide_eq_true_eq]
  rw [hpl]
  obtain ⟨i1, hi1⟩ : ∃ n, n = i + 1 := ⟨_, rfl⟩
  rw [← hi1] at bi ⊢
  simp [bi, -evBin]
/-- a cycle -/
theorem loop6 {x : X5} {T : Tool} {C : AV} {s : Sched} (hO : s.order ∈ ordersM T) (hK : Keeps (lar s.period (arcsL T s.order)) s.starts) (hP : 1 ≤ s.period ∧ s.period ≤ 1000000) (hsl : s.starts.length = T.ch.length + 1) (hsb : ∀ x ∈ s.starts, 0 ≤ x ∧ x ≤ 1000000000)
    (hcv : SlA 2 (T.ch.map chA) C) {k : Nat} (hk : k ≤ 10) (v2 : AV) : ∀ (c i : Nat) (sn : List Int) (fl : List Bool) (m : Nat), i + c = T.ch.length + 1 → C6 T s.order s.starts s.period k i sn fl → c < m →
    ∃ sn' fl', iter (evC (envOf GC fs6) 300 lp6x0) mask6x0 m (st6x0 v2 (.bool true) (.ptr 1 0 0) (.ptr 2 0 0) (.int .i64 (T.ch.length : Int)) (.int .i64 (workT T)) (.int .i64 (busyO T s.order s.starts s.period k i)) (.int .i64 (placeO T s.order k i)) (.sl 3 0 (T.ch.length + 2)) (.sl 4 0 (T.ch.length + 2)) (.int .i64 (k : Int)) (.int .i64 (i : Int))) (A6 x T C s sn fl) =
      some (.exit 2 ((st6x0 v2 (.bool true) (.ptr 1 0 0) (.ptr 2 0 0) (.int .i64 (T.ch.length : Int)) (.int .i64 (workT T)) (.int .i64 (busyO T s.order s.starts s.period k (T.ch.length + 1))) (.int .i64 (placeO T s.order k (T.ch.length + 1))) (.sl 3 0 (T.ch.length + 2)) (.sl 4 0 (T.ch.length + 2)) (.int .i64 (k : Int)) (.int .i64 ((T.ch.length + 1 : Nat) : Int))).set 25 (.bool false)) (A6 x T C s sn' fl')) ∧ C6 T s.order s.starts s.period k (T.ch.length + 1) sn' fl' := by
  obtain ⟨hv, hol, _, hnd⟩ := orders_mem hO
  have hn4 := hv.2.2.2.1
  intro c
  induction c with
  | zero =>
    intro i sn fl m hi hC hm
    obtain ⟨m, rfl⟩ : ∃ j, m = j + 1 := ⟨m - 1, by omega⟩
    obtain rfl : i = T.ch.length + 1 := by omega
    refine ⟨sn, fl, ?_, hC⟩
    have bh : evBin .leq (.int .i64 ((T.ch.length + 1 : Nat) : Int)) (.int .i64 (T.ch.length : Int)) = some (.bool false) := by rw [evLeqI, decide_eq_false (by omega)]
    obtain ⟨n1, hn1⟩ : ∃ n, n = T.ch.length + 1 := ⟨_, rfl⟩
    rw [← hn1] at bh ⊢
    rw [iter_succ, cl6x0]
    simp [lp6x0, bh, -evBin]
  | succ c ih =>
    intro i sn fl m hi hC hm
    obtain ⟨m, rfl⟩ : ∃ j, m = j + 1 := ⟨m - 1, by omega⟩
    obtain ⟨sn1, fl1, h1, h2⟩ := round6 (x := x) hO hK hP hsl hsb hcv hk (i := i) (by omega) hC v2
    obtain ⟨sn2, fl2, h3, h4⟩ := ih (i + 1) sn1 fl1 m (by omega) h2 (by omega)
    refine ⟨sn2, fl2, ?_, h4⟩
    rw [iter_succ, cl6x0, h1]
    exact h3
theorem busy_wrap {T : Tool} {o st : List Int} {P : Int} (k : Nat) : busyO T o st P k (T.ch.length + 1) = busyO T o st P (k + 1) 0 := by
  unfold busyO
  rw [if_pos (by omega), if_neg (by omega), if_pos (by omega), Nat.add_sub_cancel, Nat.add_sub_cancel]
theorem place_wrap {T : Tool} {o : List Int} (k : Nat) : placeO T o k (T.ch.length + 1) = placeO T o (k + 1) 0 := by
  unfold placeO
  by_cases hb : T.blades = 2 <;> simp [hb]
set_option maxRecDepth 100000 in
set_option maxHeartbeats 4000000 in
theorem round6b {x : X5} {T : Tool} {C : AV} {s : Sched} (hO : s.order ∈ ordersM T) (hK : Keeps (lar s.period (arcsL T s.order)) s.starts) (hP : 1 ≤ s.period ∧ s.period ≤ 1000000) (hsl : s.starts.length = T.ch.length + 1) (hsb : ∀ x ∈ s.starts, 0 ≤ x ∧ x ≤ 1000000000)
    (hcv : SlA 2 (T.ch.map chA) C) {cy : Int} (hcy : inI cy) {k : Nat} (hk : (k : Int) < 2 + pick cy 4) {sn : List Int} {fl : List Bool} (hC : C6 T s.order s.starts s.period k 0 sn fl) :
    ∃ sn' fl', run (envOf GC fs6) 300 [.code lp6x1] (st6x1 (.int .i64 cy) (.bool true) (.ptr 1 0 0) (.ptr 2 0 0) (.int .i64 (T.ch.length : Int)) (.int .i64 (workT T)) (.int .i64 (busyO T s.order s.starts s.period k 0)) (.int .i64 (placeO T s.order k 0)) (.sl 3 0 (T.ch.length + 2)) (.sl 4 0 (T.ch.length + 2)) (.int .i64 (k : Int))) (A6 x T C s sn fl) =
      some (.normal (st6x1 (.int .i64 cy) (.bool true) (.ptr 1 0 0) (.ptr 2 0 0) (.int .i64 (T.ch.length : Int)) (.int .i64 (workT T)) (.int .i64 (busyO T s.order s.starts s.period (k + 1) 0)) (.int .i64 (placeO T s.order (k + 1) 0)) (.sl 3 0 (T.ch.length + 2)) (.sl 4 0 (T.ch.length + 2)) (.int .i64 ((k + 1 : Nat) : Int))) (A6 x T C s sn' fl')) ∧ C6 T s.order s.starts s.period (k + 1) 0 sn' fl' := by
  have hp := pick_range cy 4 (by omega)
  have hn4 := (orders_mem hO).1.2.2.2.1
  obtain ⟨sn1, fl1, lp, hC1⟩ := loop6 (x := x) hO hK hP hsl hsb hcv (k := k) (by omega) (.int .i64 cy) (T.ch.length + 1) 0 sn fl 300 (by omega) hC (by omega)
  rw [busy_wrap, place_wrap, show ((0 : Nat) : Int) = 0 from rfl] at lp
  refine ⟨sn1, fl1, ?_, hC1.wrap hO⟩
  have m := M12_eq hcy (n := 4) (by omega)
  have b1 : evBin .add (.int .i64 2) (.int .i64 (pick cy 4)) = some (.int .i64 (2 + pick cy 4)) := evAddI (by omega)
  have b2 := evLssI (k : Int) (2 + pick cy 4)
  rw [decide_eq_true hk] at b2
  have b3 := add1_nat k (by omega)
  obtain ⟨k1, hk1⟩ : ∃ n, n = k + 1 := ⟨_, rfl⟩
  rw [← hk1] at b3 lp ⊢
  obtain ⟨q, hq⟩ : ∃ n, n = pick cy 4 := ⟨_, rfl⟩
  rw [← hq] at m b1 b2
  obtain ⟨q2, hq2⟩ : ∃ n, n = 2 + q := ⟨_, rfl⟩
  rw [← hq2] at b1 b2
  obtain ⟨n1, hn1⟩ : ∃ n, n = T.ch.length + 1 := ⟨_, rfl⟩
  rw [← hn1] at lp
  simp [lp6x1, m, b1, b2, b3, go6x0 lp, frz_i, -evBin, -frz]
end Go.Proofs.Ytemklhljjaniaaa
/-
  Cluster: the law Carried, run.
-/
namespace Go.Proofs.Ytemklhljjaniaaa
open Go
open Cy (GC CArc arcA arcsOf isPer ValidA okA smM smT lvM lvT VerOk RefOk Ready Pos lar Keeps frz_i frz_b intsA_len M12_eq)

theorem C6.init {T : Tool} {o st : List Int} {P : Int} (hO : o ∈ ordersM T) : C6 T o st P 0 0 (List.replicate (T.ch.length + 2) 0) (List.replicate (T.ch.length + 2) false) := by
  have hc : ∀ t : Nat, t ≤ T.ch.length → cnt o 0 0 (t : Int) = 0 := fun t ht => by
    obtain ⟨i, hi, _, hp⟩ := pos_in hO ht
    unfold cnt
    rw [hp, if_neg (by omega)]; rfl
  refine ⟨by simp, by simp, fun j h1 h2 => ?_, fun j h1 h2 h3 => ?_, fun x hx => ?_⟩
  · rw [decide_eq_false]
    · rw [List.getD_eq_getElem?_getD]
      simp [show j < T.ch.length + 2 by omega]
    · rintro ⟨_, h⟩
      have : cnt o 0 0 (pj T j) = 0 := by
        unfold pj
        split
        · exact hc j h2
        · rw [show (j : Int) - 1 = ((j - 1 : Nat) : Int) by omega]
          exact hc (j - 1) (by omega)
      omega
  · rw [List.getD_eq_getElem?_getD] at h3
    simp [show j < T.ch.length + 2 by omega] at h3
  · have := List.eq_of_mem_replicate hx; omega
theorem loop6b {x : X5} {T : Tool} {C : AV} {s : Sched} (hO : s.order ∈ ordersM T) (hK : Keeps (lar s.period (arcsL T s.order)) s.starts) (hP : 1 ≤ s.period ∧ s.period ≤ 1000000) (hsl : s.starts.length = T.ch.length + 1) (hsb : ∀ x ∈ s.starts, 0 ≤ x ∧ x ≤ 1000000000)
    (hcv : SlA 2 (T.ch.map chA) C) {cy : Int} (hcy : inI cy) : ∀ (c k : Nat) (sn : List Int) (fl : List Bool) (m : Nat), (k : Int) + c = 2 + pick cy 4 → C6 T s.order s.starts s.period k 0 sn fl → c < m →
    ∃ (d11 d12 : AV) (k' : Int) (B : Arena), iter (evC (envOf GC fs6) 300 lp6x1) mask6x1 m (st6x1 (.int .i64 cy) (.bool true) (.ptr 1 0 0) (.ptr 2 0 0) (.int .i64 (T.ch.length : Int)) (.int .i64 (workT T)) (.int .i64 (busyO T s.order s.starts s.period k 0)) (.int .i64 (placeO T s.order k 0)) (.sl 3 0 (T.ch.length + 2)) (.sl 4 0 (T.ch.length + 2)) (.int .i64 (k : Int))) (A6 x T C s sn fl) =
      some (.exit 0 ((st6x1 (.int .i64 cy) (.bool true) (.ptr 1 0 0) (.ptr 2 0 0) (.int .i64 (T.ch.length : Int)) (.int .i64 (workT T)) d11 d12 (.sl 3 0 (T.ch.length + 2)) (.sl 4 0 (T.ch.length + 2)) (.int .i64 k')).set 24 (.bool false)) B) := by
  have hp := pick_range cy 4 (by omega)
  intro c
  induction c with
  | zero =>
    intro k sn fl m hk hC hm
    obtain ⟨m, rfl⟩ : ∃ j, m = j + 1 := ⟨m - 1, by omega⟩
    refine ⟨.int .i64 (busyO T s.order s.starts s.period k 0), .int .i64 (placeO T s.order k 0), k, A6 x T C s sn fl, ?_⟩
    have m1 := M12_eq hcy (n := 4) (by omega)
    have b1 : evBin .add (.int .i64 2) (.int .i64 (pick cy 4)) = some (.int .i64 (2 + pick cy 4)) := evAddI (by omega)
    have b2 := evLssI (k : Int) (2 + pick cy 4)
    rw [decide_eq_false (by omega)] at b2
    obtain ⟨q, hq⟩ : ∃ n, n = pick cy 4 := ⟨_, rfl⟩
    rw [← hq] at m1 b1 b2
    obtain ⟨q2, hq2⟩ : ∃ n, n = 2 + q := ⟨_, rfl⟩
    rw [← hq2] at b1 b2
    rw [iter_succ, cl6x1]
    simp [lp6x1, m1, b1, b2, frz_i, -evBin, -frz]
  | succ c ih =>
    intro k sn fl m hk hC hm
    obtain ⟨m, rfl⟩ : ∃ j, m = j + 1 := ⟨m - 1, by omega⟩
    obtain ⟨sn1, fl1, h1, h2⟩ := round6b (x := x) hO hK hP hsl hsb hcv hcy (k := k) (by omega) hC
    obtain ⟨d11, d12, k', B, h3⟩ := ih (k + 1) sn1 fl1 m (by omega) h2 (by omega)
    refine ⟨d11, d12, k', B, ?_⟩
    rw [iter_succ, cl6x1, h1]
    exact h3
set_option maxRecDepth 100000 in
set_option maxHeartbeats 4000000 in
theorem ev6 {x : X5} (hx : x.inR) {ys : List (Int × Int)} (hys : ∀ y ∈ ys, inI y.1 ∧ inI y.2) {yv : AV} (hy : SlA 2 (ys.map chA) yv) {cy : Int} (hcy : inI cy) : evP (envOf GC fs6) 300 mf6 1 [x5A x, yv, .int .i64 cy] = some (.bool true) := by
  have m13 := M13_eq hx hys hy
  have hcv := mk_ch x ys
  have hn4 := mk_len x ys
  have m22 := M22_eq hcv (by omega)
  have fx : ∀ A, frz A 4 (x5A x) = x5A x := fun A => by simp [x5A, frz]
  have fy : ∀ A, frz A 4 yv = yv := fun A => hy.frz 4
  have fm := fun A => mk_frz x ys A
  have nm := mk_noRef x ys
  have hval := make_valid x ys
  have m29 := M29_eq (slA 2 ((makeT x ys).ch.map chA)) hval
  obtain ⟨T, hT⟩ : ∃ T, T = makeT x ys := ⟨_, rfl⟩
  obtain ⟨C, hC⟩ : ∃ C, C = slA 2 ((makeT x ys).ch.map chA) := ⟨_, rfl⟩
  have hmk : mkA x ys = toolA T C := by rw [hC, hT]; rfl
  rw [← hC, ← hT] at hcv m22 m29
  rw [← hT] at hval hn4
  rw [hmk] at m13 fm nm
  have hlen := hcv.len
  rw [List.length_map] at hlen
  have ex : ∀ X, evLoad true 5 (.row 5 false [x5A x] :: X) (.ptr 0 0 0) = some (x5A x) := fun X => rfl
  have et : ∀ a X, evLoad true 5 (a :: .row 5 false [toolA T C] :: X) (.ptr 1 0 0) = some (toolA T C) := fun a X => rfl
  have fC : ∀ a X, evFieldAddr 0 (a :: .row 5 false [toolA T C] :: X) (.ptr 1 0 0) = some (.ptr 1 0 0) := fun a X => rfl
  have lC : ∀ a X, evLoad false 1 (a :: .row 5 false [toolA T C] :: X) (.ptr 1 0 0) = some C := fun a X => rfl
  have bx0 : evBox 5 (x5A x) [] = some (.ptr 0 0 0, [.row 5 false [x5A x]]) := rfl
  have cx : (cellsOf (x5A x)).length = 5 := rfl
  have bx1 : ∀ r, evBox 5 (.agg [.nilS, .int .i64 0, .int .i64 0, .int .i64 0, .int .i64 0]) [r] = some (.ptr 1 0 0, [r, .row 5 false [.agg [.nilS, .int .i64 0, .int .i64 0, .int .i64 0, .int .i64 0]]]) := fun r => rfl
  have st1 : ∀ r z, evStore 5 [r, .row 5 false [z]] (.ptr 1 0 0) (toolA T C) = some [r, .row 5 false [toolA T C]] := fun r z => by
    simp [evStore, storeElem, toolA]
  have bx2 : ∀ r q, evBox 4 (.agg [.int .i64 0, .nilS, .nilS, .nilS]) [r, q] = some (.ptr 2 0 0, [r, q, .row 4 false [zA]]) := fun r q => rfl
  have st2 : ∀ r q (s : Sched), evStore 4 [r, q, .row 4 false [zA]] (.ptr 2 0 0) (schA s) = some [r, q, .row 4 false [schA s]] := fun r q s => by
    simp [evStore, storeElem, schA]
  have fS : ∀ r q (s : Sched) j, j < 4 → evFieldAddr j [r, q, .row 4 false [schA s]] (.ptr 2 0 0) = some (.ptr 2 0 j) := fun r q s j hj => by simp [evFieldAddr, hj]
  have lS1 : ∀ r q (s : Sched), evLoad false 1 [r, q, .row 4 false [schA s]] (.ptr 2 0 1) = some (slA 1 (intsA s.order)) := fun r q s => rfl
  have lS2 : ∀ r q (s : Sched), evLoad false 1 [r, q, .row 4 false [schA s]] (.ptr 2 0 2) = some (slA 1 (intsA s.starts)) := fun r q s => rfl
  obtain ⟨X, hX⟩ : ∃ X, X = x5A x := ⟨_, rfl⟩
  obtain ⟨t, ht⟩ : ∃ t, t = toolA T C := ⟨_, rfl⟩
  cases hb : bestM T with
  | none =>
    rw [hb] at m22
    have m22 : M22 [toolA T C] = some (.tup [schA zeroS, .int .i64 130]) := m22
    have b1 := evNeqI 130 0
    rw [decide_eq_true (by omega)] at b1
    have st2 := fun r q => st2 r q zeroS
    obtain ⟨S, hS⟩ : ∃ S, S = schA zeroS := ⟨_, rfl⟩
    rw [← hS] at m22
    simp only [← hS] at st2
    rw [← hX] at m13 fx bx0 cx ⊢
    simp only [← hX] at ex
    rw [← ht] at m13 m22 nm
    simp only [← ht] at et st1 fm
    rw [evP_run _ _ rfl]
    simp [mf6, bx0, cx, ex, fx, fy, m13, bx1, st1, et, fm, nm, m22, bx2, st2, b1, frz_b, -evBin, -evLoad, -evStore, -evFieldAddr, -evBox, -evLenSl, -frz, -cellsOf]
  | some s =>
    rw [hb] at m22
    have hc := best_chk hb
    obtain ⟨hO, hP, hV, _⟩ := hc
    have hol := (orders_mem hO).2.1
    have hsl : s.starts.length = T.ch.length + 1 := by have := hV.2.1; omega
    have m22 : M22 [toolA T C] = some (.tup [schA s, .int .i64 0]) := m22
    have hp := pick_range cy 4 (by omega)
    obtain ⟨d11, d12, k', B, lp⟩ := loop6b (x := x) hO hV.2.2.2 hP hsl hV.2.2.1 hcv hcy (2 + pick cy 4).toNat 0 _ _ 300 (by omega) (C6.init hO) (by omega)
    have eb : busyO T s.order s.starts s.period 0 0 = 0 := rfl
    have ep : placeO T s.order 0 0 = 0 := rfl
    rw [eb, ep, show ((0 : Nat) : Int) = 0 from rfl] at lp
    have hlo := (slA_holds 1 (intsA s.order)).len
    rw [intsA_len, hol] at hlo
    have hls := (slA_holds 1 (intsA s.starts)).len
    rw [intsA_len, hsl] at hls
    have b1 := evNeqI 0 0
    rw [decide_eq_false (by omega)] at b1
    have b2 := add1_nat T.ch.length (by omega)
    have b3 := evNeqI ((T.ch.length + 1 : Nat) : Int) ((T.ch.length + 1 : Nat) : Int)
    rw [decide_eq_false (by omega)] at b3
    have b4 : evBin .add (.int .i64 (T.ch.length : Int)) (.int .i64 2) = some (.int .i64 ((T.ch.length + 2 : Nat) : Int)) := by
      have := evAddI (a := (T.ch.length : Int)) (b := 2) (by omega)
      rw [this]; rfl
    have mk1 : ∀ r q u, evMake 1 8 (.int .i64 0) [r, q, u] (.int .i64 ((T.ch.length + 2 : Nat) : Int)) (.int .i64 ((T.ch.length + 2 : Nat) : Int)) = some (.sl 3 0 (T.ch.length + 2), [r, q, u, .row 1 false (intsA (List.replicate (T.ch.length + 2) 0))]) := fun r q u => by
      simp only [evMake]
      rw [if_pos ⟨by omega, by omega, by omega, by omega, rfl, rfl, by omega⟩, Int.toNat_natCast]
      simp [intsA]
    have mk2 : ∀ r q u v, evMake 1 1 (.bool false) [r, q, u, v] (.int .i64 ((T.ch.length + 2 : Nat) : Int)) (.int .i64 ((T.ch.length + 2 : Nat) : Int)) = some (.sl 4 0 (T.ch.length + 2), [r, q, u, v, .row 1 false ((List.replicate (T.ch.length + 2) false).map .bool)]) := fun r q u v => by
      simp only [evMake]
      rw [if_pos ⟨by omega, by omega, by omega, by omega, rfl, rfl, by omega⟩, Int.toNat_natCast]
      simp
    have st2 := fun r q => st2 r q s
    have fS := fun r q => fS r q s
    have lS1 := fun r q => lS1 r q s
    have lS2 := fun r q => lS2 r q s
    unfold A6 at lp
    rw [← hX] at m13 fx bx0 cx lp ⊢
    simp only [← hX] at ex
    rw [← ht] at m13 m22 nm m29 lp
    simp only [← ht] at et st1 fm fC lC
    obtain ⟨S, hS⟩ : ∃ S, S = schA s := ⟨_, rfl⟩
    rw [← hS] at m22 lp
    simp only [← hS] at st2 fS lS1 lS2
    obtain ⟨O, hOO⟩ : ∃ S, S = slA 1 (intsA s.order) := ⟨_, rfl⟩
    rw [← hOO] at hlo
    simp only [← hOO] at lS1
    obtain ⟨Q, hQQ⟩ : ∃ S, S = slA 1 (intsA s.starts) := ⟨_, rfl⟩
    rw [← hQQ] at hls
    simp only [← hQQ] at lS2
    obtain ⟨n1, hn1⟩ : ∃ n, n = T.ch.length + 1 := ⟨_, rfl⟩
    rw [← hn1] at hlo hls b2 b3
    obtain ⟨n2, hn2⟩ : ∃ n, n = T.ch.length + 2 := ⟨_, rfl⟩
    rw [← hn2] at lp b4
    simp only [← hn2] at mk1 mk2
    rw [evP_run _ _ rfl]
    simp [mf6, bx0, cx, ex, fx, fy, m13, bx1, st1, et, fm, nm, m22, bx2, st2, fC, lC, hlen, fS, lS1, lS2, hlo, hls, m29, mk1, mk2, go6x1 lp, b1, b2, b3, b4, frz_b, -evBin, -evLoad, -evStore, -evFieldAddr, -evBox, -evLenSl, -frz, -cellsOf, -evMake, -List.map_replicate]
theorem ev6L (args : List AV) (h : LawArgs Try.prog 8 Try.f6.params.toList args) : ∃ fuel, evP (envOf GC fs6) fuel mf6 1 args = some (.bool true) := by
  rw [Try.params6] at h
  obtain ⟨a, r, rfl, h0, h⟩ := h.cons
  obtain ⟨b, r, rfl, h1, h⟩ := h.cons
  obtain ⟨c, r, rfl, h2, h⟩ := h.cons
  obtain rfl := h.nil
  obtain ⟨x, rfl, hx⟩ := x5_arg (n := 6) h0
  obtain ⟨ys, hy, hys, _⟩ := twos_arg (n := 5) h1
  obtain ⟨n, rfl, hn⟩ := TA.i64 Try.underlying3 h2
  exact ⟨300, ev6 hx hys hy hn⟩
end Go.Proofs.Ytemklhljjaniaaa
