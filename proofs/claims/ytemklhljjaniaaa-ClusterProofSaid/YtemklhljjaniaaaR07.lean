/-
  What the proof is built on (K26 to K26).
-/
import Derived.Test.YtemklhljjaniaaaR06
/-
  Cluster: the law Proof, run.
-/
namespace Go.Proofs.Ytemklhljjaniaaa
open Go
open Cy (GC CArc arcA arcsOf isPer ValidA okA smM smT lvM lvT VerOk RefOk Ready Pos lar Keeps frz_i frz_b intsA_len M12_eq lv_ok lv_starts lv_cycle ver_pos ref_pos)

noncomputable def fs7 : List (FuncId × HModel) := [(11, pureH 4 M11), (13, pureFH 4 M13), (14, pureFH 4 M14), (19, pureFH 4 M19), (26, pureH 4 M26), (28, pureH 4 Cy.M23), (30, pureH 4 Cy.M12), (31, Cy.H14), (32, pureH 4 Cy.M19), (25, pureFH 4 M25)]
@[simp] theorem fs7_11 : lookM fs7 11 = some (pureH 4 M11) := rfl
@[simp] theorem fs7_13 : lookM fs7 13 = some (pureFH 4 M13) := rfl
@[simp] theorem fs7_14 : lookM fs7 14 = some (pureFH 4 M14) := rfl
@[simp] theorem fs7_19 : lookM fs7 19 = some (pureFH 4 M19) := rfl
@[simp] theorem fs7_26 : lookM fs7 26 = some (pureH 4 M26) := rfl
@[simp] theorem fs7_28 : lookM fs7 28 = some (pureH 4 Cy.M23) := rfl
@[simp] theorem fs7_30 : lookM fs7 30 = some (pureH 4 Cy.M12) := rfl
@[simp] theorem fs7_31 : lookM fs7 31 = some Cy.H14 := rfl
@[simp] theorem fs7_32 : lookM fs7 32 = some (pureH 4 Cy.M19) := rfl
@[simp] theorem fs7_25 : lookM fs7 25 = some (pureFH 4 M25) := rfl
set_option maxRecDepth 100000 in
theorem sound7 : ∀ f M, lookM fs7 f = some M → FnSpecY Try.prog GC f M := lookM_cons (FnSpecY.of_pure spec11 4) (lookM_cons (FnSpecY.of_pureF spec13 4) (lookM_cons (FnSpecY.of_pureF spec14 4) (lookM_cons (FnSpecY.of_pureF spec19 4) (lookM_cons (FnSpecY.of_pure spec26 4) (lookM_cons (FnSpecY.of_pure Cy.spec23 4) (lookM_cons (FnSpecY.of_pure Cy.spec12 4) (lookM_cons Cy.spec14 (lookM_cons (FnSpecY.of_pure Cy.spec19 4) (lookM_cons (FnSpecY.of_pureF spec25 4) lookM_nil)))))))))

/-- no smaller period is possible -/
theorem chk_less {T : Tool} {t : Sched} (h : Chk T t) {m : Int} (h1 : 1 ≤ m) (h2 : m ≤ t.period - 1) : Pos (arcsL T t.order) m := by
  obtain ⟨hO, hP, hV, hR⟩ := h
  have hne : t.period ≠ 1 := by omega
  rw [if_neg hne] at hR
  have h3 := ver_pos hV
  have h4 := ref_pos hR
  exact Classical.byContradiction fun hn => Cy.convex (p := m) (q := t.period - 1) (r := t.period) h2 (by omega) hn h3 h4

def x5l (y : X5) : List Int := [y.a, y.b, y.c, y.d, y.e]
def yL (y : X5) (i : Nat) : List Int := (List.range i).map fun j => pick ((x5l y).getD j 0) 200
theorem yL_succ (y : X5) (i : Nat) : yL y (i + 1) = yL y i ++ [pick ((x5l y).getD i 0) 200] := by
  unfold yL; rw [List.range_succ, List.map_append]; rfl
theorem x5l_in {y : X5} (h : y.inR) {i : Nat} (hi : i < 5) : inI ((x5l y).getD i 0) := by
  obtain ⟨h1, h2, h3, h4, h5⟩ := h
  have : i = 0 ∨ i = 1 ∨ i = 2 ∨ i = 3 ∨ i = 4 := by omega
  rcases this with rfl | rfl | rfl | rfl | rfl
  · exact h1
  · exact h2
  · exact h3
  · exact h4
  · exact h5
set_option maxRecDepth 100000 in
set_option maxHeartbeats 4000000 in
theorem round7 {A0 : Arena} {y : X5} (hy : y.inR) {t : Sched} (hA2 : A0[2]? = some (.row 5 false [x5A y])) (hA5 : A0[5]? = some (.row 4 false [schF t])) {i : Nat} (hi : i < t.order.length) (hi5 : i < 5) (v8 v10 v15 v21 : AV) (h8 : v8 = .ptr 2 0 0) :
    run (envOf GC fs7) 300 [.code lp7x0] (st7x0 v8 v10 v15 (.ptr 5 0 0) v21 (oA A0 (intsA (yL y i))) (.int .i64 (i : Int))) (aA A0 1 (intsA (yL y i))) =
      some (.normal (st7x0 v8 v10 v15 (.ptr 5 0 0) v21 (oA A0 (intsA (yL y (i + 1)))) (.int .i64 ((i + 1 : Nat) : Int))) (aA A0 1 (intsA (yL y (i + 1))))) := by
  subst h8
  have l5 := (List.getElem?_eq_some_iff.1 hA5).1
  have k2 : (aA A0 1 (intsA (yL y i)))[2]? = some (.row 5 false [x5A y]) := (aA_old _ 2 (by omega)).trans hA2
  have k5 : (aA A0 1 (intsA (yL y i)))[5]? = some (.row 4 false [schF t]) := (aA_old _ 5 (by omega)).trans hA5
  have ap : evAppend 1 8 (aA A0 1 (intsA (yL y i))) (oA A0 (intsA (yL y i))) (.fs 1 [.int .i64 (pick ((x5l y).getD i 0) 200)]) = some (oA A0 (intsA (yL y (i + 1))), aA A0 1 (intsA (yL y (i + 1)))) := by
    have := append1 (A := A0) (esz := 1) (bytes := 8) (es := intsA (yL y i)) (.int .i64 (pick ((x5l y).getD i 0) 200)) (by omega) (by omega) (by rw [intsA_len]; simp [yL]; omega)
    rw [yL_succ]
    have e : intsA (yL y i ++ [pick ((x5l y).getD i 0) 200]) = intsA (yL y i) ++ [.int .i64 (pick ((x5l y).getD i 0) 200)] := by simp [intsA]
    rw [e]; exact this
  obtain ⟨A, hA⟩ : ∃ A, A = aA A0 1 (intsA (yL y i)) := ⟨_, rfl⟩
  obtain ⟨B, hB⟩ : ∃ A, A = aA A0 1 (intsA (yL y (i + 1))) := ⟨_, rfl⟩
  rw [← hA] at k2 k5 ap ⊢
  rw [← hB] at ap ⊢
  have f5 : evFieldAddr 1 A (.ptr 5 0 0) = some (.ptr 5 0 1) := by simp [evFieldAddr, k5]
  have l5 : evLoad false 1 A (.ptr 5 0 1) = some (.fs 1 (intsA t.order)) := by simp [evLoad, k5, schF, loadElem_part]
  have ll : evLenSl (.fs 1 (intsA t.order)) = some (.int .i64 (t.order.length : Int)) := by simp [evLenSl, intsA]
  have ix : evIndexArr 5 1 A (.ptr 2 0 0) (.int .i64 (i : Int)) = some (.ptr 2 0 i) := by simp [evIndexArr, k2]; omega
  have la : evLoad false 1 A (.ptr 2 0 i) = some (.int .i64 ((x5l y).getD i 0)) := by
    simp only [evLoad, k2]
    have : i = 0 ∨ i = 1 ∨ i = 2 ∨ i = 3 ∨ i = 4 := by omega
    rcases this with rfl | rfl | rfl | rfl | rfl <;> rfl
  have m := M12_eq (x5l_in hy hi5) (n := 200) (by omega)
  have b0 := lt_nat i t.order.length .i64
  rw [decide_eq_true hi] at b0
  have b1 : evBin .lss (.int .i64 (i : Int)) (.int .i64 5) = some (.bool true) := by rw [evLssI, decide_eq_true (by omega)]
  have b2 := add1_nat i (by omega)
  obtain ⟨z, hzz⟩ : ∃ w, w = (x5l y).getD i 0 := ⟨_, rfl⟩
  rw [← hzz] at ap m la
  obtain ⟨w, hw⟩ : ∃ w, w = pick z 200 := ⟨_, rfl⟩
  rw [← hw] at ap m
  obtain ⟨O, hO⟩ : ∃ w, w = AV.fs 1 (intsA t.order) := ⟨_, rfl⟩
  rw [← hO] at l5 ll
  obtain ⟨i1, hi1⟩ : ∃ n, n = i + 1 := ⟨_, rfl⟩
  rw [← hi1] at b2 ap ⊢
  simp [lp7x0, f5, l5, ll, ix, la, m, b0, b1, b2, ap, frz_i, -evBin, -evLoad, -evFieldAddr, -evLenSl, -frz]
theorem loop7 {A0 : Arena} {y : X5} (hy : y.inR) {t : Sched} (hA2 : A0[2]? = some (.row 5 false [x5A y])) (hA5 : A0[5]? = some (.row 4 false [schF t])) (hl : t.order.length ≤ 5) (v10 v15 v21 : AV) :
    ∃ e3 : AV, iter (evC (envOf GC fs7) 300 lp7x0) mask7x0 300 (st7x0 (.ptr 2 0 0) v10 v15 (.ptr 5 0 0) v21 .nilS (.int .i64 0)) A0 =
      some (.exit 0 ((st7x0 (.ptr 2 0 0) v10 v15 (.ptr 5 0 0) v21 (oA A0 (intsA (yL y t.order.length))) (.int .i64 (t.order.length : Int))).set 32 e3) (aA A0 1 (intsA (yL y t.order.length)))) := by
  have l5 := (List.getElem?_eq_some_iff.1 hA5).1
  have k5 : (aA A0 1 (intsA (yL y t.order.length)))[5]? = some (.row 4 false [schF t]) := (aA_old _ 5 (by omega)).trans hA5
  have b0 := lt_nat t.order.length t.order.length .i64
  rw [decide_eq_false (by omega)] at b0
  have f5 : evFieldAddr 1 (aA A0 1 (intsA (yL y t.order.length))) (.ptr 5 0 0) = some (.ptr 5 0 1) := by simp [evFieldAddr, k5]
  have e5 : evLoad false 1 (aA A0 1 (intsA (yL y t.order.length))) (.ptr 5 0 1) = some (.fs 1 (intsA t.order)) := by simp [evLoad, k5, schF, loadElem_part]
  have ll : evLenSl (.fs 1 (intsA t.order)) = some (.int .i64 (t.order.length : Int)) := by simp [evLenSl, intsA]
  refine ⟨.bool false, ?_⟩
  exact iter_up (E := envOf GC fs7) (fuel := 300) (a := lp7x0) (mask := mask7x0) (fun i => st7x0 (.ptr 2 0 0) v10 v15 (.ptr 5 0 0) v21 (oA A0 (intsA (yL y i))) (.int .i64 (i : Int))) (fun i => aA A0 1 (intsA (yL y i))) t.order.length (o := .exit 0 ((st7x0 (.ptr 2 0 0) v10 v15 (.ptr 5 0 0) v21 (oA A0 (intsA (yL y t.order.length))) (.int .i64 (t.order.length : Int))).set 32 (.bool false)) (aA A0 1 (intsA (yL y t.order.length))))
    (fun _ => cl7x0) (fun _ _ h => by cases h) (fun i hi => round7 hy hA2 hA5 hi (by omega) _ _ _ _ rfl) (by
      obtain ⟨O, hO⟩ : ∃ w, w = AV.fs 1 (intsA t.order) := ⟨_, rfl⟩
      rw [← hO] at e5 ll
      simp [lp7x0, f5, e5, ll, b0, -evBin, -evLoad, -evFieldAddr, -evLenSl]) (m := 300) (by omega)
set_option maxRecDepth 100000 in
set_option maxHeartbeats 16000000 in
open Classical in
theorem ev7 {x : X5} (hx : x.inR) {ys : List (Int × Int)} (hys : ∀ y ∈ ys, inI y.1 ∧ inI y.2) {yv : AV} (hy : SlA 2 (ys.map chA) yv) {which less : Int} (hwh : inI which) (hle : inI less) {a b c : Int} (ha : inI a) (hb : inI b) (hc : inI c) {y : X5} (hyr : y.inR) :
    evP (envOf GC fs7) 300 mf7 1 [x5A x, yv, .int .i64 which, .agg [.int .i64 a, .int .i64 b, .int .i64 c], .int .i64 less, x5A y] = some (.bool true) := by
  have m13 := M13_eq hx hys hy
  have hcv := mk_ch x ys
  have hn4 := mk_len x ys
  have m14 := M14_eq hcv (by omega)
  have fx : ∀ A, frz A 4 (x5A x) = x5A x := fun A => by simp [x5A, frz]
  have fy : ∀ A, frz A 4 yv = yv := fun A => hy.frz 4
  have fm := fun A => mk_frz x ys A
  have nm := mk_noRef x ys
  have hval := make_valid x ys
  obtain ⟨T, hT⟩ : ∃ T, T = makeT x ys := ⟨_, rfl⟩
  obtain ⟨C, hC⟩ : ∃ C, C = slA 2 ((makeT x ys).ch.map chA) := ⟨_, rfl⟩
  have hmk : mkA x ys = toolA T C := by rw [hC, hT]; rfl
  rw [← hC, ← hT] at hcv m14
  rw [← hT] at hval hn4
  rw [hmk] at m13 fm nm
  have hpos := ord_pos hval
  -- the order
  obtain ⟨j, hj, hjl⟩ := pick_of (b := which) hpos
  obtain ⟨o, ho⟩ : ∃ o, o = (ordersM T)[j] := ⟨_, rfl⟩
  have hO : o ∈ ordersM T := by rw [ho]; exact List.getElem_mem hjl
  have hol := (orders_mem hO).2.1
  have hbO := slA_holds 1 ((ordersM T).map fun l => slA 1 (intsA l))
  rw [show slA 1 ((ordersM T).map fun l => slA 1 (intsA l)) = ordA (ordersM T) from rfl] at hbO
  have hlen := hbO.len
  rw [List.length_map] at hlen
  obtain ⟨q1, q2⟩ := slA_form o
  have he : ((ordersM T).map fun l => slA 1 (intsA l))[j]? = some (slA 1 (intsA o)) := by simp [hjl, ho]
  have x1 := fun A => hbO.index1 (A := A) he q1 q2 .i64
  have m30 := M12_eq hwh (n := ((ordersM T).length : Int)) (by omega)
  rw [hj] at m30
  have hos := slA_holds 1 (intsA o)
  have hlo := hos.len
  rw [intsA_len] at hlo
  have m19 := M19_eq hcv (by omega) hos
  rw [arcsM_some hO] at m19
  have m19 : M19 [toolA T C, slA 1 (intsA o)] = some (.tup [arcsV (arcsL T o), .int .i64 0]) := m19
  have m23 : Cy.M23 [.int .i64 (o.length : Int), arcsV (arcsL T o), .int .i64 1, .int .i64 1000000] = some (smT (smM (o.length : Int) (arcsL T o) 1 1000000)) := by
    simp only [Cy.M23, arcsV_of hO, Option.map_some]
  have fo : ∀ A, frz A 4 (slA 1 (intsA o)) = slA 1 (intsA o) := fun A => hos.frz 4
  have fa : ∀ A, frz A 4 (arcsV (arcsL T o)) = arcsV (arcsL T o) := fun A => (slA_holds 4 _).frz 4
  have na : noRefB 4 (arcsV (arcsL T o)) = true := (slA_holds 4 _).noRef 4
  have b0 := evEqlI ((ordersM T).length : Int) 0
  rw [decide_eq_false (by omega)] at b0
  have b1 := evNeqI 0 0
  rw [decide_eq_false (by omega)] at b1
  obtain ⟨H, hH⟩ : ∃ H, H = AV.agg [.int .i64 a, .int .i64 b, .int .i64 c] := ⟨_, rfl⟩
  -- arenas
  have bx0 : evBox 5 (x5A x) [] = some (.ptr 0 0 0, [.row 5 false [x5A x]]) := rfl
  have cx : (cellsOf (x5A x)).length = 5 := rfl
  have bx1 : ∀ r, evBox 3 H [r] = some (.ptr 1 0 0, [r, .row 3 false [H]]) := fun r => by rw [hH]; rfl
  have cH : (cellsOf H).length = 3 := by rw [hH]; rfl
  have bx2 : ∀ r q, evBox 5 (x5A y) [r, q] = some (.ptr 2 0 0, [r, q, .row 5 false [x5A y]]) := fun r q => rfl
  have cy : (cellsOf (x5A y)).length = 5 := rfl
  have ex : ∀ X, evLoad true 5 (.row 5 false [x5A x] :: X) (.ptr 0 0 0) = some (x5A x) := fun X => rfl
  have bx3 : ∀ r q u, evBox 5 (.agg [.nilS, .int .i64 0, .int .i64 0, .int .i64 0, .int .i64 0]) [r, q, u] = some (.ptr 3 0 0, [r, q, u, .row 5 false [.agg [.nilS, .int .i64 0, .int .i64 0, .int .i64 0, .int .i64 0]]]) := fun r q u => rfl
  have st3 : ∀ r q u z, evStore 5 [r, q, u, .row 5 false [z]] (.ptr 3 0 0) (toolA T C) = some [r, q, u, .row 5 false [toolA T C]] := fun r q u z => by
    simp [evStore, storeElem, toolA]
  have et : ∀ r q u X, evLoad true 5 (r :: q :: u :: .row 5 false [toolA T C] :: X) (.ptr 3 0 0) = some (toolA T C) := fun r q u X => rfl
  have eH : ∀ r X, evLoad true 3 (r :: .row 3 false [H] :: X) (.ptr 1 0 0) = some H := fun r X => by rw [hH]; rfl
  have bx4 : ∀ r q u v, evBox 4 (.agg [.int .i64 0, .nilS, .nilS, .nilS]) [r, q, u, v] = some (.ptr 4 0 0, [r, q, u, v, .row 4 false [zA]]) := fun r q u v => rfl
  cases hsm : smM (o.length : Int) (arcsL T o) 1 1000000 with
  | none =>
    rw [hsm] at m23
    obtain ⟨X, hX⟩ : ∃ X, X = x5A x := ⟨_, rfl⟩
    rw [← hX] at m13 fx bx0 cx ⊢
    simp only [← hX] at ex
    obtain ⟨Y, hY⟩ : ∃ X, X = x5A y := ⟨_, rfl⟩
    rw [← hY] at cy ⊢
    simp only [← hY] at bx2
    rw [← hH]
    obtain ⟨t, ht⟩ : ∃ t, t = toolA T C := ⟨_, rfl⟩
    rw [← ht] at m13 m14 m19 nm
    simp only [← ht] at st3 et fm
    obtain ⟨W, hW⟩ : ∃ W, W = slA 1 (intsA o) := ⟨_, rfl⟩
    rw [← hW] at m19 hlo
    simp only [← hW] at x1 fo
    obtain ⟨V, hV⟩ : ∃ V, V = arcsV (arcsL T o) := ⟨_, rfl⟩
    rw [← hV] at m19 m23 na
    simp only [← hV] at fa
    obtain ⟨Q, hQ⟩ : ∃ Q, Q = ordA (ordersM T) := ⟨_, rfl⟩
    rw [← hQ] at m14 hlen
    simp only [← hQ] at x1
    rw [evP_run _ _ rfl]
    simp [mf7, bx0, cx, bx1, cH, bx2, cy, ex, fx, fy, m13, bx3, st3, et, fm, m14, hlen, b0, m30, frz_i, x1, hlo, fo, m19, b1, fa, na, m23, smT, frz_b, -evBin, -evLoad, -evStore, -evFieldAddr, -evBox, -evLenSl, -evIndexSl, -frz, -cellsOf]
  | some p =>
    rw [hsm] at m23
    obtain ⟨k1, k2, k3, k4, k5⟩ := sm_some (n := o.length) (hi := 1000000) (by unfold isPer; omega) hsm
    have hchk := chk_of hO k1 k2 k4 (fun hp => k5 (p - 1) (by omega) (by omega))
    have hv := arcsV_of hO
    have h14 := fun A q => Cy.H14_eq (fun _ _ _ => none) (A := A) (show frz A 4 (arcsV (arcsL T o)) = arcsV (arcsL T o) from (slA_holds 4 ((arcsL T o).map arcA)).frz 4) hv (o.length : Int) q
    obtain ⟨st, hst⟩ : ∃ st, st = (lvM (o.length : Int) (arcsL T o) p).1 := ⟨_, rfl⟩
    have h1 := fun A => h14 A p
    simp only [show lvT (lvM (o.length : Int) (arcsL T o) p) = .tup [slA 1 (intsA st), slA 1 (intsA (lvM (o.length : Int) (arcsL T o) p).2.1), .bool (lvM (o.length : Int) (arcsL T o) p).2.2] by rw [hst]; rfl] at h1
    obtain ⟨pr0, hpr0⟩ : ∃ pr, pr = (lvM (o.length : Int) (arcsL T o) (p - 1)).2.1 := ⟨_, rfl⟩
    have h2 := fun A => h14 A (p - 1)
    simp only [show lvT (lvM (o.length : Int) (arcsL T o) (p - 1)) = .tup [slA 1 (intsA (lvM (o.length : Int) (arcsL T o) (p - 1)).1), slA 1 (intsA pr0), .bool (lvM (o.length : Int) (arcsL T o) (p - 1)).2.2] by rw [hpr0]; rfl] at h2
    obtain ⟨pr, hpr⟩ : ∃ pr, pr = if p > 1 then pr0 else [] := ⟨_, rfl⟩
    have hsc : schOf T (p, o) = ⟨p, o, st, pr⟩ := by rw [hpr, hpr0, hst]; rfl
    rw [hsc] at hchk
    have hin := sched_in hchk
    have m26 := M26_of hcv (by omega) hchk
    have hsB : SchB ⟨p, o, st, pr⟩ := ⟨by simp only; omega, by have := hin.1.1; simp only at this ⊢; omega, by have := hin.2.1.1; simp only at this ⊢; omega, by have := hin.2.2.1; simp only at this ⊢; omega, hin.1.2, fun z hz => by have := hchk.2.2.1.2.2.1 z hz; omega, hin.2.2.2⟩
    obtain ⟨t, m25, g1, g2, g3, g4, g5, g6, g7⟩ := M25_eq (s := ⟨p, o, st, pr⟩) hos (slA_holds 1 (intsA st)) (slA_holds 1 (intsA pr)) hsB ha hb hc
    have m25 : M25 [schA ⟨p, o, st, pr⟩, .agg [.int .i64 a, .int .i64 b, .int .i64 c]] = some (schF t) := m25
    simp only at g1 g2 g3
    have hV : SchV t (.fs 1 (intsA t.order)) (.fs 1 (intsA t.starts)) (.fs 1 (intsA t.proof)) := ⟨.inr rfl, .inr rfl, .inr rfl, by unfold inI; omega, by have := hsB.ol; simp only at this; omega, by have := hsB.stl; simp only at this; omega, g6, by have := hsB.prl; simp only at this; omega, g7⟩
    have m26t := M26_eq hcv (by omega) hV
    have m26t : M26 [toolA T C, schF t] = some (.bool (decide (Chk T t))) := m26t
    have fsA : ∀ A, frz A 4 (schA ⟨p, o, st, pr⟩) = schA ⟨p, o, st, pr⟩ := fun A => schA_frz _ A 3
    have fH : ∀ A, frz A 4 H = H := fun A => by rw [hH]; simp [frz]
    have fsF : ∀ A, frz A 4 (schF t) = schF t := fun A => by simp [schF, frz]
    -- rows
    have fl : fillA [.int .i64 0, .nilS, .nilS, .nilS] [(0, (1, .int .i64 p)), (1, (1, slA 1 (intsA o)))] = some [.int .i64 p, slA 1 (intsA o), .nilS, .nilS] := by
      have c1 : cellsOf (AV.int .i64 p) = [.int .i64 p] := rfl
      have c2 : (AV.int .i64 p).solid = true := rfl
      simp [fillA, q1, q2, c1, c2, -cellsOf, -AV.solid]
    have st4 : ∀ r q u v, evStore 4 [r, q, u, v, .row 4 false [zA]] (.ptr 4 0 0) (.agg [.int .i64 p, slA 1 (intsA o), .nilS, .nilS]) = some [r, q, u, v, .row 4 false [.agg [.int .i64 p, slA 1 (intsA o), .nilS, .nilS]]] := fun r q u v => by simp [evStore, storeElem]
    have f4 : ∀ r q u v e j, j < 4 → evFieldAddr j [r, q, u, v, .row 4 false [e]] (.ptr 4 0 0) = some (.ptr 4 0 j) := fun r q u v e j hj => by simp [evFieldAddr, hj]
    obtain ⟨s1, s2⟩ := slA_form st
    obtain ⟨p1, p2⟩ := slA_form pr0
    have st42 : ∀ r q u v, evStore 1 [r, q, u, v, .row 4 false [.agg [.int .i64 p, slA 1 (intsA o), .nilS, .nilS]]] (.ptr 4 0 2) (slA 1 (intsA st)) = some [r, q, u, v, .row 4 false [.agg [.int .i64 p, slA 1 (intsA o), slA 1 (intsA st), .nilS]]] := fun r q u v => by
      simp [evStore, storeElem, s1, s2, -cellsOf, -AV.solid]
    have st43 : p > 1 → ∀ r q u v, evStore 1 [r, q, u, v, .row 4 false [.agg [.int .i64 p, slA 1 (intsA o), slA 1 (intsA st), .nilS]]] (.ptr 4 0 3) (slA 1 (intsA pr0)) = some [r, q, u, v, .row 4 false [schA ⟨p, o, st, pr⟩]] := fun hp r q u v => by
      rw [hpr, if_pos hp]
      simp [evStore, storeElem, p1, p2, schA, -cellsOf, -AV.solid]
    have st40 : ¬ p > 1 → (.agg [.int .i64 p, slA 1 (intsA o), slA 1 (intsA st), .nilS] : AV) = schA ⟨p, o, st, pr⟩ := fun hp => by rw [hpr, if_neg hp]; rfl
    have e4 : ∀ r q u v, evLoad true 4 [r, q, u, v, .row 4 false [schA ⟨p, o, st, pr⟩]] (.ptr 4 0 0) = some (schA ⟨p, o, st, pr⟩) := fun r q u v => rfl
    have bx5 : ∀ r q u v w, evBox 4 (.agg [.int .i64 0, .nilS, .nilS, .nilS]) [r, q, u, v, w] = some (.ptr 5 0 0, [r, q, u, v, w, .row 4 false [zA]]) := fun r q u v w => rfl
    have st5 : ∀ r q u v w, evStore 4 [r, q, u, v, w, .row 4 false [zA]] (.ptr 5 0 0) (schF t) = some [r, q, u, v, w, .row 4 false [schF t]] := fun r q u v w => by simp [evStore, storeElem, schF]
    have e5 : ∀ r q u v w, evLoad true 4 [r, q, u, v, w, .row 4 false [schF t]] (.ptr 5 0 0) = some (schF t) := fun r q u v w => rfl
    have f5 : ∀ r q u v w j, j < 4 → evFieldAddr j [r, q, u, v, w, .row 4 false [schF t]] (.ptr 5 0 0) = some (.ptr 5 0 j) := fun r q u v w j hj => by simp [evFieldAddr, hj]
    have l50 : ∀ r q u v w, evLoad false 1 [r, q, u, v, w, .row 4 false [schF t]] (.ptr 5 0 0) = some (.int .i64 t.period) := fun r q u v w => rfl
    have l51 : ∀ r q u v w, evLoad false 1 [r, q, u, v, w, .row 4 false [schF t]] (.ptr 5 0 1) = some (.fs 1 (intsA t.order)) := fun r q u v w => rfl
    have bp := evGtrI p 1
    have bs : evBin .sub (.int .i64 p) (.int .i64 1) = some (.int .i64 (p - 1)) := evSubI (by omega)
    have hlt : evLenSl (.fs 1 (intsA t.order)) = some (.int .i64 (t.order.length : Int)) := by simp [evLenSl, intsA]
    by_cases hct : Chk T t
    · rw [decide_eq_true hct] at m26t
      obtain ⟨hO', hP', hV', _⟩ := id hct
      have hol' := (orders_mem hO').2.1
      have m19' := M19_eq hcv (by omega) (.inr rfl : SlA 1 (intsA t.order) (.fs 1 (intsA t.order)))
      rw [arcsM_some hO'] at m19'
      have m19' : M19 [toolA T C, .fs 1 (intsA t.order)] = some (.tup [arcsV (arcsL T t.order), .int .i64 0]) := m19'
      have fO' : ∀ A, frz A 4 (.fs 1 (intsA t.order)) = .fs 1 (intsA t.order) := fun A => rfl
      have fV' : ∀ A, frz A 4 (arcsV (arcsL T t.order)) = arcsV (arcsL T t.order) := fun A => (slA_holds 4 _).frz 4
      have nV' : noRefB 4 (arcsV (arcsL T t.order)) = true := (slA_holds 4 _).noRef 4
      have c1 : evBin .sub (.int .i64 t.period) (.int .i64 1) = some (.int .i64 (t.period - 1)) := evSubI (by omega)
      have c2 := maxI t.period 1
      rw [Int.max_eq_left (by omega)] at c2
      have m30' := M12_eq hle (n := t.period) (by omega)
      have hpk := pick_range less t.period (by omega)
      have c3 : evBin .sub (.int .i64 (t.period - 1)) (.int .i64 (pick less t.period)) = some (.int .i64 (t.period - 1 - pick less t.period)) := evSubI (by omega)
      obtain ⟨mm, hmm⟩ : ∃ mm, mm = t.period - 1 - pick less t.period := ⟨_, rfl⟩
      rw [← hmm] at c3
      have c4 := maxI mm 1
      have h3 := fun A => Cy.H14_eq (fun _ _ _ => none) (A := A) (show frz A 4 (arcsV (arcsL T t.order)) = arcsV (arcsL T t.order) from fV' A) (arcsV_of hO') (t.order.length : Int) (max mm 1)
      obtain ⟨oth, hoth⟩ : ∃ b, b = (lvM (t.order.length : Int) (arcsL T t.order) (max mm 1)).2.2 := ⟨_, rfl⟩
      have hof : 1 ≤ mm → oth = false := fun h1 => by
        have hR := ready_of hO' (p := max mm 1) (by omega) (by omega)
        have hp := chk_less hct (m := max mm 1) (by omega) (by omega)
        rw [hoth]
        cases h : (lvM (t.order.length : Int) (arcsL T t.order) (max mm 1)).2.2 with
        | false => rfl
        | true => exact absurd hp ((lv_ok hR).1 h)
      simp only [show lvT (lvM (t.order.length : Int) (arcsL T t.order) (max mm 1)) = .tup [slA 1 (intsA (lvM (t.order.length : Int) (arcsL T t.order) (max mm 1)).1), slA 1 (intsA (lvM (t.order.length : Int) (arcsL T t.order) (max mm 1)).2.1), .bool oth] by rw [hoth]; rfl] at h3
      have c5 : evBin .geq (.int .i64 mm) (.int .i64 1) = some (.bool (decide (1 ≤ mm))) := by simp [evBin]
      have c6 := evLssI mm 1
      obtain ⟨A0, hA0⟩ : ∃ A0 : Arena, A0 = [.row 5 false [x5A x], .row 3 false [H], .row 5 false [x5A y], .row 5 false [toolA T C], .row 4 false [schA ⟨p, o, st, pr⟩], .row 4 false [schF t]] := ⟨_, rfl⟩
      have hA2 : A0[2]? = some (.row 5 false [x5A y]) := by rw [hA0]; rfl
      have hA5 : A0[5]? = some (.row 4 false [schF t]) := by rw [hA0]; rfl
      obtain ⟨e3, lp⟩ := loop7 hyr hA2 hA5 (by omega) (.bool true) (arcsV (arcsL T t.order)) (.int .i64 mm)
      have hyl : (yL y t.order.length).length = t.order.length := by simp [yL]
      have hyi : ∀ z ∈ yL y t.order.length, inI z := fun z hz => by
        obtain ⟨i, _, rfl⟩ := List.mem_map.1 hz
        have := pick_range ((x5l y).getD i 0) 200 (by omega)
        unfold inI; omega
      have fY : frz (aA A0 1 (intsA (yL y t.order.length))) 4 (oA A0 (intsA (yL y t.order.length))) = slA 1 (intsA (yL y t.order.length)) := by
        rw [show (4 : Nat) = 3 + 1 from rfl, frz_oA, (ints_map_frz _ 3 _).2]
      have iY : intsOf (slA 1 (intsA (yL y t.order.length))) = some (yL y t.order.length) := intsOf_of (slA_holds _ _) (by omega) hyi
      have mv : Cy.M19 [.int .i64 (t.order.length : Int), arcsV (arcsL T t.order), .int .i64 mm, slA 1 (intsA (yL y t.order.length))] = some (.bool (decide (VerOk (t.order.length : Int) (arcsL T t.order) mm (yL y t.order.length)))) := by
        simp only [Cy.M19, arcsV_of hO', iY]
      have mvf : 1 ≤ mm → Cy.M19 [.int .i64 (t.order.length : Int), arcsV (arcsL T t.order), .int .i64 mm, slA 1 (intsA (yL y t.order.length))] = some (.bool false) := fun h1 => by
        rw [mv, decide_eq_false (fun h => ver_pos h (chk_less hct h1 (by omega)))]
      have kB : (aA A0 1 (intsA (yL y t.order.length)))[5]? = some (.row 4 false [schF t]) := (aA_old _ 5 (by rw [hA0]; simp)).trans hA5
      obtain ⟨B, hB⟩ : ∃ B, B = aA A0 1 (intsA (yL y t.order.length)) := ⟨_, rfl⟩
      obtain ⟨U, hU⟩ : ∃ B, B = oA A0 (intsA (yL y t.order.length)) := ⟨_, rfl⟩
      obtain ⟨G, hG⟩ : ∃ B, B = slA 1 (intsA (yL y t.order.length)) := ⟨_, rfl⟩
      rw [← hB] at lp kB fY
      rw [← hU] at lp fY
      rw [← hG] at fY
      simp only [← hG] at mvf
      have fB : evFieldAddr 1 B (.ptr 5 0 0) = some (.ptr 5 0 1) := by simp [evFieldAddr, kB]
      have lB : evLoad false 1 B (.ptr 5 0 1) = some (.fs 1 (intsA t.order)) := by simp [evLoad, kB, schF, loadElem_part]
      rw [hA0] at lp
      obtain ⟨X, hX⟩ : ∃ X, X = x5A x := ⟨_, rfl⟩
      rw [← hX] at m13 fx bx0 cx lp ⊢
      simp only [← hX] at ex
      obtain ⟨Y, hY⟩ : ∃ X, X = x5A y := ⟨_, rfl⟩
      rw [← hY] at cy lp ⊢
      simp only [← hY] at bx2
      rw [← hH] at m25 ⊢
      obtain ⟨tt, ht⟩ : ∃ t, t = toolA T C := ⟨_, rfl⟩
      rw [← ht] at m13 m14 m19 m19' nm m26 m26t lp
      simp only [← ht] at st3 et fm
      obtain ⟨S, hS⟩ : ∃ S, S = schA ⟨p, o, st, pr⟩ := ⟨_, rfl⟩
      rw [← hS] at m26 m25 st40 lp
      simp only [← hS] at fsA st43 e4
      obtain ⟨W, hW⟩ : ∃ W, W = slA 1 (intsA o) := ⟨_, rfl⟩
      rw [← hW] at m19 hlo fl st40
      simp only [← hW] at x1 fo st4 st42 st43
      obtain ⟨V, hVV⟩ : ∃ V, V = arcsV (arcsL T o) := ⟨_, rfl⟩
      rw [← hVV] at m19 m23 na
      simp only [← hVV] at fa h1 h2
      obtain ⟨Q, hQ⟩ : ∃ Q, Q = ordA (ordersM T) := ⟨_, rfl⟩
      rw [← hQ] at m14 hlen
      simp only [← hQ] at x1
      obtain ⟨F, hF⟩ : ∃ Q, Q = schF t := ⟨_, rfl⟩
      rw [← hF] at m25 m26t lp
      simp only [← hF] at fsF st5 e5 f5 l50 l51
      obtain ⟨Z1, hZ1⟩ : ∃ Q, Q = slA 1 (intsA st) := ⟨_, rfl⟩
      rw [← hZ1] at st40
      simp only [← hZ1] at h1 st42 st43
      obtain ⟨Z2, hZ2⟩ : ∃ Q, Q = slA 1 (intsA pr0) := ⟨_, rfl⟩
      simp only [← hZ2] at h2 st43
      obtain ⟨pm, hpm⟩ : ∃ Q, Q = p - 1 := ⟨_, rfl⟩
      rw [← hpm] at bs
      simp only [← hpm] at h2
      obtain ⟨O', hOO⟩ : ∃ Q, Q = AV.fs 1 (intsA t.order) := ⟨_, rfl⟩
      rw [← hOO] at m19' hlt lB
      simp only [← hOO] at fO' l51
      obtain ⟨V', hVV'⟩ : ∃ Q, Q = arcsV (arcsL T t.order) := ⟨_, rfl⟩
      rw [← hVV'] at m19' nV' lp
      simp only [← hVV'] at fV' h3 mvf
      obtain ⟨pw, hpw⟩ : ∃ Q, Q = t.period - 1 := ⟨_, rfl⟩
      rw [← hpw] at c1 c3
      obtain ⟨pk, hpk'⟩ : ∃ Q, Q = pick less t.period := ⟨_, rfl⟩
      rw [← hpk'] at m30' c3
      obtain ⟨mx, hmx⟩ : ∃ Q, Q = max mm 1 := ⟨_, rfl⟩
      rw [← hmx] at c4
      simp only [← hmx] at h3
      rw [evP_run _ _ rfl]
      by_cases hm : 1 ≤ mm
      · rw [decide_eq_true hm] at c5
        rw [decide_eq_false (by omega)] at c6
        have mvf := mvf hm
        have hof := hof hm
        subst hof
        by_cases hp : p > 1
        · rw [decide_eq_true hp] at bp
          have st43 := st43 hp
          simp [mf7, bx0, cx, bx1, cH, bx2, cy, ex, fx, fy, m13, bx3, st3, et, fm, nm, m14, hlen, b0, m30, frz_i, x1, hlo, fo, m19, b1, fa, na, m23, smT, fl, bx4, st4, h1, f4, st42, bp, bs, h2, st43, e4, fsA, m26, eH, fH, m25, bx5, st5, e5, fsF, m26t, frz_b, f5, l50, l51, m19', fO', fV', nV', c1, c2, m30', c3, c4, hlt, h3, c5, c6, go7x0 lp, fB, lB, fY, mvf, -evBin, -evLoad, -evStore, -evFieldAddr, -evBox, -evLenSl, -evIndexSl, -evMinL, -evMin2, -frz, -cellsOf, -fillA]
        · rw [decide_eq_false hp] at bp
          simp only [st40 hp] at st42
          simp [mf7, bx0, cx, bx1, cH, bx2, cy, ex, fx, fy, m13, bx3, st3, et, fm, nm, m14, hlen, b0, m30, frz_i, x1, hlo, fo, m19, b1, fa, na, m23, smT, fl, bx4, st4, h1, f4, st42, bp, e4, fsA, m26, eH, fH, m25, bx5, st5, e5, fsF, m26t, frz_b, f5, l50, l51, m19', fO', fV', nV', c1, c2, m30', c3, c4, hlt, h3, c5, c6, go7x0 lp, fB, lB, fY, mvf, -evBin, -evLoad, -evStore, -evFieldAddr, -evBox, -evLenSl, -evIndexSl, -evMinL, -evMin2, -frz, -cellsOf, -fillA]
      · rw [decide_eq_false hm] at c5
        rw [decide_eq_true (by omega)] at c6
        by_cases hp : p > 1
        · rw [decide_eq_true hp] at bp
          have st43 := st43 hp
          simp [mf7, bx0, cx, bx1, cH, bx2, cy, ex, fx, fy, m13, bx3, st3, et, fm, nm, m14, hlen, b0, m30, frz_i, x1, hlo, fo, m19, b1, fa, na, m23, smT, fl, bx4, st4, h1, f4, st42, bp, bs, h2, st43, e4, fsA, m26, eH, fH, m25, bx5, st5, e5, fsF, m26t, frz_b, f5, l50, l51, m19', fO', c1, c2, m30', c3, c4, hlt, h3, c5, c6, go7x0 lp, -evBin, -evLoad, -evStore, -evFieldAddr, -evBox, -evLenSl, -evIndexSl, -evMinL, -evMin2, -frz, -cellsOf, -fillA]
        · rw [decide_eq_false hp] at bp
          simp only [st40 hp] at st42
          simp [mf7, bx0, cx, bx1, cH, bx2, cy, ex, fx, fy, m13, bx3, st3, et, fm, nm, m14, hlen, b0, m30, frz_i, x1, hlo, fo, m19, b1, fa, na, m23, smT, fl, bx4, st4, h1, f4, st42, bp, e4, fsA, m26, eH, fH, m25, bx5, st5, e5, fsF, m26t, frz_b, f5, l50, l51, m19', fO', c1, c2, m30', c3, c4, hlt, h3, c5, c6, go7x0 lp, -evBin, -evLoad, -evStore, -evFieldAddr, -evBox, -evLenSl, -evIndexSl, -evMinL, -evMin2, -frz, -cellsOf, -fillA]
    · rw [decide_eq_false hct] at m26t
      obtain ⟨X, hX⟩ : ∃ X, X = x5A x := ⟨_, rfl⟩
      rw [← hX] at m13 fx bx0 cx ⊢
      simp only [← hX] at ex
      obtain ⟨Y, hY⟩ : ∃ X, X = x5A y := ⟨_, rfl⟩
      rw [← hY] at cy ⊢
      simp only [← hY] at bx2
      rw [← hH] at m25 ⊢
      obtain ⟨tt, ht⟩ : ∃ t, t = toolA T C := ⟨_, rfl⟩
      rw [← ht] at m13 m14 m19 nm m26 m26t
      simp only [← ht] at st3 et fm
      obtain ⟨S, hS⟩ : ∃ S, S = schA ⟨p, o, st, pr⟩ := ⟨_, rfl⟩
      rw [← hS] at m26 m25 st40
      simp only [← hS] at fsA st43 e4
      obtain ⟨W, hW⟩ : ∃ W, W = slA 1 (intsA o) := ⟨_, rfl⟩
      rw [← hW] at m19 hlo fl st40
      simp only [← hW] at x1 fo st4 st42 st43
      obtain ⟨V, hVV⟩ : ∃ V, V = arcsV (arcsL T o) := ⟨_, rfl⟩
      rw [← hVV] at m19 m23 na
      simp only [← hVV] at fa h1 h2
      obtain ⟨Q, hQ⟩ : ∃ Q, Q = ordA (ordersM T) := ⟨_, rfl⟩
      rw [← hQ] at m14 hlen
      simp only [← hQ] at x1
      obtain ⟨F, hF⟩ : ∃ Q, Q = schF t := ⟨_, rfl⟩
      rw [← hF] at m25 m26t
      simp only [← hF] at fsF st5 e5
      obtain ⟨Z1, hZ1⟩ : ∃ Q, Q = slA 1 (intsA st) := ⟨_, rfl⟩
      rw [← hZ1] at st40
      simp only [← hZ1] at h1 st42 st43
      obtain ⟨Z2, hZ2⟩ : ∃ Q, Q = slA 1 (intsA pr0) := ⟨_, rfl⟩
      simp only [← hZ2] at h2 st43
      obtain ⟨pm, hpm⟩ : ∃ Q, Q = p - 1 := ⟨_, rfl⟩
      rw [← hpm] at bs
      simp only [← hpm] at h2
      rw [evP_run _ _ rfl]
      by_cases hp : p > 1
      · rw [decide_eq_true hp] at bp
        have st43 := st43 hp
        simp [mf7, bx0, cx, bx1, cH, bx2, cy, ex, fx, fy, m13, bx3, st3, et, fm, nm, m14, hlen, b0, m30, frz_i, x1, hlo, fo, m19, b1, fa, na, m23, smT, fl, bx4, st4, h1, f4, st42, bp, bs, h2, st43, e4, fsA, m26, eH, fH, m25, bx5, st5, e5, fsF, m26t, frz_b, -evBin, -evLoad, -evStore, -evFieldAddr, -evBox, -evLenSl, -evIndexSl, -frz, -cellsOf, -fillA]
      · rw [decide_eq_false hp] at bp
        simp only [st40 hp] at st42
        simp [mf7, bx0, cx, bx1, cH, bx2, cy, ex, fx, fy, m13, bx3, st3, et, fm, nm, m14, hlen, b0, m30, frz_i, x1, hlo, fo, m19, b1, fa, na, m23, smT, fl, bx4, st4, h1, f4, st42, bp, e4, fsA, m26, eH, fH, m25, bx5, st5, e5, fsF, m26t, frz_b, -evBin, -evLoad, -evStore, -evFieldAddr, -evBox, -evLenSl, -evIndexSl, -frz, -cellsOf, -fillA]
theorem ev7L (args : List AV) (h : LawArgs Try.prog 8 Try.f7.params.toList args) : ∃ fuel, evP (envOf GC fs7) fuel mf7 1 args = some (.bool true) := by
  rw [Try.params7] at h
  obtain ⟨u0, r, rfl, h0, h⟩ := h.cons
  obtain ⟨u1, r, rfl, h1, h⟩ := h.cons
  obtain ⟨u2, r, rfl, h2, h⟩ := h.cons
  obtain ⟨u3, r, rfl, h3, h⟩ := h.cons
  obtain ⟨u4, r, rfl, h4, h⟩ := h.cons
  obtain ⟨u5, r, rfl, h5, h⟩ := h.cons
  obtain rfl := h.nil
  obtain ⟨x, rfl, hx⟩ := x5_arg (n := 6) h0
  obtain ⟨ys, hy, hys, _⟩ := twos_arg (n := 5) h1
  obtain ⟨w, rfl, hw⟩ := TA.i64 Try.underlying3 h2
  obtain ⟨a, b, c, rfl, ha, hb, hc⟩ := three_arg (n := 6) h3
  obtain ⟨l, rfl, hl⟩ := TA.i64 Try.underlying3 h4
  obtain ⟨y, rfl, hyr⟩ := x5_arg (n := 6) h5
  exact ⟨300, ev7 hx hys hy hw hl ha hb hc hyr⟩
end Go.Proofs.Ytemklhljjaniaaa
