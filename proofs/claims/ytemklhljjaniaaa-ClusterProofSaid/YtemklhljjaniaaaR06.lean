/-
  What the proof is built on (K9 to K0l7).
-/
import Derived.Test.YtemklhljjaniaaaR05
import Derived.Test.YtemklhljjaniaaaChecked
import Derived.KernelRfl
import Derived.Test.YtemklhljjaniaaaR03
/-
  Cluster: Best.
-/
namespace Go.Proofs.Ytemklhljjaniaaa
open Go
open Cy (GC geq0 idxZ idxZ_some idxZ_none idxZ_any frz_i frz_b intsA_len CArc arcA arcsOf isPer ValidA okA smM smT lvM lvT arcsOf_slA VerOk RefOk Ready slA_cases)

/-! ### the arcs are in order -/
theorem getD_mem {o : List Int} {i : Nat} (h : i < o.length) : o.getD i 0 ∈ o := by
  rw [List.getD_eq_getElem?_getD, List.getElem?_eq_getElem h]; exact List.getElem_mem h
theorem arcs_ok {T : Tool} {o : List Int} (hO : o ∈ ordersM T) : ValidA (o.length : Int) (arcsL T o) ∧ ∀ x ∈ arcsL T o, x.inR := by
  obtain ⟨hv, hol, _, _⟩ := orders_mem hO
  have hbd := orders_bd hO
  have hw := workT_bd hv
  have hn1 := hv.2.2.1
  have hn4 := hv.2.2.2.1
  have htr := hv.2.1.2.2
  have key : ∀ x ∈ arcsL T o, okA (o.length : Int) x := fun x hx => by
    rcases List.mem_append.1 hx with hx | hx
    · obtain ⟨i, hi, rfl⟩ := List.mem_map.1 hx
      rw [List.mem_range] at hi
      have h1 := hbd _ (getD_mem hi)
      have h2 : 0 ≤ nextO o i ∧ nextO o i ≤ T.ch.length := by
        unfold nextO
        split
        · rename_i h; exact hbd _ (getD_mem h)
        · omega
      refine ⟨?_, ?_, ?_, ?_⟩ <;> simp only [arcO] <;> (try split) <;> omega
    · obtain ⟨i, hi, hx⟩ := List.mem_flatMap.1 hx
      rw [List.mem_range] at hi
      have hx0 : T.ch.getD i (0, 0) = T.ch[i] := by rw [List.getD_eq_getElem?_getD, List.getElem?_eq_getElem hi]; rfl
      have hxv := hv.1 _ (List.getElem_mem hi)
      rw [← hx0] at hxv
      simp only [okCh] at hxv
      have lb := lkT_bd T o ((i : Int) + 1)
      have l1 : 0 ≤ (lkT T o ((i : Int) + 1)).1 ∧ (lkT T o ((i : Int) + 1)).1 ≤ o.length - 1 ∧ 0 ≤ (lkT T o ((i : Int) + 1)).2.1 ∧ (lkT T o ((i : Int) + 1)).2.1 ≤ o.length - 1 := by
        unfold lkT
        split <;> simp only <;> omega
      simp only [arcC, List.mem_cons, List.not_mem_nil, or_false] at hx
      rcases hx with rfl | rfl <;> refine ⟨?_, ?_, ?_, ?_⟩ <;> simp only <;> omega
  refine ⟨⟨by omega, ?_, key⟩, fun x hx => ?_⟩
  · unfold arcsL
    rw [List.length_append, arcsC_len]
    simp; omega
  · obtain ⟨h1, h2, h3, h4⟩ := key x hx
    refine ⟨?_, ?_, ?_, ?_⟩ <;> unfold inI <;> omega
def arcsV (l : List CArc) : AV := slA 4 (l.map arcA)
theorem arcsV_of {T : Tool} {o : List Int} (hO : o ∈ ordersM T) : arcsOf (arcsV (arcsL T o)) = some (arcsL T o) := by
  obtain ⟨h1, h2⟩ := arcs_ok hO
  exact arcsOf_slA (by have := h1.2.1; omega) h2
theorem arcsM_some {T : Tool} {o : List Int} (hO : o ∈ ordersM T) : arcsM T o = some (arcsL T o) := if_pos hO

/-! ### plain -/
def hiOf (s : Option (Int × List Int)) : Int := match s with | none => 1000000 | some x => x.1 - 1
noncomputable def bstep (T : Tool) (s : Option (Int × List Int)) (o : List Int) : Option (Int × List Int) :=
  match smM (o.length : Int) (arcsL T o) 1 (hiOf s) with
  | some p => some (p, o)
  | none => s
noncomputable def bestF (T : Tool) : Option (Int × List Int) := (ordersM T).foldl (bstep T) none
structure Sched where
  period : Int
  order : List Int
  starts : List Int
  proof : List Int
noncomputable def schOf (T : Tool) (x : Int × List Int) : Sched :=
  ⟨x.1, x.2, (lvM (x.2.length : Int) (arcsL T x.2) x.1).1, if x.1 > 1 then (lvM (x.2.length : Int) (arcsL T x.2) (x.1 - 1)).2.1 else []⟩
noncomputable def bestM (T : Tool) : Option Sched := (bestF T).map (schOf T)
def schA (s : Sched) : AV := .agg [.int .i64 s.period, slA 1 (intsA s.order), slA 1 (intsA s.starts), slA 1 (intsA s.proof)]
def zeroS : Sched := ⟨0, [], [], []⟩
def bestT (r : Option Sched) : AV := .tup [schA (r.getD zeroS), .int .i64 (if r.isSome then 0 else 130)]
/-- what is known under way -/
def sOk (T : Tool) (s : Option (Int × List Int)) : Prop := ∀ x, s = some x → 1 ≤ x.1 ∧ x.1 ≤ 1000000 ∧ x.2 ∈ ordersM T
theorem sm_some {n : Nat} {l : List CArc} {hi r : Int} (hp : isPer hi) (h : smM (n : Int) l 1 hi = some r) : 1 ≤ r ∧ r ≤ hi ∧ Ready n l r ∧ ¬ Cy.Pos l r ∧ ∀ q, 1 ≤ q → q < r → Cy.Pos l q := by
  unfold smM at h
  rw [if_pos hp, Int.toNat_natCast] at h
  exact (Cy.smL_spec (n := n) (l := l) hp (hi - 1 + 2).toNat 1 (by omega)).1 r h
theorem sm_none {n : Nat} {l : List CArc} {hi : Int} (hp : isPer hi) (hv : ValidA n l) (h : smM (n : Int) l 1 hi = none) : ∀ q, 1 ≤ q → q ≤ hi → Cy.Pos l q := by
  unfold smM at h
  rw [if_pos hp, Int.toNat_natCast] at h
  exact (Cy.smL_spec (n := n) (l := l) hp (hi - 1 + 2).toNat 1 (by omega)).2 h ⟨hv, by unfold isPer; omega⟩
theorem bstep_ok {T : Tool} {s : Option (Int × List Int)} (h : sOk T s) {o : List Int} (hO : o ∈ ordersM T) : sOk T (bstep T s o) := by
  have hper : isPer (hiOf s) := by
    unfold hiOf isPer
    cases s with
    | none => simp
    | some x => have := h x rfl; simp only; omega
  unfold bstep
  cases hm : smM (o.length : Int) (arcsL T o) 1 (hiOf s) with
  | none => exact h
  | some p =>
    obtain ⟨h1, h2, _⟩ := sm_some hper hm
    intro x hx
    injection hx with hx; subst hx
    exact ⟨h1, by unfold isPer at hper; simp only; omega, hO⟩
theorem bstep_one {T : Tool} {o q : List Int} : bstep T (some (1, o)) q = some (1, o) := by
  unfold bstep
  have hp : isPer 0 := by unfold isPer; omega
  cases hm : smM (q.length : Int) (arcsL T q) 1 ((1 : Int) - 1) with
  | none => rfl
  | some p =>
    obtain ⟨h1, h2, _⟩ := sm_some (hi := 0) hp hm
    omega
theorem fold_one {T : Tool} {o : List Int} : ∀ l : List (List Int), l.foldl (bstep T) (some (1, o)) = some (1, o)
  | [] => rfl
  | q :: l => by rw [List.foldl_cons, bstep_one, fold_one l]
theorem fold_ok {T : Tool} : ∀ (l : List (List Int)) (s : Option (Int × List Int)), (∀ o ∈ l, o ∈ ordersM T) → sOk T s → sOk T (l.foldl (bstep T) s)
  | [], _, _, h => h
  | q :: l, s, hl, h => fold_ok l _ (fun o ho => hl o (by simp [ho])) (bstep_ok h (hl q (by simp)))

/-! ### the loop over the orders -/
noncomputable def fs22 : List (FuncId × HModel) := [(14, pureFH 4 M14), (19, pureFH 4 M19), (28, pureH 4 Cy.M23), (31, Cy.H14)]
@[simp] theorem fs22_14 : lookM fs22 14 = some (pureFH 4 M14) := rfl
@[simp] theorem fs22_19 : lookM fs22 19 = some (pureFH 4 M19) := rfl
@[simp] theorem fs22_28 : lookM fs22 28 = some (pureH 4 Cy.M23) := rfl
@[simp] theorem fs22_31 : lookM fs22 31 = some Cy.H14 := rfl
theorem sound22 : ∀ f M, lookM fs22 f = some M → FnSpecY Try.prog GC f M := lookM_cons (FnSpecY.of_pureF spec14 4) (lookM_cons (FnSpecY.of_pureF spec19 4) (lookM_cons (FnSpecY.of_pure Cy.spec23 4) (lookM_cons Cy.spec14 lookM_nil)))
def zA : AV := .agg [.int .i64 0, .nilS, .nilS, .nilS]
def bsA (s : Option (Int × List Int)) : AV := match s with | none => .agg [.int .i64 0, .nilS, .nilS, .nilS] | some x => .agg [.int .i64 x.1, slA 1 (intsA x.2), .nilS, .nilS]
def bsV (T : Tool) (s : Option (Int × List Int)) : AV := match s with | none => .nilS | some x => arcsV (arcsL T x.2)
def R22 (A : Arena) (T : Tool) (chv : AV) (s : Option (Int × List Int)) : Arena := A ++ [.row 5 false [toolA T chv], .row 4 false [zA], .row 4 false [bsA s]]
theorem R22_0 (A : Arena) (T : Tool) (chv : AV) (s : Option (Int × List Int)) : (R22 A T chv s)[A.length]? = some (.row 5 false [toolA T chv]) := by simp [R22]
theorem R22_1 (A : Arena) (T : Tool) (chv : AV) (s : Option (Int × List Int)) : (R22 A T chv s)[A.length + 1]? = some (.row 4 false [zA]) := by simp [R22]
theorem R22_2 (A : Arena) (T : Tool) (chv : AV) (s : Option (Int × List Int)) : (R22 A T chv s)[A.length + 2]? = some (.row 4 false [bsA s]) := by simp [R22]
theorem R22_set (A : Arena) (T : Tool) (chv : AV) (s s' : Option (Int × List Int)) : (R22 A T chv s).set (A.length + 2) (.row 4 false [bsA s']) = R22 A T chv s' := by
  unfold R22
  rw [List.set_append_right _ _ (by omega), show A.length + 2 - A.length = 2 by omega]
  rfl
def pOf (s : Option (Int × List Int)) : Int := match s with | none => 0 | some x => x.1
theorem evGtrI (a b : Int) : evBin .gtr (.int .i64 a) (.int .i64 b) = some (.bool (decide (a > b))) := by simp [evBin]
theorem slA_form (xs : List Int) : (slA 1 (intsA xs)).solid = true ∧ cellsOf (slA 1 (intsA xs)) = [slA 1 (intsA xs)] := by
  cases xs <;> exact ⟨rfl, rfl⟩
set_option maxRecDepth 100000 in
set_option maxHeartbeats 4000000 in
theorem round22 {A : Arena} {T : Tool} {chv chF : AV} (hcv : SlA 2 (T.ch.map chA) chF) (hz : ∀ X, frz (A ++ X) 4 (toolA T chv) = toolA T chF) {s : Option (Int × List Int)} (hs : sOk T s) {i : Nat} (hi : i < (ordersM T).length) :
    (hiOf s < 1 → ∃ d6 d7 d8 : AV, run (envOf GC fs22) 300 [.code lp22x0] (st22x0 (.ptr A.length 0 0) (.ptr (A.length + 1) 0 0) (.ptr (A.length + 2) 0 0) (bsV T s) (ordA (ordersM T)) (.int .i64 ((ordersM T).length : Int)) (.int .i64 (i : Int))) (R22 A T chv s) =
      some (.exit 0 [.undef, .ptr A.length 0 0, .ptr (A.length + 1) 0 0, .undef, .ptr (A.length + 2) 0 0, bsV T s, d6, d7, d8, .undef, .undef, ordA (ordersM T), .int .i64 ((ordersM T).length : Int), .int .i64 (i : Int), .bool true, .bool true, .bool true, .undef, .undef, .undef] (R22 A T chv s))) ∧
    (¬ hiOf s < 1 → run (envOf GC fs22) 300 [.code lp22x0] (st22x0 (.ptr A.length 0 0) (.ptr (A.length + 1) 0 0) (.ptr (A.length + 2) 0 0) (bsV T s) (ordA (ordersM T)) (.int .i64 ((ordersM T).length : Int)) (.int .i64 (i : Int))) (R22 A T chv s) =
      some (.normal (st22x0 (.ptr A.length 0 0) (.ptr (A.length + 1) 0 0) (.ptr (A.length + 2) 0 0) (bsV T (bstep T s (ordersM T)[i])) (ordA (ordersM T)) (.int .i64 ((ordersM T).length : Int)) (.int .i64 ((i + 1 : Nat) : Int))) (R22 A T chv (bstep T s (ordersM T)[i])))) := by
  obtain ⟨o, ho⟩ : ∃ o, o = (ordersM T)[i] := ⟨_, rfl⟩
  have hO : o ∈ ordersM T := by rw [ho]; exact List.getElem_mem hi
  obtain ⟨hv, hol, _, _⟩ := orders_mem hO
  have hhi : hiOf s ≤ 1000000 ∧ 0 ≤ hiOf s := by
    unfold hiOf
    cases s with
    | none => simp
    | some x => have := hs x rfl; simp only; omega
  have hb := slA_holds 1 ((ordersM T).map fun l => slA 1 (intsA l))
  rw [show slA 1 ((ordersM T).map fun l => slA 1 (intsA l)) = ordA (ordersM T) from rfl] at hb
  obtain ⟨q1, q2⟩ := slA_form o
  have he : ((ordersM T).map fun l => slA 1 (intsA l))[i]? = some (slA 1 (intsA o)) := by simp [hi, ho]
  have x1 := fun A => hb.index1 (A := A) he q1 q2 .i64
  have hos := slA_holds 1 (intsA o)
  have hlo := hos.len
  rw [intsA_len] at hlo
  have m19 := M19_eq (T := T) hcv (by have := hv.2.2.2.1; omega) hos
  rw [arcsM_some hO] at m19
  have m19 : M19 [toolA T chF, slA 1 (intsA o)] = some (.tup [arcsV (arcsL T o), .int .i64 0]) := m19
  have m23 : ∀ hi, Cy.M23 [.int .i64 (o.length : Int), arcsV (arcsL T o), .int .i64 1, .int .i64 hi] = some (smT (smM (o.length : Int) (arcsL T o) 1 hi)) := fun hi => by
    simp only [Cy.M23, arcsV_of hO, Option.map_some]
  have m23 := m23 (hiOf s)
  have hbs : bstep T s o = match smM (o.length : Int) (arcsL T o) 1 (hiOf s) with | some p => some (p, o) | none => s := rfl
  rw [← ho, hbs]
  have b0 := lt_nat i (ordersM T).length .i64
  rw [decide_eq_true hi] at b0
  have b1 := add1_nat i (by have := orders_len T; omega)
  have b2 := evGtrI (pOf s) 0
  have b3 : evBin .sub (.int .i64 (pOf s)) (.int .i64 1) = some (.int .i64 (pOf s - 1)) := evSubI (by
    unfold pOf
    cases s with
    | none => simp
    | some x => have := hs x rfl; simp only; omega)
  have hpp : (pOf s > 0 → hiOf s = pOf s - 1) ∧ (¬ pOf s > 0 → hiOf s = 1000000) := by
    unfold pOf hiOf
    cases s with
    | none => simp
    | some x => have := hs x rfl; simp only; exact ⟨fun _ => trivial, fun h => by omega⟩
  have b4 := evLssI (hiOf s) 1
  have ft : frz (R22 A T chv s) 4 (toolA T chv) = toolA T chF := hz _
  have fo : ∀ A n, frz A n (slA 1 (intsA o)) = slA 1 (intsA o) := fun A n => hos.frz n
  have fa : ∀ A n, frz A n (arcsV (arcsL T o)) = arcsV (arcsL T o) := fun A n => (slA_holds 4 _).frz n
  have na : noRefB 4 (arcsV (arcsL T o)) = true := (slA_holds 4 _).noRef 4
  have lt : evLoad true 5 (R22 A T chv s) (.ptr A.length 0 0) = some (toolA T chv) := by simp [evLoad, R22_0, toolA]
  have f0 : evFieldAddr 0 (R22 A T chv s) (.ptr (A.length + 2) 0 0) = some (.ptr (A.length + 2) 0 0) := by simp [evFieldAddr, R22_2]
  have l0 : evLoad false 1 (R22 A T chv s) (.ptr (A.length + 2) 0 0) = some (.int .i64 (pOf s)) := by
    cases s <;> simp [evLoad, R22_2, bsA, pOf, loadElem_part]
  have st : ∀ p, evStore 4 (R22 A T chv s) (.ptr (A.length + 2) 0 0) (.agg [.int .i64 p, slA 1 (intsA o), .nilS, .nilS]) = some (R22 A T chv (some (p, o))) := fun p => by
    rw [← R22_set A T chv s (some (p, o))]
    simp [R22_2, evStore, storeElem, bsA]
  have fl : ∀ p, fillA [.int .i64 0, .nilS, .nilS, .nilS] [(0, (1, .int .i64 p)), (1, (1, slA 1 (intsA o)))] = some [.int .i64 p, slA 1 (intsA o), .nilS, .nilS] := fun p => by
    have c1 : cellsOf (AV.int .i64 p) = [.int .i64 p] := rfl
    have c2 : (AV.int .i64 p).solid = true := rfl
    simp [fillA, q1, q2, c1, c2, -cellsOf, -AV.solid]
  have fl2 : ∀ x, fillA [.int .i64 0, .nilS, .nilS, .nilS] x = fillA [.int .i64 0, .nilS, .nilS, .nilS] x := fun _ => rfl
  obtain ⟨W, hW⟩ : ∃ W, W = slA 1 (intsA o) := ⟨_, rfl⟩
  rw [← hW] at x1 hlo m19 fo st fl
  have hbv : ∀ p, bsV T (some (p, o)) = arcsV (arcsL T o) := fun _ => rfl
  obtain ⟨sm, hsm⟩ : ∃ sm, sm = smM (o.length : Int) (arcsL T o) 1 (hiOf s) := ⟨_, rfl⟩
  rw [← hsm] at m23 ⊢
  obtain ⟨V, hV⟩ : ∃ V, V = arcsV (arcsL T o) := ⟨_, rfl⟩
  rw [← hV] at m19 m23 fa na
  simp only [← hV] at hbv
  obtain ⟨tF, htF⟩ : ∃ t, t = toolA T chF := ⟨_, rfl⟩
  rw [← htF] at m19 ft
  obtain ⟨t, ht⟩ : ∃ t, t = toolA T chv := ⟨_, rfl⟩
  rw [← ht] at ft lt
  obtain ⟨h, hh⟩ : ∃ h, h = hiOf s := ⟨_, rfl⟩
  rw [← hh] at m23 b4 hpp ⊢
  obtain ⟨p, hp⟩ : ∃ h, h = pOf s := ⟨_, rfl⟩
  rw [← hp] at b2 b3 hpp l0
  obtain ⟨i1, hi1⟩ : ∃ n, n = i + 1 := ⟨_, rfl⟩
  rw [← hi1] at b1 ⊢
  obtain ⟨Q, hQ⟩ : ∃ Q, Q = ordA (ordersM T) := ⟨_, rfl⟩
  rw [← hQ] at x1 ⊢
  obtain ⟨A0, hA0⟩ : ∃ X, X = R22 A T chv s := ⟨_, rfl⟩
  rw [← hA0] at lt f0 l0 st ft ⊢
  obtain ⟨n0, hn0⟩ : ∃ n, n = A.length := ⟨_, rfl⟩
  obtain ⟨n1, hn1⟩ : ∃ n, n = A.length + 1 := ⟨_, rfl⟩
  obtain ⟨n2, hn2⟩ : ∃ n, n = A.length + 2 := ⟨_, rfl⟩
  rw [← hn2] at f0 l0 st
  rw [← hn0] at lt
  rw [← hn1, ← hn2, ← hn0]
  obtain ⟨U, hU⟩ : ∃ U, U = bsV T s := ⟨_, rfl⟩
  rw [← hU]
  refine ⟨fun h1 => ⟨W, V, .int .i64 h, ?_⟩, fun h1 => ?_⟩
  · have hp0 : p > 0 := by
      by_cases hp0 : p > 0
      · exact hp0
      · have := hpp.2 hp0; omega
    rw [decide_eq_true hp0] at b2
    rw [← hpp.1 hp0] at b3
    rw [decide_eq_true h1] at b4
    simp [lp22x0, x1, lt, ft, fo, m19, f0, l0, b0, b2, b3, b4, -evBin, -evLoad, -evFieldAddr, -evIndexSl, -frz]
  · rw [decide_eq_false h1] at b4
    by_cases hp0 : p > 0
    · rw [decide_eq_true hp0] at b2
      rw [← hpp.1 hp0] at b3
      cases sm with
      | none =>
        simp only [← hU, ← hA0]
        simp [lp22x0, x1, lt, ft, fo, fa, frz_i, na, smT, m19, m23, hlo, f0, l0, b0, b1, b2, b3, b4, -evBin, -evLoad, -evFieldAddr, -evIndexSl, -evLenSl, -frz]
      | some r => simp [lp22x0, x1, lt, ft, fo, fa, frz_i, na, smT, m19, m23, hlo, f0, l0, b0, b1, b2, b3, b4, st, fl, hbv, -evBin, -evLoad, -evStore, -evFieldAddr, -evIndexSl, -evLenSl, -frz, -fillA]
    · rw [decide_eq_false hp0] at b2
      obtain rfl := hpp.2 hp0
      cases sm with
      | none =>
        simp only [← hU, ← hA0]
        simp [lp22x0, x1, lt, ft, fo, fa, frz_i, na, smT, m19, m23, hlo, f0, l0, b0, b1, b2, b4, -evBin, -evLoad, -evFieldAddr, -evIndexSl, -evLenSl, -frz]
      | some r => simp [lp22x0, x1, lt, ft, fo, fa, frz_i, na, smT, m19, m23, hlo, f0, l0, b0, b1, b2, b4, st, fl, hbv, -evBin, -evLoad, -evStore, -evFieldAddr, -evIndexSl, -evLenSl, -frz, -fillA]
end Go.Proofs.Ytemklhljjaniaaa
/-
  Cluster: Best as a whole; Check.
-/
namespace Go.Proofs.Ytemklhljjaniaaa
open Go
open Cy (GC geq0 idxZ idxZ_some idxZ_none idxZ_any frz_i frz_b intsA_len CArc arcA arcsOf isPer ValidA okA smM smT lvM lvT arcsOf_slA VerOk RefOk Ready slA_cases)

theorem loop22 {A : Arena} {T : Tool} {chv chF : AV} (hcv : SlA 2 (T.ch.map chA) chF) (hz : ∀ X, frz (A ++ X) 4 (toolA T chv) = toolA T chF) : ∀ (c i : Nat) (s : Option (Int × List Int)) (m : Nat), i + c = (ordersM T).length → sOk T s → c < m →
    ∃ d6 d7 d8 d13 d14 d15 d16 : AV, iter (evC (envOf GC fs22) 300 lp22x0) mask22x0 m (st22x0 (.ptr A.length 0 0) (.ptr (A.length + 1) 0 0) (.ptr (A.length + 2) 0 0) (bsV T s) (ordA (ordersM T)) (.int .i64 ((ordersM T).length : Int)) (.int .i64 (i : Int))) (R22 A T chv s) =
      some (.exit 0 [.undef, .ptr A.length 0 0, .ptr (A.length + 1) 0 0, .undef, .ptr (A.length + 2) 0 0, bsV T (((ordersM T).drop i).foldl (bstep T) s), d6, d7, d8, .undef, .undef, ordA (ordersM T), .int .i64 ((ordersM T).length : Int), d13, d14, d15, d16, .undef, .undef, .undef] (R22 A T chv (((ordersM T).drop i).foldl (bstep T) s))) := by
  intro c
  induction c with
  | zero =>
    intro i s m hi hs hm
    obtain ⟨m, rfl⟩ : ∃ j, m = j + 1 := ⟨m - 1, by omega⟩
    obtain rfl : i = (ordersM T).length := by omega
    rw [List.drop_length]
    refine ⟨.undef, .undef, .undef, .int .i64 ((ordersM T).length : Int), .bool false, .undef, .undef, ?_⟩
    have b0 := lt_nat (ordersM T).length (ordersM T).length .i64
    rw [decide_eq_false (by omega)] at b0
    rw [iter_succ, cl22x0]
    simp [lp22x0, b0, -evBin]
  | succ c ih =>
    intro i s m hi hs hm
    obtain ⟨m, rfl⟩ : ∃ j, m = j + 1 := ⟨m - 1, by omega⟩
    have hil : i < (ordersM T).length := by omega
    obtain ⟨r1, r2⟩ := round22 hcv hz hs hil
    rw [List.drop_eq_getElem_cons hil, List.foldl_cons]
    by_cases h1 : hiOf s < 1
    · obtain ⟨d6, d7, d8, hr⟩ := r1 h1
      have hone : ∃ o, s = some (1, o) := by
        cases s with
        | none => unfold hiOf at h1; simp at h1
        | some x =>
          have := hs x rfl
          unfold hiOf at h1
          simp only at h1
          obtain ⟨p, o⟩ := x
          exact ⟨o, by simp only at this h1; rw [show p = 1 by omega]⟩
      obtain ⟨o, rfl⟩ := hone
      rw [bstep_one, fold_one]
      refine ⟨d6, d7, d8, .int .i64 (i : Int), .bool true, .bool true, .bool true, ?_⟩
      rw [iter_succ, cl22x0, hr]
    · have hr := r2 h1
      obtain ⟨d6, d7, d8, d13, d14, d15, d16, h2⟩ := ih (i + 1) _ m (by omega) (bstep_ok hs (List.getElem_mem hil)) (by omega)
      refine ⟨d6, d7, d8, d13, d14, d15, d16, ?_⟩
      rw [iter_succ, cl22x0, hr]
      exact h2

theorem best_ok (T : Tool) : sOk T (bestF T) := fold_ok _ _ (fun _ h => h) (fun x h => by cases h)
/-- Best's own rows behind it -/
def E22 (A : Arena) (T : Tool) (chv : AV) (r : Option Sched) : Arena := A ++ [.row 5 false [toolA T chv], .row 4 false [match r with | none => zA | some s => schA s], .row 4 false [match r with | none => zA | some s => schA s]]
noncomputable def H22 : HModel := fun _ => evFun (envOf GC fs22) 300 mf22
theorem spec22H : FnSpecY Try.prog GC 22 H22 := (evFun_sound (envOf_sound sound22) rfl at22 comp22 PureIn.nil).y
set_option maxRecDepth 100000 in
set_option maxHeartbeats 4000000 in
theorem H22_eq (h : Handler) {A : Arena} {T : Tool} {chv chF : AV} (hcv : SlA 2 (T.ch.map chA) chF) (hz : ∀ X, frz (A ++ X) 4 (toolA T chv) = toolA T chF) (hl : T.ch.length ≤ 200) : H22 h [toolA T chv] A = some (bestT (bestM T), E22 A T chv (bestM T)) := by
  have m14 := M14_eq hcv hl
  have hlen : evLenSl (ordA (ordersM T)) = some (.int .i64 ((ordersM T).length : Int)) := by
    have := (slA_holds 1 ((ordersM T).map fun l => slA 1 (intsA l))).len
    rwa [List.length_map] at this
  obtain ⟨d6, d7, d8, d13, d14, d15, d16, lp⟩ := loop22 hcv hz (ordersM T).length 0 none 300 (by omega) (fun x h => by cases h) (by have := orders_len T; omega)
  rw [List.drop_zero, show (ordersM T).foldl (bstep T) none = bestF T from rfl] at lp
  have hok := best_ok T
  obtain ⟨A0, hA0⟩ : ∃ X, X = A ++ [.row 5 false [toolA T chv], .row 4 false [zA], .row 4 false [zA]] := ⟨_, rfl⟩
  rw [show R22 A T chv none = A0 from hA0.symm, show bsV T none = .nilS from rfl, show ((0 : Nat) : Int) = 0 from rfl] at lp
  have lt : evLoad true 5 A0 (.ptr A.length 0 0) = some (toolA T chv) := by rw [hA0]; simp [evLoad, toolA]
  have ft : frz A0 4 (toolA T chv) = toolA T chF := by rw [hA0]; exact hz _
  have bx0 : evBox 5 (toolA T chv) A = some (.ptr A.length 0 0, A ++ [.row 5 false [toolA T chv]]) := rfl
  have ct : (cellsOf (toolA T chv)).length = 5 := rfl
  have bx1 : evBox 4 (.agg [.int .i64 0, .nilS, .nilS, .nilS]) (A ++ [.row 5 false [toolA T chv]]) = some (.ptr (A.length + 1) 0 0, A ++ [.row 5 false [toolA T chv], .row 4 false [zA]]) := by simp [evBox, zA]
  have bx2 : evBox 4 (.agg [.int .i64 0, .nilS, .nilS, .nilS]) (A ++ [.row 5 false [toolA T chv], .row 4 false [zA]]) = some (.ptr (A.length + 2) 0 0, A0) := by rw [hA0]; simp [evBox, zA]
  have hbm : bestM T = (bestF T).map (schOf T) := rfl
  rw [hbm]
  obtain ⟨s, hs⟩ : ∃ s, s = bestF T := ⟨_, rfl⟩
  rw [← hs] at lp hok ⊢
  obtain ⟨X1, hX1⟩ : ∃ X, X = A ++ [Ent.row 5 false [toolA T chv]] := ⟨_, rfl⟩
  obtain ⟨X2, hX2⟩ : ∃ X, X = A ++ [Ent.row 5 false [toolA T chv], .row 4 false [zA]] := ⟨_, rfl⟩
  rw [← hX1] at bx0 bx1
  rw [← hX2] at bx1 bx2
  obtain ⟨t, ht⟩ : ∃ t, t = toolA T chv := ⟨_, rfl⟩
  obtain ⟨tF, htF⟩ : ∃ t, t = toolA T chF := ⟨_, rfl⟩
  obtain ⟨Q, hQ⟩ : ∃ Q, Q = ordA (ordersM T) := ⟨_, rfl⟩
  obtain ⟨L, hL⟩ : ∃ Q, Q = ((ordersM T).length : Int) := ⟨_, rfl⟩
  have f0 : evFieldAddr 0 (R22 A T chv s) (.ptr (A.length + 2) 0 0) = some (.ptr (A.length + 2) 0 0) := by simp [evFieldAddr, R22_2]
  have l0 : evLoad false 1 (R22 A T chv s) (.ptr (A.length + 2) 0 0) = some (.int .i64 (pOf s)) := by cases s <;> simp [evLoad, R22_2, bsA, pOf, loadElem_part]
  rw [← htF] at m14 ft
  rw [← ht] at lt bx0 ct ft ⊢
  rw [← hQ] at m14 hlen lp
  rw [← hL] at hlen lp
  unfold H22
  rw [evFun_run _ _ rfl]
  cases s with
  | none =>
    have b1 := evEqlI 0 0
    rw [decide_eq_true rfl] at b1
    have e1 : E22 A T chv none = R22 A T chv none := rfl
    have st : evStore 4 (R22 A T chv none) (.ptr (A.length + 1) 0 0) (.agg [.int .i64 0, .nilS, .nilS, .nilS]) = some (R22 A T chv none) := by
      have : (R22 A T chv none).set (A.length + 1) (.row 4 false [zA]) = R22 A T chv none := by
        unfold R22
        rw [List.set_append_right _ _ (by omega), show A.length + 1 - A.length = 1 by omega]
        rfl
      conv => rhs; rw [← this]
      simp [evStore, R22_1, storeElem, zA]
    have l4 : evLoad true 4 (R22 A T chv none) (.ptr (A.length + 1) 0 0) = some (.agg [.int .i64 0, .nilS, .nilS, .nilS]) := by simp [evLoad, R22_1, zA]
    rw [show (Option.map (schOf T) none) = none from rfl, e1]
    rw [show bestT none = .tup [.agg [.int .i64 0, .nilS, .nilS, .nilS], .int .i64 130] from rfl]
    obtain ⟨A1, hA1⟩ : ∃ X, X = R22 A T chv none := ⟨_, rfl⟩
    rw [← hA1] at lp f0 l0 st l4 ⊢
    have l0 : evLoad false 1 A1 (.ptr (A.length + 2) 0 0) = some (.int .i64 0) := l0
    obtain ⟨n0, hn0⟩ : ∃ n, n = A.length := ⟨_, rfl⟩
    obtain ⟨n1, hn1⟩ : ∃ n, n = A.length + 1 := ⟨_, rfl⟩
    obtain ⟨n2, hn2⟩ : ∃ n, n = A.length + 2 := ⟨_, rfl⟩
    rw [← hn2] at lp f0 l0 bx2
    rw [← hn1] at lp st l4 bx1
    rw [← hn0] at lp lt bx0
    simp [mf22, bx0, bx1, bx2, ct, lt, m14, ft, hlen, go22x0 lp, f0, l0, b1, st, l4, -evBox, -evLoad, -evStore, -evFieldAddr, -evLenSl, -frz, -cellsOf, -evBin]
  | some x =>
    obtain ⟨p, o⟩ := x
    obtain ⟨hp1, hp2, hO⟩ := hok _ rfl
    simp only at hp1 hp2 hO
    have hos := slA_holds 1 (intsA o)
    have hlo := hos.len
    rw [intsA_len] at hlo
    obtain ⟨q1, q2⟩ := slA_form o
    have hv := arcsV_of hO
    have h14 := fun A => Cy.H14_eq (fun _ _ _ => none) (A := A) (show frz A 4 (arcsV (arcsL T o)) = arcsV (arcsL T o) from (slA_holds 4 ((arcsL T o).map arcA)).frz 4) hv (o.length : Int)
    obtain ⟨st, hst⟩ : ∃ st, st = (lvM (o.length : Int) (arcsL T o) p).1 := ⟨_, rfl⟩
    have hl1 : lvT (lvM (o.length : Int) (arcsL T o) p) = .tup [slA 1 (intsA st), slA 1 (intsA (lvM (o.length : Int) (arcsL T o) p).2.1), .bool (lvM (o.length : Int) (arcsL T o) p).2.2] := by rw [hst]; rfl
    obtain ⟨s1, s2⟩ := slA_form st
    obtain ⟨RA, hRA⟩ : ∃ R : List Int → List Int → Arena, ∀ a b, R a b = A ++ [.row 5 false [toolA T chv], .row 4 false [zA], .row 4 false [.agg [.int .i64 p, slA 1 (intsA o), slA 1 (intsA a), slA 1 (intsA b)]]] := ⟨_, fun _ _ => rfl⟩
    have hR0 : R22 A T chv (some (p, o)) = RA [] [] := by rw [hRA]; rfl
    rw [hR0] at lp f0 l0
    have l0 : evLoad false 1 (RA [] []) (.ptr (A.length + 2) 0 0) = some (.int .i64 p) := l0
    have ra1 : ∀ a b, (RA a b)[A.length + 1]? = some (.row 4 false [zA]) := fun a b => by rw [hRA]; simp
    have ra2 : ∀ a b, (RA a b)[A.length + 2]? = some (.row 4 false [.agg [.int .i64 p, slA 1 (intsA o), slA 1 (intsA a), slA 1 (intsA b)]]) := fun a b => by rw [hRA]; simp
    have fa : ∀ j a b, j < 4 → evFieldAddr j (RA a b) (.ptr (A.length + 2) 0 0) = some (.ptr (A.length + 2) 0 j) := fun j a b hj => by simp [evFieldAddr, ra2, hj]
    have la0 : ∀ a b, evLoad false 1 (RA a b) (.ptr (A.length + 2) 0 0) = some (.int .i64 p) := fun a b => by simp [evLoad, ra2, loadElem_part]
    have la1 : ∀ a b, evLoad false 1 (RA a b) (.ptr (A.length + 2) 0 1) = some (slA 1 (intsA o)) := fun a b => by simp [evLoad, ra2, loadElem_part]
    have lall : ∀ a b, evLoad true 4 (RA a b) (.ptr (A.length + 2) 0 0) = some (.agg [.int .i64 p, slA 1 (intsA o), slA 1 (intsA a), slA 1 (intsA b)]) := fun a b => by simp [evLoad, ra2]
    have rset : ∀ a b a' b', (RA a b).set (A.length + 2) (.row 4 false [.agg [.int .i64 p, slA 1 (intsA o), slA 1 (intsA a'), slA 1 (intsA b')]]) = RA a' b' := fun a b a' b' => by
      rw [hRA, hRA, List.set_append_right _ _ (by omega), show A.length + 2 - A.length = 2 by omega]
      rfl
    have st2 : ∀ a, evStore 1 (RA [] []) (.ptr (A.length + 2) 0 2) (slA 1 (intsA a)) = some (RA a []) := fun a => by
      obtain ⟨z1, z2⟩ := slA_form a
      rw [← rset [] [] a []]
      simp [evStore, ra2, storeElem, z1, z2, -cellsOf, -AV.solid]
    have st3 : ∀ a b, evStore 1 (RA a []) (.ptr (A.length + 2) 0 3) (slA 1 (intsA b)) = some (RA a b) := fun a b => by
      obtain ⟨z1, z2⟩ := slA_form b
      rw [← rset a [] a b]
      simp [evStore, ra2, storeElem, z1, z2, -cellsOf, -AV.solid]
    obtain ⟨RB, hRB⟩ : ∃ R : List Int → List Int → Arena, ∀ a b, R a b = E22 A T chv (some ⟨p, o, a, b⟩) := ⟨_, fun _ _ => rfl⟩
    have stB : ∀ a b, evStore 4 (RA a b) (.ptr (A.length + 1) 0 0) (.agg [.int .i64 p, slA 1 (intsA o), slA 1 (intsA a), slA 1 (intsA b)]) = some (RB a b) := fun a b => by
      have : (RA a b).set (A.length + 1) (.row 4 false [.agg [.int .i64 p, slA 1 (intsA o), slA 1 (intsA a), slA 1 (intsA b)]]) = RB a b := by
        rw [hRA, hRB, List.set_append_right _ _ (by omega), show A.length + 1 - A.length = 1 by omega]
        rfl
      rw [← this]
      simp [evStore, ra1, storeElem, zA]
    have lB : ∀ a b, evLoad true 4 (RB a b) (.ptr (A.length + 1) 0 0) = some (.agg [.int .i64 p, slA 1 (intsA o), slA 1 (intsA a), slA 1 (intsA b)]) := fun a b => by
      have : (RB a b)[A.length + 1]? = some (.row 4 false [.agg [.int .i64 p, slA 1 (intsA o), slA 1 (intsA a), slA 1 (intsA b)]]) := by rw [hRB]; simp [E22, schA]
      simp [evLoad, this]
    have b1 := evEqlI p 0
    rw [decide_eq_false (by omega)] at b1
    have b2 := evGtrI p 1
    have b3 : evBin .sub (.int .i64 p) (.int .i64 1) = some (.int .i64 (p - 1)) := evSubI (by omega)
    have hsb : ∀ pr, schOf T (p, o) = ⟨p, o, st, pr⟩ ↔ pr = (if p > 1 then (lvM (o.length : Int) (arcsL T o) (p - 1)).2.1 else []) := fun pr => by
      unfold schOf
      simp only [← hst]
      constructor
      · intro h; injection h with _ _ _ h; exact h.symm
      · intro h; rw [h]
    have lp : iter (evC (envOf GC fs22) 300 lp22x0) mask22x0 300 (st22x0 (.ptr A.length 0 0) (.ptr (A.length + 1) 0 0) (.ptr (A.length + 2) 0 0) .nilS Q (.int .i64 L) (.int .i64 0)) A0 =
        some (.exit 0 [.undef, .ptr A.length 0 0, .ptr (A.length + 1) 0 0, .undef, .ptr (A.length + 2) 0 0, arcsV (arcsL T o), d6, d7, d8, .undef, .undef, Q, .int .i64 L, d13, d14, d15, d16, .undef, .undef, .undef] (RA [] [])) := lp
    have h1 := h14 (RA [] []) p
    rw [hl1] at h1
    have h2 := h14 (RA st []) (p - 1)
    obtain ⟨pr, hpr⟩ : ∃ pr, pr = (lvM (o.length : Int) (arcsL T o) (p - 1)).2.1 := ⟨_, rfl⟩
    rw [show lvT (lvM (o.length : Int) (arcsL T o) (p - 1)) = .tup [slA 1 (intsA (lvM (o.length : Int) (arcsL T o) (p - 1)).1), slA 1 (intsA pr), .bool (lvM (o.length : Int) (arcsL T o) (p - 1)).2.2] by rw [hpr]; rfl] at h2
    have k5 := st2 st
    have k7 := la0 st []
    have k8 := la1 st []
    have k9 := la1 [] []
    have f1 := fun j => fa j [] []
    have f2 := fun j => fa j st []
    obtain ⟨n0, hn0⟩ : ∃ n, n = A.length := ⟨_, rfl⟩
    obtain ⟨n1, hn1⟩ : ∃ n, n = A.length + 1 := ⟨_, rfl⟩
    obtain ⟨n2, hn2⟩ : ∃ n, n = A.length + 2 := ⟨_, rfl⟩
    rw [← hn2] at lp f0 l0 bx2 k5 k7 k8 k9
    simp only [← hn2] at f1 f2
    rw [← hn1] at lp bx1
    rw [← hn0] at lp lt bx0
    obtain ⟨W, hW⟩ : ∃ W, W = slA 1 (intsA o) := ⟨_, rfl⟩
    obtain ⟨V, hV⟩ : ∃ V, V = arcsV (arcsL T o) := ⟨_, rfl⟩
    rw [← hV] at lp h1 h2
    obtain ⟨B0, hB0⟩ : ∃ A, A = RA [] [] := ⟨_, rfl⟩
    rw [← hB0] at lp f0 l0 k5 k9 h1
    simp only [← hB0] at f1
    obtain ⟨S1, hS1⟩ : ∃ W, W = slA 1 (intsA st) := ⟨_, rfl⟩
    by_cases hp : p > 1
    · rw [decide_eq_true hp] at b2
      have hsc : (Option.map (schOf T) (some (p, o))) = some ⟨p, o, st, pr⟩ := by
        rw [Option.map_some, (hsb pr).2 (by rw [if_pos hp]; exact hpr)]
      rw [hsc, ← hRB]
      rw [show bestT (some ⟨p, o, st, pr⟩) = .tup [.agg [.int .i64 p, slA 1 (intsA o), slA 1 (intsA st), slA 1 (intsA pr)], .int .i64 0] from rfl]
      have k1 := lall st pr
      have k2 := stB st pr
      have k3 := lB st pr
      have k6 := st3 st pr
      rw [← hn2] at k1 k6
      rw [← hn1] at k2 k3
      obtain ⟨B1, hB1⟩ : ∃ A, A = RA st [] := ⟨_, rfl⟩
      rw [← hB1] at k5 k6 k7 k8 h2
      simp only [← hB1] at f2
      obtain ⟨B2, hB2⟩ : ∃ A, A = RA st pr := ⟨_, rfl⟩
      rw [← hB2] at k1 k2 k6
      obtain ⟨B3, hB3⟩ : ∃ A, A = RB st pr := ⟨_, rfl⟩
      rw [← hB3] at k2 k3 ⊢
      obtain ⟨S2, hS2⟩ : ∃ W, W = slA 1 (intsA pr) := ⟨_, rfl⟩
      rw [← hW] at k1 k2 k3 k8 k9 hlo ⊢
      rw [← hS1] at h1 k1 k2 k3 k5 ⊢
      rw [← hS2] at h2 k1 k2 k3 k6 ⊢
      obtain ⟨p1, hp1⟩ : ∃ q, q = p - 1 := ⟨_, rfl⟩
      rw [← hp1] at h2 b3
      simp [mf22, bx0, bx1, bx2, ct, lt, m14, ft, hlen, go22x0 lp, f0, f1, f2, l0, b1, b2, b3, hlo, h1, h2, k1, k2, k3, k5, k6, k7, k8, k9, -evBox, -evLoad, -evStore, -evFieldAddr, -evLenSl, -frz, -cellsOf, -evBin]
    · rw [decide_eq_false hp] at b2
      have hsc : (Option.map (schOf T) (some (p, o))) = some ⟨p, o, st, []⟩ := by
        rw [Option.map_some, (hsb []).2 (by rw [if_neg hp])]
      rw [hsc, ← hRB]
      rw [show bestT (some ⟨p, o, st, []⟩) = .tup [.agg [.int .i64 p, slA 1 (intsA o), slA 1 (intsA st), slA 1 (intsA [])], .int .i64 0] from rfl]
      have k1 := lall st []
      have k2 := stB st []
      have k3 := lB st []
      rw [← hn2] at k1
      rw [← hn1] at k2 k3
      obtain ⟨B1, hB1⟩ : ∃ A, A = RA st [] := ⟨_, rfl⟩
      rw [← hB1] at k1 k2 k5 k7
      simp only [← hB1] at f2
      obtain ⟨B3, hB3⟩ : ∃ A, A = RB st [] := ⟨_, rfl⟩
      rw [← hB3] at k2 k3 ⊢
      obtain ⟨S2, hS2⟩ : ∃ W, W = slA 1 (intsA []) := ⟨_, rfl⟩
      rw [← hW] at k1 k2 k3 k9 hlo ⊢
      rw [← hS1] at h1 k1 k2 k3 k5 ⊢
      rw [← hS2] at k1 k2 k3 ⊢
      simp [mf22, bx0, bx1, bx2, ct, lt, m14, ft, hlen, go22x0 lp, f0, f1, f2, l0, b1, b2, hlo, h1, k1, k2, k3, k5, k7, k9, -evBox, -evLoad, -evStore, -evFieldAddr, -evLenSl, -frz, -cellsOf, -evBin]
/-- of a tool that nobody writes -/
noncomputable def M22 : PModel := fun args => evP (envOf GC fs22) 300 mf22 4 args
theorem spec22 : PureSpec Try.prog GC 22 M22 := PureSpec.of_ev (E := envOf GC fs22) (envOf_sound sound22) rfl at22 comp22 4 fun _ _ h => ⟨300, h⟩
theorem M22_eq {T : Tool} {chv : AV} (hcv : SlA 2 (T.ch.map chA) chv) (hl : T.ch.length ≤ 200) : M22 [toolA T chv] = some (bestT (bestM T)) := by
  have h := H22_eq (fun _ _ _ => none) (A := []) hcv (fun X => toolA_frz (T := T) (fun A n => hcv.frz (A := A) n) _ 3) hl
  unfold H22 at h
  unfold M22 evP
  rw [h, Option.map_some]
  congr 1
  have k1 := fun A o => (slA_holds 1 (intsA o)).frz (A := A) 2
  unfold bestT
  simp only
  simp [frz, schA, k1]
end Go.Proofs.Ytemklhljjaniaaa
/-
  Cluster: Check.
-/
namespace Go.Proofs.Ytemklhljjaniaaa
open Go
open Cy (GC geq0 idxZ idxZ_some idxZ_none idxZ_any frz_i frz_b intsA_len CArc arcA arcsOf isPer ValidA okA smM smT lvM lvT arcsOf_slA VerOk RefOk Ready slA_cases)

/-- a schedule that is given -/
structure SchV (s : Sched) (ov sv pv : AV) : Prop where
  o : SlA 1 (intsA s.order) ov
  st : SlA 1 (intsA s.starts) sv
  pr : SlA 1 (intsA s.proof) pv
  per : inI s.period
  ol : s.order.length ≤ 9223372036854775807
  stl : s.starts.length ≤ 9223372036854775807
  sti : ∀ z ∈ s.starts, inI z
  prl : s.proof.length ≤ 9223372036854775807
  pri : ∀ z ∈ s.proof, inI z
def Chk (T : Tool) (s : Sched) : Prop := s.order ∈ ordersM T ∧ (1 ≤ s.period ∧ s.period ≤ 1000000) ∧ VerOk (s.order.length : Int) (arcsL T s.order) s.period s.starts ∧
  (if s.period = 1 then s.proof = [] else RefOk (s.order.length : Int) (arcsL T s.order) (s.period - 1) s.proof)
noncomputable def fs26 : List (FuncId × HModel) := [(19, pureFH 4 M19), (32, pureH 4 Cy.M19), (51, pureH 4 Cy.M21)]
@[simp] theorem fs26_19 : lookM fs26 19 = some (pureFH 4 M19) := rfl
@[simp] theorem fs26_32 : lookM fs26 32 = some (pureH 4 Cy.M19) := rfl
@[simp] theorem fs26_51 : lookM fs26 51 = some (pureH 4 Cy.M21) := rfl
theorem sound26 : ∀ f M, lookM fs26 f = some M → FnSpecY Try.prog GC f M := lookM_cons (FnSpecY.of_pureF spec19 4) (lookM_cons (FnSpecY.of_pure Cy.spec19 4) (lookM_cons (FnSpecY.of_pure Cy.spec21 4) lookM_nil))
noncomputable def M26 : PModel := fun args => evP (envOf GC fs26) 0 mf26 4 args
theorem spec26 : PureSpec Try.prog GC 26 M26 := PureSpec.of_ev (E := envOf GC fs26) (envOf_sound sound26) rfl at26 comp26 4 fun _ _ h => ⟨0, h⟩
open Classical in
set_option maxRecDepth 100000 in
set_option maxHeartbeats 4000000 in
theorem M26_eq {T : Tool} {chv : AV} (hcv : SlA 2 (T.ch.map chA) chv) (hl : T.ch.length ≤ 200) {s : Sched} {ov sv pv : AV} (hs : SchV s ov sv pv) :
    M26 [toolA T chv, .agg [.int .i64 s.period, ov, sv, pv]] = some (.bool (decide (Chk T s))) := by
  have m19 := M19_eq hcv hl hs.o
  have ft := fun A => toolA_frz (T := T) (fun A n => hcv.frz (A := A) n) A 3
  have fo : ∀ A n, frz A n ov = ov := fun A n => hs.o.frz n
  have fs : ∀ A n, frz A n sv = sv := fun A n => hs.st.frz n
  have fp : ∀ A n, frz A n pv = pv := fun A n => hs.pr.frz n
  have hlo := hs.o.len
  rw [intsA_len] at hlo
  have hlp := hs.pr.len
  rw [intsA_len] at hlp
  have iv1 : intsOf sv = some s.starts := intsOf_of hs.st hs.stl hs.sti
  have iv2 : intsOf pv = some s.proof := intsOf_of hs.pr hs.prl hs.pri
  obtain ⟨p, o, st, pr⟩ := s
  simp only at m19 hlo hlp iv1 iv2
  have hper := hs.per
  simp only [inI] at hper
  have q1 : ov.solid = true ∧ cellsOf ov = [ov] := by rcases hs.o with ⟨rfl, _⟩ | rfl <;> exact ⟨rfl, rfl⟩
  have q2 : sv.solid = true ∧ cellsOf sv = [sv] := by rcases hs.st with ⟨rfl, _⟩ | rfl <;> exact ⟨rfl, rfl⟩
  have q3 : pv.solid = true ∧ cellsOf pv = [pv] := by rcases hs.pr with ⟨rfl, _⟩ | rfl <;> exact ⟨rfl, rfl⟩
  have bx0 : evBox 5 (toolA T chv) [] = some (.ptr 0 0 0, [.row 5 false [toolA T chv]]) := rfl
  have bx1 : ∀ t, evBox 4 (.agg [.int .i64 p, ov, sv, pv]) [.row 5 false [t]] = some (.ptr 1 0 0, [.row 5 false [t], .row 4 false [.agg [.int .i64 p, ov, sv, pv]]]) := fun t => rfl
  have ct : (cellsOf (toolA T chv)).length = 5 := rfl
  have ca : (cellsOf (.agg [.int .i64 p, ov, sv, pv])).length = 4 := rfl
  obtain ⟨A0, hA0⟩ : ∃ A : Arena, A = [.row 5 false [toolA T chv], .row 4 false [.agg [.int .i64 p, ov, sv, pv]]] := ⟨_, rfl⟩
  have lt : evLoad true 5 A0 (.ptr 0 0 0) = some (toolA T chv) := by rw [hA0]; rfl
  have fa : ∀ j, j < 4 → evFieldAddr j A0 (.ptr 1 0 0) = some (.ptr 1 0 j) := fun j hj => by rw [hA0]; simp [evFieldAddr, hj]
  have l0 : evLoad false 1 A0 (.ptr 1 0 0) = some (.int .i64 p) := by rw [hA0]; rfl
  have l1 : evLoad false 1 A0 (.ptr 1 0 1) = some ov := by rw [hA0]; rfl
  have l2 : evLoad false 1 A0 (.ptr 1 0 2) = some sv := by rw [hA0]; rfl
  have l3 : evLoad false 1 A0 (.ptr 1 0 3) = some pv := by rw [hA0]; rfl
  obtain ⟨t, ht⟩ : ∃ t, t = toolA T chv := ⟨_, rfl⟩
  rw [← ht] at m19 ft bx0 ct lt hA0 ⊢
  have bx1 := bx1 t
  rw [← hA0] at bx1
  unfold M26
  rw [evP_run _ _ rfl]
  by_cases hO : o ∈ ordersM T
  rotate_left
  · rw [decide_eq_false (fun h => hO h.1)]
    have e0 : arcsM T o = none := if_neg hO
    rw [e0] at m19
    have m19 : M19 [t, ov] = some (.tup [.nilS, .int .i64 130]) := m19
    have b1 := evNeqI 130 0
    rw [decide_eq_true (by omega)] at b1
    simp [mf26, bx0, bx1, ct, ca, lt, m19, ft, fo, hlo, fa, l1, b1, -evBox, -evLoad, -evFieldAddr, -evLenSl, -frz, -cellsOf, -evBin, frz_b]
  rw [arcsM_some hO] at m19
  have m19 : M19 [t, ov] = some (.tup [arcsV (arcsL T o), .int .i64 0]) := m19
  have b1 := evNeqI 0 0
  rw [decide_eq_false (by omega)] at b1
  have b2 := evLssI p 1
  by_cases hp1 : p < 1
  · rw [decide_eq_false (fun h => by have := h.2.1.1; simp only at this; omega)]
    rw [decide_eq_true hp1] at b2
    simp [mf26, bx0, bx1, ct, ca, lt, m19, ft, fo, hlo, fa, l0, l1, b1, b2, -evBox, -evLoad, -evFieldAddr, -evLenSl, -frz, -cellsOf, -evBin, frz_b]
  rw [decide_eq_false hp1] at b2
  have b3 := evGtrI p 1000000
  by_cases hp2 : p > 1000000
  · rw [decide_eq_false (fun h => by have := h.2.1.2; simp only at this; omega)]
    rw [decide_eq_true hp2] at b3
    simp [mf26, bx0, bx1, ct, ca, lt, m19, ft, fo, hlo, fa, l0, l1, b1, b2, b3, -evBox, -evLoad, -evFieldAddr, -evLenSl, -frz, -cellsOf, -evBin, frz_b]
  rw [decide_eq_false hp2] at b3
  have mv : Cy.M19 [.int .i64 (o.length : Int), arcsV (arcsL T o), .int .i64 p, sv] = some (.bool (decide (VerOk (o.length : Int) (arcsL T o) p st))) := by
    simp only [Cy.M19, arcsV_of hO, iv1]
  have mr : ∀ p, Cy.M21 [.int .i64 (o.length : Int), arcsV (arcsL T o), .int .i64 p, pv] = some (.bool (decide (RefOk (o.length : Int) (arcsL T o) p pr))) := fun p => by
    simp only [Cy.M21, arcsV_of hO, iv2]
  have fa' : ∀ A n, frz A n (arcsV (arcsL T o)) = arcsV (arcsL T o) := fun A n => (slA_holds 4 _).frz n
  obtain ⟨V, hV⟩ : ∃ V, V = arcsV (arcsL T o) := ⟨_, rfl⟩
  rw [← hV] at m19 mv fa'
  by_cases hver : VerOk (o.length : Int) (arcsL T o) p st
  rotate_left
  · rw [decide_eq_false hver] at mv
    rw [decide_eq_false (fun h => hver h.2.2.1)]
    simp [mf26, bx0, bx1, ct, ca, lt, m19, ft, fo, fs, fa', frz_i, mv, hlo, fa, l0, l1, l2, b1, b2, b3, -evBox, -evLoad, -evFieldAddr, -evLenSl, -frz, -cellsOf, -evBin, frz_b]
  rw [decide_eq_true hver] at mv
  have b4 := evEqlI p 1
  by_cases hp : p = 1
  · rw [decide_eq_true hp] at b4
    have b5 : evBin .eql (.int .i64 (pr.length : Int)) (.int .i64 0) = some (.bool (decide (pr = []))) := by
      rw [evEqlI]
      congr 2
      exact decide_eq_decide.2 ⟨fun h => List.length_eq_zero_iff.1 (by omega), fun h => by rw [h]; rfl⟩
    have hc : Chk T ⟨p, o, st, pr⟩ ↔ pr = [] := by
      constructor
      · intro h
        have := h.2.2.2
        simp only at this
        rwa [if_pos hp] at this
      · intro h
        refine ⟨hO, ⟨by simp only; omega, by simp only; omega⟩, hver, ?_⟩
        simp only
        rw [if_pos hp]; exact h
    rw [decide_eq_decide.2 hc]
    obtain ⟨d, hd⟩ : ∃ d, d = decide (pr = []) := ⟨_, rfl⟩
    rw [← hd] at b5 ⊢
    simp [mf26, bx0, bx1, ct, ca, lt, m19, ft, fo, fs, fa', frz_i, mv, hlo, hlp, fa, l0, l1, l2, l3, b1, b2, b3, b4, b5, frz_b, -evBox, -evLoad, -evFieldAddr, -evLenSl, -frz, -cellsOf, -evBin]
  · rw [decide_eq_false hp] at b4
    have b6 : evBin .sub (.int .i64 p) (.int .i64 1) = some (.int .i64 (p - 1)) := evSubI (by omega)
    have hc : Chk T ⟨p, o, st, pr⟩ ↔ RefOk (o.length : Int) (arcsL T o) (p - 1) pr := by
      constructor
      · intro h
        have := h.2.2.2
        simp only at this
        rwa [if_neg hp] at this
      · intro h
        refine ⟨hO, ⟨by simp only; omega, by simp only; omega⟩, hver, ?_⟩
        simp only
        rw [if_neg hp]; exact h
    rw [decide_eq_decide.2 hc]
    have mr := mr (p - 1)
    rw [← hV] at mr
    obtain ⟨d, hd⟩ : ∃ d, d = decide (RefOk (o.length : Int) (arcsL T o) (p - 1) pr) := ⟨_, rfl⟩
    rw [← hd] at mr ⊢
    obtain ⟨p1, hp1'⟩ : ∃ q, q = p - 1 := ⟨_, rfl⟩
    rw [← hp1'] at mr b6
    simp [mf26, bx0, bx1, ct, ca, lt, m19, ft, fo, fs, fp, fa', frz_i, mv, mr, hlo, fa, l0, l1, l2, l3, b1, b2, b3, b4, b6, frz_b, -evBox, -evLoad, -evFieldAddr, -evLenSl, -frz, -cellsOf, -evBin]
end Go.Proofs.Ytemklhljjaniaaa
/-
  Cluster: Make, pick; equality of arcs.
-/
namespace Go.Proofs.Ytemklhljjaniaaa
open Go
open Cy (GC geq0 idxZ idxZ_some idxZ_none idxZ_any frz_i frz_b intsA_len CArc arcA arcsOf isPer ValidA okA smM smT lvM lvT arcsOf_slA VerOk RefOk Ready slA_cases M12 M12_eq)

/-! ### pick -/
theorem ev33 (E : Env) (a n : Int) (ha : inI a) (hn : 0 < n) : evP E 0 mf33 1 [.int .i64 a, .int .i64 n] = some (.int .i64 (pick a n)) := by
  have h3 : n ≠ 0 := by omega
  rw [evP_run _ _ rfl]
  by_cases h : a < 0
  · have h1 : IntKind.i64.wrap (a + 1) = a + 1 := wrapI (by unfold inI at *; omega)
    have h2 : IntKind.i64.wrap (-(a + 1)) = -(a + 1) := wrapI (by unfold inI at *; omega)
    simp [mf33, h, h1, h2, h3, pick]
  · simp [mf33, h, h3, pick]
theorem spec33 : PureSpec Try.prog GC 33 M12 := by
  refine PureSpec.of_ev (E := envOf GC []) (envOf_sound lookM_nil) rfl at33 comp33 1 ?_
  intro args r h
  unfold M12 at h
  split at h
  · simp only [Option.ite_none_right_eq_some, Option.some.injEq] at h
    obtain ⟨⟨h1, h2⟩, rfl⟩ := h
    exact ⟨0, ev33 _ _ _ h1 h2⟩
  · cases h

/-! ### Make -/
structure X5 where
  a : Int
  b : Int
  c : Int
  d : Int
  e : Int
def x5A (x : X5) : AV := .agg [.int .i64 x.a, .int .i64 x.b, .int .i64 x.c, .int .i64 x.d, .int .i64 x.e]
def X5.inR (x : X5) : Prop := inI x.a ∧ inI x.b ∧ inI x.c ∧ inI x.d ∧ inI x.e
def yOf (x : X5) (ys : List (Int × Int)) (i : Nat) : Int × Int := if i < ys.length then ys.getD i (0, 0) else (x.e, x.e)
def chOf (x : X5) (ys : List (Int × Int)) (i : Nat) : Int × Int := (pick (yOf x ys i).1 60, pick (yOf x ys i).2 40)
def nOf (ys : List (Int × Int)) : Nat := max 1 (min ys.length 4)
def makeT (x : X5) (ys : List (Int × Int)) : Tool := ⟨(List.range (nOf ys)).map (chOf x ys), 1 + pick x.a 5, 1 + pick x.b 5, pick x.c 9, 1 + pick x.d 2⟩
theorem make_valid (x : X5) (ys : List (Int × Int)) : ValidC (makeT x ys) := by
  have h1 := pick_range x.a 5 (by omega)
  have h2 := pick_range x.b 5 (by omega)
  have h3 := pick_range x.c 9 (by omega)
  have h4 := pick_range x.d 2 (by omega)
  have hn : (makeT x ys).ch.length = nOf ys := by simp [makeT]
  refine ⟨fun c hc => ?_, ⟨⟨?_, ?_⟩, ⟨?_, ?_⟩, ?_, ?_⟩, ?_, ?_, ?_⟩
  · obtain ⟨i, _, rfl⟩ := List.mem_map.1 hc
    have k1 := pick_range (yOf x ys i).1 60 (by omega)
    have k2 := pick_range (yOf x ys i).2 40 (by omega)
    unfold okCh chOf
    simp only
    omega
  all_goals first | (rw [hn]; unfold nOf; omega) | (simp only [makeT]; omega)
/-- what Make has under way -/
def chsV (A : Arena) (v : AV) (xs : List (Int × Int)) : Prop := (v = .nilS ∧ xs = []) ∨ ∃ id gr, v = .sl id 0 xs.length ∧ xs ≠ [] ∧ 2 < id ∧ A[id]? = some (.row 2 gr (xs.map chA))
structure I13 (A : Arena) (x : X5) (xs : List (Int × Int)) (p q r s : Int) : Prop where
  x : A[0]? = some (.row 5 false [x5A x])
  o : A[1]? = some (.row 5 false [.agg [.nilS, .int .i64 0, .int .i64 0, .int .i64 0, .int .i64 0]])
  c : ∃ v, A[2]? = some (.row 5 false [.agg [v, .int .i64 p, .int .i64 q, .int .i64 r, .int .i64 s]]) ∧ chsV A v xs
noncomputable def fs13 : List (FuncId × HModel) := [(33, pureH 4 M12)]
@[simp] theorem fs13_33 : lookM fs13 33 = some (pureH 4 M12) := rfl
theorem sound13 : ∀ f M, lookM fs13 f = some M → FnSpecY Try.prog GC f M := lookM_cons (FnSpecY.of_pure spec33 4) lookM_nil
theorem evLoad_top {A : Arena} {id i : Nat} {k : Nat} {es : List AV} {x : AV} (h : A[id]? = some (.row k false [.agg es])) (hx : es[i]? = some x) : evLoad false 1 A (.ptr id 0 i) = some x := by
  simp [evLoad, h, loadElem_part, hx]
set_option maxRecDepth 100000 in
set_option maxHeartbeats 4000000 in
theorem round13 {A : Arena} {x : X5} (hx : x.inR) {ys : List (Int × Int)} (hys : ∀ y ∈ ys, inI y.1 ∧ inI y.2) {yv : AV} (hy : SlA 2 (ys.map chA) yv) {xs : List (Int × Int)} {p q r s : Int} (hI : I13 A x xs p q r s) {i : Nat} (hi : i < nOf ys) (hxl : xs.length ≤ 100) :
    ∃ B, run (envOf GC fs13) 300 [.code lp13x0] (st13x0 yv (.ptr 0 0 0) (.ptr 1 0 0) (.ptr 2 0 0) (.int .i64 (i : Int))) A = some (.normal (st13x0 yv (.ptr 0 0 0) (.ptr 1 0 0) (.ptr 2 0 0) (.int .i64 ((i + 1 : Nat) : Int))) B) ∧ I13 B x (xs ++ [chOf x ys i]) p q r s := by
  obtain ⟨h0, h1, v, h2, hv⟩ := hI
  have n0 := (List.getElem?_eq_some_iff.1 h0).1
  have n1 := (List.getElem?_eq_some_iff.1 h1).1
  have n2 := (List.getElem?_eq_some_iff.1 h2).1
  have hlen := hy.len
  rw [List.length_map] at hlen
  have hyl : ∀ a b : Nat, evMin2 false (.int .i64 (a : Int)) (.int .i64 (b : Int)) = some (.int .i64 ((min a b : Nat) : Int)) := fun a b => min2_nat a b _ _
  have b0 : evMinL false (.int .i64 (ys.length : Int)) [.int .i64 4] = some (.int .i64 ((min ys.length 4 : Nat) : Int)) := by
    have := min2_nat ys.length 4 .i64 .i64
    simp only [evMinL]
    rw [show (.int .i64 4 : AV) = .int .i64 ((4 : Nat) : Int) from rfl, this]
  have b1 : evMinL true (.int .i64 1) [.int .i64 ((min ys.length 4 : Nat) : Int)] = some (.int .i64 (nOf ys : Int)) := by
    have := max2_nat 1 (min ys.length 4) .i64 .i64
    simp only [evMinL]
    rw [show (.int .i64 1 : AV) = .int .i64 ((1 : Nat) : Int) from rfl, this]
    rfl
  have b2 := lt_nat i (nOf ys) .i64
  rw [decide_eq_true hi] at b2
  have b3 := lt_nat i ys.length .i64
  have b4 := add1_nat i (by unfold nOf at hi; omega)
  have xi : ∀ X, evIndexArr 5 1 (A ++ X) (.ptr 0 0 0) (.int .i64 4) = some (.ptr 0 0 4) := fun X => by
    have : (A ++ X)[0]? = some (.row 5 false [x5A x]) := by rw [List.getElem?_append_left n0]; exact h0
    simp [evIndexArr, this]
  have xi0 := xi []
  rw [List.append_nil] at xi0
  have xl : ∀ X, evLoad false 1 (A ++ X) (.ptr 0 0 4) = some (.int .i64 x.e) := fun X => evLoad_top (es := [.int .i64 x.a, .int .i64 x.b, .int .i64 x.c, .int .i64 x.d, .int .i64 x.e]) (k := 5) (by rw [List.getElem?_append_left n0]; exact h0) rfl
  have xl0 := xl []
  rw [List.append_nil] at xl0
  obtain ⟨y, hyo⟩ : ∃ y, y = yOf x ys i := ⟨_, rfl⟩
  have hyr : inI y.1 ∧ inI y.2 := by
    rw [hyo]; unfold yOf
    split
    · rename_i h
      rw [List.getD_eq_getElem?_getD, List.getElem?_eq_getElem h]
      exact hys _ (List.getElem_mem h)
    · exact ⟨hx.2.2.2.2, hx.2.2.2.2⟩
  have bx : ∀ z, evBox 2 (.agg [.int .i64 z, .int .i64 z]) A = some (.ptr A.length 0 0, A ++ [.row 2 false [.agg [.int .i64 z, .int .i64 z]]]) := fun z => rfl
  have s0 : ∀ a b c d, evStore 2 (A ++ [.row 2 false [.agg [.int .i64 a, .int .i64 b]]]) (.ptr A.length 0 0) (.agg [.int .i64 c, .int .i64 d]) = some (A ++ [.row 2 false [.agg [.int .i64 c, .int .i64 d]]]) := fun a b c d => by simp [evStore, storeElem]
  have i0 : ∀ a b : Int, evIndexArr 2 1 (A ++ [.row 2 false [.agg [.int .i64 a, .int .i64 b]]]) (.ptr A.length 0 0) (.int .i64 0) = some (.ptr A.length 0 0) := fun a b => by simp [evIndexArr]
  have i1 : ∀ a b : Int, evIndexArr 2 1 (A ++ [.row 2 false [.agg [.int .i64 a, .int .i64 b]]]) (.ptr A.length 0 0) (.int .i64 1) = some (.ptr A.length 0 1) := fun a b => by simp [evIndexArr]
  have l0 : ∀ a b : Int, evLoad false 1 (A ++ [.row 2 false [.agg [.int .i64 a, .int .i64 b]]]) (.ptr A.length 0 0) = some (.int .i64 a) := fun a b => top_ld (es := [.int .i64 a, .int .i64 b]) (k := 2) rfl rfl
  have l1 : ∀ a b : Int, evLoad false 1 (A ++ [.row 2 false [.agg [.int .i64 a, .int .i64 b]]]) (.ptr A.length 0 1) = some (.int .i64 b) := fun a b => top_ld (es := [.int .i64 a, .int .i64 b]) (k := 2) rfl rfl
  have c0 : ∀ X, evFieldAddr 0 (A ++ X) (.ptr 2 0 0) = some (.ptr 2 0 0) := fun X => by
    have : (A ++ X)[2]? = some (.row 5 false [.agg [v, .int .i64 p, .int .i64 q, .int .i64 r, .int .i64 s]]) := by rw [List.getElem?_append_left n2]; exact h2
    simp [evFieldAddr, this]
  have cl : ∀ X, evLoad false 1 (A ++ X) (.ptr 2 0 0) = some v := fun X => evLoad_top (es := [v, .int .i64 p, .int .i64 q, .int .i64 r, .int .i64 s]) (k := 5) (by rw [List.getElem?_append_left n2]; exact h2) rfl
  have m1 := M12_eq hyr.1 (n := 60) (by omega)
  have m2 := M12_eq hyr.2 (n := 40) (by omega)
  have hch : chOf x ys i = (pick y.1 60, pick y.2 40) := by rw [hyo]; rfl
  rw [hch]
  obtain ⟨P1, hP1⟩ : ∃ z, z = pick y.1 60 := ⟨_, rfl⟩
  obtain ⟨P2, hP2⟩ : ∃ z, z = pick y.2 40 := ⟨_, rfl⟩
  rw [← hP1] at m1 ⊢
  rw [← hP2] at m2 ⊢
  -- the append
  obtain ⟨A1, hA1⟩ : ∃ X, X = A ++ [Ent.row 2 false [.agg [.int .i64 y.1, .int .i64 y.2]]] := ⟨_, rfl⟩
  have hl1 : A1.length = A.length + 1 := by rw [hA1]; simp
  have hA1o : ∀ j, j < A.length → A1[j]? = A[j]? := fun j hj => by rw [hA1, List.getElem?_append_left hj]
  obtain ⟨v', A2, e1, e2, e3, e4, e5⟩ : ∃ v' A2, evAppend 2 16 A1 v (.fs 2 [.agg [.int .i64 P1, .int .i64 P2]]) = some (v', A2) ∧ chsV A2 v' (xs ++ [(P1, P2)]) ∧ (∀ j, j ≤ 2 → A2[j]? = A[j]?) ∧ (∃ a b, v' = .sl a 0 b ∧ 2 < a) ∧ 2 < A2.length := by
    rcases hv with ⟨rfl, rfl⟩ | ⟨id, gr, rfl, hne, hid, hrow⟩
    · refine ⟨.sl A1.length 0 1, A1 ++ [.row 2 false [chA (P1, P2)]], by simp [evAppend, chA], .inr ⟨A1.length, false, rfl, by simp, by omega, by simp⟩, fun j hj => ?_, ⟨_, _, rfl, by omega⟩, by simp; omega⟩
      rw [List.getElem?_append_left (by omega), hA1o j (by omega)]
    · have hidl := (List.getElem?_eq_some_iff.1 hrow).1
      have hz : xs.length ≠ 0 := fun e => hne (List.length_eq_zero_iff.1 e)
      have hb : (xs.length + 1) * 16 ≤ 140737488355328 := by omega
      have hrow1 : A1[id]? = some (.row 2 gr (xs.map chA)) := by rw [hA1o id hidl]; exact hrow
      refine ⟨.sl id 0 (xs.length + 1), A1.set id (.row 2 true (xs.map chA ++ [chA (P1, P2)])), by simp [evAppend, hrow1, hz, hb, chA], .inr ⟨id, true, by simp, by simp, hid, ?_⟩, fun j hj => ?_, ⟨_, _, rfl, hid⟩, by simp; omega⟩
      · rw [List.getElem?_set_self (by omega), List.map_append]; rfl
      · rw [List.getElem?_set_ne (by omega), hA1o j (by omega)]
  obtain ⟨ia, ib, rfl, hia⟩ := e4
  have c2 : evFieldAddr 0 A2 (.ptr 2 0 0) = some (.ptr 2 0 0) := by
    have := e3 2 (by omega)
    rw [h2] at this
    simp [evFieldAddr, this]
  have st : evStore 1 A2 (.ptr 2 0 0) (.sl ia 0 ib) = some (A2.set 2 (.row 5 false [.agg [.sl ia 0 ib, .int .i64 p, .int .i64 q, .int .i64 r, .int .i64 s]])) := by
    have := e3 2 (by omega)
    rw [h2] at this
    simp [evStore, this, storeElem]
  refine ⟨A2.set 2 (.row 5 false [.agg [.sl ia 0 ib, .int .i64 p, .int .i64 q, .int .i64 r, .int .i64 s]]), ?_, ⟨by rw [List.getElem?_set_ne (by omega), e3 0 (by omega)]; exact h0, by rw [List.getElem?_set_ne (by omega), e3 1 (by omega)]; exact h1, .sl ia 0 ib, by rw [List.getElem?_set_self e5], ?_⟩⟩
  rotate_left
  · rcases e2 with ⟨h, _⟩ | ⟨id, gr, e2, e6, e7, e8⟩
    · cases h
    · exact .inr ⟨id, gr, e2, e6, e7, by rw [List.getElem?_set_ne (by omega)]; exact e8⟩
  obtain ⟨B, hB⟩ : ∃ X, X = A2.set 2 (.row 5 false [.agg [.sl ia 0 ib, .int .i64 p, .int .i64 q, .int .i64 r, .int .i64 s]]) := ⟨_, rfl⟩
  rw [← hB] at st ⊢
  have c1 := c0 [Ent.row 2 false [.agg [.int .i64 y.1, .int .i64 y.2]]]
  have cl1 := cl [Ent.row 2 false [.agg [.int .i64 y.1, .int .i64 y.2]]]
  have hsl : evBuildF 2 [.agg [.int .i64 P1, .int .i64 P2]] = some (.fs 2 [.agg [.int .i64 P1, .int .i64 P2]]) := rfl
  obtain ⟨N, hN⟩ : ∃ n, n = A.length := ⟨_, rfl⟩
  obtain ⟨ii, hii⟩ : ∃ n, n = i + 1 := ⟨_, rfl⟩
  rw [← hii] at b4 ⊢
  obtain ⟨nn, hnn⟩ : ∃ n, n = nOf ys := ⟨_, rfl⟩
  rw [← hnn] at b1 b2
  obtain ⟨mm, hmm⟩ : ∃ n, n = min ys.length 4 := ⟨_, rfl⟩
  rw [← hmm] at b0 b1
  by_cases hc : i < ys.length
  · rw [decide_eq_true hc] at b3
    have hye : y = ys[i] := by
      rw [hyo, yOf, if_pos hc, List.getD_eq_getElem?_getD, List.getElem?_eq_getElem hc]; rfl
    have yx : ∀ A, evIndexSl 2 A yv (.int .i64 (i : Int)) = some (.fp [.int .i64 y.1, .int .i64 y.2]) := fun A => by
      rw [hye]
      exact hy.index (A := A) (x := chA ys[i]) (by simp [hc]) rfl (by omega) .i64
    have k1 := i0 y.1 y.2
    have k2 := i1 y.1 y.2
    have k3 := l0 y.1 y.2
    have k4 := l1 y.1 y.2
    have k5 := s0 x.e x.e y.1 y.2
    rw [← hA1] at c1 cl1 k1 k2 k3 k4 k5
    have bx := bx 0
    have k6 := s0 0 0 x.e x.e
    rw [← hN] at k1 k2 k3 k4 k5 k6 bx
    obtain ⟨A0, hA0⟩ : ∃ X, X = A ++ [Ent.row 2 false [.agg [.int .i64 0, .int .i64 0]]] := ⟨_, rfl⟩
    rw [← hA0] at bx k6
    obtain ⟨A3, hA3⟩ : ∃ X, X = A ++ [Ent.row 2 false [.agg [.int .i64 x.e, .int .i64 x.e]]] := ⟨_, rfl⟩
    rw [← hA3] at k5 k6
    simp [lp13x0, hlen, b0, b1, b2, b3, b4, xi0, xl0, bx, yx, k1, k2, k3, k4, k5, k6, m1, m2, hsl, c1, cl1, e1, c2, st, frz_i, -evMinL, -evMin2, -evBin, -evLoad, -evStore, -evFieldAddr, -evIndexSl, -evLenSl, -evBuildF, -evBox, -frz]
  · rw [decide_eq_false hc] at b3
    have hye : y = (x.e, x.e) := by rw [hyo, yOf, if_neg hc]
    have k1 := i0 y.1 y.2
    have k2 := i1 y.1 y.2
    have k3 := l0 y.1 y.2
    have k4 := l1 y.1 y.2
    rw [← hA1] at c1 cl1 k1 k2 k3 k4
    have bx := bx 0
    have k6 := s0 0 0 y.1 y.2
    rw [← hN] at k1 k2 k3 k4 k6 bx
    obtain ⟨A0, hA0⟩ : ∃ X, X = A ++ [Ent.row 2 false [.agg [.int .i64 0, .int .i64 0]]] := ⟨_, rfl⟩
    rw [← hA0] at bx k6
    rw [← hA1] at k6
    rw [hye] at k3 k4 k6 m1 m2
    simp only at k3 k4 k6 m1 m2
    simp [lp13x0, hlen, b0, b1, b2, b3, b4, xi0, xl0, bx, k1, k2, k3, k4, k6, m1, m2, hsl, c1, cl1, e1, c2, st, frz_i, -evMinL, -evMin2, -evBin, -evLoad, -evStore, -evFieldAddr, -evIndexSl, -evLenSl, -evBuildF, -evBox, -frz]

/-! ### Make as a whole -/
theorem loop13 {x : X5} (hx : x.inR) {ys : List (Int × Int)} (hys : ∀ y ∈ ys, inI y.1 ∧ inI y.2) {yv : AV} (hy : SlA 2 (ys.map chA) yv) {p q r s : Int} : ∀ (c i : Nat) (A : Arena) (m : Nat), i + c = nOf ys → I13 A x ((List.range i).map (chOf x ys)) p q r s → c < m →
    ∃ B, iter (evC (envOf GC fs13) 300 lp13x0) mask13x0 m (st13x0 yv (.ptr 0 0 0) (.ptr 1 0 0) (.ptr 2 0 0) (.int .i64 (i : Int))) A = some (.exit 0 ((st13x0 yv (.ptr 0 0 0) (.ptr 1 0 0) (.ptr 2 0 0) (.int .i64 (nOf ys : Int))).set 7 (.bool false)) B) ∧ I13 B x ((List.range (nOf ys)).map (chOf x ys)) p q r s := by
  have hn4 : nOf ys ≤ 4 := by unfold nOf; omega
  intro c
  induction c with
  | zero =>
    intro i A m hi hI hm
    obtain ⟨m, rfl⟩ : ∃ j, m = j + 1 := ⟨m - 1, by omega⟩
    obtain rfl : i = nOf ys := by omega
    refine ⟨A, ?_, hI⟩
    have hlen := hy.len
    rw [List.length_map] at hlen
    have b0 : evMinL false (.int .i64 (ys.length : Int)) [.int .i64 4] = some (.int .i64 ((min ys.length 4 : Nat) : Int)) := by
      have := min2_nat ys.length 4 .i64 .i64
      simp only [evMinL]
      rw [show (.int .i64 4 : AV) = .int .i64 ((4 : Nat) : Int) from rfl, this]
    have b1 : evMinL true (.int .i64 1) [.int .i64 ((min ys.length 4 : Nat) : Int)] = some (.int .i64 (nOf ys : Int)) := by
      have := max2_nat 1 (min ys.length 4) .i64 .i64
      simp only [evMinL]
      rw [show (.int .i64 1 : AV) = .int .i64 ((1 : Nat) : Int) from rfl, this]
      rfl
    have b2 := lt_nat (nOf ys) (nOf ys) .i64
    rw [decide_eq_false (by omega)] at b2
    obtain ⟨mm, hmm⟩ : ∃ n, n = min ys.length 4 := ⟨_, rfl⟩
    rw [← hmm] at b0 b1
    rw [iter_succ, cl13x0]
    simp [lp13x0, hlen, b0, b1, b2, -evBin, -evMinL, -evMin2, -evLenSl]
  | succ c ih =>
    intro i A m hi hI hm
    obtain ⟨m, rfl⟩ : ∃ j, m = j + 1 := ⟨m - 1, by omega⟩
    obtain ⟨B, h1, h2⟩ := round13 hx hys hy hI (i := i) (by omega) (by simp; omega)
    have e : (List.range i).map (chOf x ys) ++ [chOf x ys i] = (List.range (i + 1)).map (chOf x ys) := by rw [List.range_succ, List.map_append]; rfl
    rw [e] at h2
    obtain ⟨C, h3, h4⟩ := ih (i + 1) B m (by omega) h2 (by omega)
    refine ⟨C, ?_, h4⟩
    rw [iter_succ, cl13x0, h1]
    exact h3
noncomputable def M13 : PModel := fun args => evF (envOf GC fs13) 300 mf13 4 args
theorem spec13 : PureSpecF Try.prog GC 13 M13 := PureSpecF.of_ev (E := envOf GC fs13) (envOf_sound sound13) rfl at13 comp13 4 fun _ _ h => ⟨300, h⟩
theorem chsV_fin {A : Arena} {v : AV} {xs : List (Int × Int)} (h : chsV A v xs) (k : Nat) : frz A (k + 3) v = slA 2 (xs.map chA) ∧ freshB A (k + 3) v = true := by
  rcases h with ⟨rfl, rfl⟩ | ⟨id, gr, rfl, hne, _, hr⟩
  · exact ⟨rfl, rfl⟩
  · have e : ((xs.map chA).drop 0).take xs.length = xs.map chA := by
      rw [List.drop_zero]
      conv => lhs; rw [show xs.length = (xs.map chA).length by simp]
      rw [List.take_length]
    have hm : (xs.map chA).map (frz A (k + 2)) = xs.map chA := by
      rw [List.map_map]
      exact List.map_congr_left fun x _ => by simp [chA, frz]
    constructor
    · rw [show k + 3 = (k + 2) + 1 from rfl]
      simp only [frz, hr]
      rw [e, hm]
      cases xs with
      | nil => exact absurd rfl hne
      | cons x r => rfl
    · rw [show k + 3 = (k + 2) + 1 from rfl]
      simp only [freshB, hr]
      rw [e, List.all_eq_true]
      intro y hy
      obtain ⟨x, _, rfl⟩ := List.mem_map.1 hy
      simp [chA, freshB]
def mkA (x : X5) (ys : List (Int × Int)) : AV := toolA (makeT x ys) (slA 2 ((makeT x ys).ch.map chA))
set_option maxRecDepth 100000 in
set_option maxHeartbeats 1000000 in
theorem M13_eq {x : X5} (hx : x.inR) {ys : List (Int × Int)} (hys : ∀ y ∈ ys, inI y.1 ∧ inI y.2) {yv : AV} (hy : SlA 2 (ys.map chA) yv) : M13 [x5A x, yv] = some (mkA x ys) := by
  have p1 := pick_range x.a 5 (by omega)
  have p2 := pick_range x.b 5 (by omega)
  have p4 := pick_range x.d 2 (by omega)
  have m1 := M12_eq hx.1 (n := 5) (by omega)
  have m2 := M12_eq hx.2.1 (n := 5) (by omega)
  have m3 := M12_eq hx.2.2.1 (n := 9) (by omega)
  have m4 := M12_eq hx.2.2.2.1 (n := 2) (by omega)
  have b1 : evBin .add (.int .i64 1) (.int .i64 (pick x.a 5)) = some (.int .i64 (1 + pick x.a 5)) := evAddI (by omega)
  have b2 : evBin .add (.int .i64 1) (.int .i64 (pick x.b 5)) = some (.int .i64 (1 + pick x.b 5)) := evAddI (by omega)
  have b4 : evBin .add (.int .i64 1) (.int .i64 (pick x.d 2)) = some (.int .i64 (1 + pick x.d 2)) := evAddI (by omega)
  have hmk : mkA x ys = .agg [slA 2 (((List.range (nOf ys)).map (chOf x ys)).map chA), .int .i64 (1 + pick x.a 5), .int .i64 (1 + pick x.b 5), .int .i64 (pick x.c 9), .int .i64 (1 + pick x.d 2)] := rfl
  rw [hmk]
  obtain ⟨q1, h1⟩ : ∃ z, z = pick x.a 5 := ⟨_, rfl⟩
  obtain ⟨q2, h2⟩ : ∃ z, z = pick x.b 5 := ⟨_, rfl⟩
  obtain ⟨q3, h3⟩ : ∃ z, z = pick x.c 9 := ⟨_, rfl⟩
  obtain ⟨q4, h4⟩ : ∃ z, z = pick x.d 2 := ⟨_, rfl⟩
  rw [← h1] at m1 b1 ⊢
  rw [← h2] at m2 b2 ⊢
  rw [← h3] at m3 ⊢
  rw [← h4] at m4 b4 ⊢
  obtain ⟨r1, g1⟩ : ∃ z, z = 1 + q1 := ⟨_, rfl⟩
  obtain ⟨r2, g2⟩ : ∃ z, z = 1 + q2 := ⟨_, rfl⟩
  obtain ⟨r4, g4⟩ : ∃ z, z = 1 + q4 := ⟨_, rfl⟩
  rw [← g1] at b1 ⊢
  rw [← g2] at b2 ⊢
  rw [← g4] at b4 ⊢
  obtain ⟨B, lp, ⟨k0, k1, v, k2, k3⟩⟩ := loop13 hx hys hy (p := r1) (q := r2) (r := q3) (s := r4) (nOf ys) 0 [.row 5 false [x5A x], .row 5 false [.agg [.nilS, .int .i64 0, .int .i64 0, .int .i64 0, .int .i64 0]], .row 5 false [.agg [.nilS, .int .i64 r1, .int .i64 r2, .int .i64 q3, .int .i64 r4]]] 300 (by omega) ⟨rfl, rfl, .nilS, rfl, .inl ⟨rfl, rfl⟩⟩ (by unfold nOf; omega)
  rw [show ((0 : Nat) : Int) = 0 from rfl] at lp
  obtain ⟨f1, f2⟩ := chsV_fin k3 0
  have e1 : evLoad true 5 B (.ptr 2 0 0) = some (.agg [v, .int .i64 r1, .int .i64 r2, .int .i64 q3, .int .i64 r4]) := by simp [evLoad, k2]
  have kl := (List.getElem?_eq_some_iff.1 k1).1
  have st : evStore 5 B (.ptr 1 0 0) (.agg [v, .int .i64 r1, .int .i64 r2, .int .i64 q3, .int .i64 r4]) = some (B.set 1 (.row 5 false [.agg [v, .int .i64 r1, .int .i64 r2, .int .i64 q3, .int .i64 r4]])) := by simp [evStore, k1, storeElem]
  have k3' : chsV (B.set 1 (.row 5 false [.agg [v, .int .i64 r1, .int .i64 r2, .int .i64 q3, .int .i64 r4]])) v ((List.range (nOf ys)).map (chOf x ys)) := by
    rcases k3 with k3 | ⟨id, gr, a, b, c, d⟩
    · exact .inl k3
    · exact .inr ⟨id, gr, a, b, c, by rw [List.getElem?_set_ne (by omega)]; exact d⟩
  obtain ⟨f1, f2⟩ := chsV_fin k3' 0
  have e2 : evLoad true 5 (B.set 1 (.row 5 false [.agg [v, .int .i64 r1, .int .i64 r2, .int .i64 q3, .int .i64 r4]])) (.ptr 1 0 0) = some (.agg [v, .int .i64 r1, .int .i64 r2, .int .i64 q3, .int .i64 r4]) := by simp [evLoad, kl]
  obtain ⟨C, hC⟩ : ∃ X, X = B.set 1 (.row 5 false [.agg [v, .int .i64 r1, .int .i64 r2, .int .i64 q3, .int .i64 r4]]) := ⟨_, rfl⟩
  rw [← hC] at st e2 f1 f2
  have F1 : frz C 4 (.agg [v, .int .i64 r1, .int .i64 r2, .int .i64 q3, .int .i64 r4]) = .agg [slA 2 (((List.range (nOf ys)).map (chOf x ys)).map chA), .int .i64 r1, .int .i64 r2, .int .i64 q3, .int .i64 r4] := by
    rw [← f1]; rfl
  have F2 : freshB C 4 (.agg [v, .int .i64 r1, .int .i64 r2, .int .i64 q3, .int .i64 r4]) = true := by
    have f2 : freshB C 3 v = true := f2
    simp [freshB, f2]
  rw [hC] at F1 F2
  have k1g : B[1] = .row 5 false [.agg [.nilS, .int .i64 0, .int .i64 0, .int .i64 0, .int .i64 0]] := by
    rw [List.getElem?_eq_getElem kl] at k1; injection k1
  unfold x5A at lp
  unfold M13
  rw [evF_run _ _ rfl]
  simp [mf13, x5A, evIndexArr, m1, m2, m3, m4, b1, b2, b4, frz_i, go13x0 lp, k1g, k2, kl, F1, F2, -frz, -evBin]

/-! ### equality of arcs -/
noncomputable def M21 : PModel := fun args => evP (envOf GC []) 300 mf21 1 args
theorem spec21 : PureSpec Try.prog GC 21 M21 := PureSpec.of_ev (E := envOf GC []) (envOf_sound lookM_nil) rfl at21 comp21 1 fun _ _ h => ⟨300, h⟩
instance : DecidableEq CArc := fun a b => by
  obtain ⟨a1, a2, a3, a4⟩ := a
  obtain ⟨b1, b2, b3, b4⟩ := b
  exact decidable_of_iff (a1 = b1 ∧ a2 = b2 ∧ a3 = b3 ∧ a4 = b4) ⟨fun ⟨h1, h2, h3, h4⟩ => by rw [h1, h2, h3, h4], fun h => by injection h with h1 h2 h3 h4; exact ⟨h1, h2, h3, h4⟩⟩
set_option maxRecDepth 100000 in
theorem M21_eq {xs ys : List CArc} {a b : AV} (ha : SlA 4 (xs.map arcA) a) (hb : SlA 4 (ys.map arcA) b) (hl : xs.length ≤ 200) (hl2 : ys.length ≤ 200) : M21 [a, b] = some (.bool (decide (xs = ys))) := by
  have hla := ha.len
  have hlb := hb.len
  rw [List.length_map] at hla hlb
  have b0 : evBin .neq (.int .i64 (xs.length : Int)) (.int .i64 (ys.length : Int)) = some (.bool (decide (xs.length ≠ ys.length))) := by
    rw [evNeqI]
    congr 2
    exact decide_eq_decide.2 (by omega)
  by_cases h0 : xs.length ≠ ys.length
  · rw [decide_eq_true h0] at b0
    rw [decide_eq_false (fun h => h0 (by rw [h]))]
    unfold M21
    rw [evP_run _ _ rfl]
    simp [mf21, hla, hlb, b0, -evBin, -evLenSl]
  have h0 : xs.length = ys.length := Classical.not_not.1 h0
  rw [decide_eq_false (by omega)] at b0
  have round : ∀ (A : Arena) (i : Nat) (hi : i < xs.length), run (envOf GC []) 300 [.code lp21x0] (st21x0 a b (.int .i64 (i : Int))) A =
      if xs[i] = ys[i]'(by omega) then some (.normal (st21x0 a b (.int .i64 ((i + 1 : Nat) : Int))) A) else some (.ret [a, b, .bool false, .int .i64 (i : Int), .undef, .bool true, .bool true] A) := fun A i hi => by
    have x1 := ha.index (A := A) (x := arcA xs[i]) (i := i) (by simp [hi]) rfl (by omega) .i64
    have x2 := hb.index (A := A) (x := arcA (ys[i]'(by omega))) (i := i) (by simp [show i < ys.length by omega]) rfl (by omega) .i64
    obtain ⟨p, hp⟩ : ∃ p, p = xs[i] := ⟨_, rfl⟩
    obtain ⟨q, hq⟩ : ∃ q, q = ys[i]'(by omega) := ⟨_, rfl⟩
    rw [← hp] at x1 ⊢
    rw [← hq] at x2 ⊢
    have ea : evEqAgg true [(0, 1), (1, 1), (2, 1), (3, 1)] (arcA p) (arcA q) = some (.bool (decide (p ≠ q))) := by
      obtain ⟨a1, a2, a3, a4⟩ := p
      obtain ⟨c1, c2, c3, c4⟩ := q
      simp only [arcA, evEqAgg, eqOffs, eqK]
      by_cases e1 : a1 = c1 <;> by_cases e2 : a2 = c2 <;> by_cases e3 : a3 = c3 <;> by_cases e4 : a4 = c4 <;> simp [e1, e2, e3, e4]
    have b1 := lt_nat i xs.length .i64
    rw [decide_eq_true hi] at b1
    have b3 := add1_nat i (by omega)
    have l1 : ∀ z : CArc, evLoad true 4 A (.fp (cellsOf (arcA z))) = some (arcA z) := fun z => rfl
    obtain ⟨P, hP⟩ : ∃ P, P = cellsOf (arcA p) := ⟨_, rfl⟩
    obtain ⟨Q, hQ⟩ : ∃ P, P = cellsOf (arcA q) := ⟨_, rfl⟩
    have l2 := l1 p
    have l3 := l1 q
    rw [← hP] at x1 l2
    rw [← hQ] at x2 l3
    obtain ⟨i1, hi1⟩ : ∃ i1 : Nat, i1 = i + 1 := ⟨_, rfl⟩
    rw [← hi1] at b3 ⊢
    by_cases hd : p = q
    · rw [decide_eq_false (by simpa using hd)] at ea
      rw [if_pos hd]
      simp [lp21x0, hla, x1, x2, l2, l3, ea, b1, b3, -evBin, -evIndexSl, -evLenSl, -evLoad, -evEqAgg]
    · rw [decide_eq_true (by simpa using hd)] at ea
      rw [if_neg hd]
      simp [lp21x0, hla, x1, x2, l2, l3, ea, b1, -evBin, -evIndexSl, -evLenSl, -evLoad, -evEqAgg]
  have bE := lt_nat xs.length xs.length .i64
  rw [decide_eq_false (by omega)] at bE
  unfold M21
  rw [evP_run _ _ rfl]
  rcases iter_search (E := envOf GC []) (fuel := 300) (a := lp21x0) (mask := mask21x0) (fun i => st21x0 a b (.int .i64 (i : Int))) (fun _ => []) xs.length (fun i => ¬ ∀ (hi : i < xs.length), xs[i] = ys[i]'(by omega))
    (oF := fun i => .ret [a, b, .bool false, .int .i64 (i : Int), .undef, .bool true, .bool true] []) (oE := .exit 0 ((st21x0 a b (.int .i64 (xs.length : Int))).set 5 (.bool false)) [])
    (fun _ => cl21x0) (fun _ _ _ h => by cases h) (fun _ _ h => by cases h)
    (fun i hi hp => by
      rw [round [] i hi]
      exact if_pos (Classical.not_not.1 hp hi))
    (fun i hi hp => by
      rw [round [] i hi]
      exact if_neg fun h => hp fun _ => h)
    (by simp [lp21x0, hla, bE, -evBin, -evLenSl]) (show xs.length < 300 by omega) with ⟨i, hi, hp, hj, lp⟩ | ⟨hp, lp⟩
  · have lp : iter (evC (envOf GC []) 300 lp21x0) mask21x0 300 (st21x0 a b (.int .i64 0)) [] = _ := lp
    rw [decide_eq_false (fun h => hp (fun _ => by subst h; rfl))]
    simp [mf21, hla, hlb, b0, go21x0 lp, -evBin, -evLenSl]
  · have lp : iter (evC (envOf GC []) 300 lp21x0) mask21x0 300 (st21x0 a b (.int .i64 0)) [] = _ := lp
    rw [decide_eq_true (List.ext_getElem h0 fun i h1 h2 => Classical.not_not.1 (hp i h1) h1)]
    simp [mf21, hla, hlb, b0, go21x0 lp, -evBin, -evLenSl]
end Go.Proofs.Ytemklhljjaniaaa
/-
  Cluster, plain: starts or a cycle; what Best finds.
-/
namespace Go.Proofs.Ytemklhljjaniaaa
namespace Cy
open Go
theorem lv_ok {n : Int} {l : List CArc} {p : Int} (hr : Ready n l p) : (lvM n l p).2.2 = true ↔ ¬ Pos l p := by
  obtain ⟨m, rfl⟩ : ∃ m : Nat, n = (m : Int) := ⟨n.toNat, by have := hr.1.1; omega⟩
  rw [← lev_iff hr]
  unfold lvM
  rw [if_pos hr, Int.toNat_natCast]
  split
  · rename_i h; simp [h]
  · rename_i h; simp [h]
theorem lvT_form (n : Int) (l : List CArc) (p : Int) : lvT (lvM n l p) = .tup [slA 1 (intsA (lvM n l p).1), slA 1 (intsA (lvM n l p).2.1), .bool (lvM n l p).2.2] := rfl
theorem convex {l : List CArc} {p q r : Int} (hpq : p ≤ q) (hqr : q ≤ r) (h1 : ¬ Pos l p) (h2 : ¬ Pos l r) : ¬ Pos l q := by
  rintro ⟨u, xs, h3, h4⟩
  rcases Int.lt_or_le (tokN xs) 0 with h | h
  · refine h2 (pos_other h3 (p := q) ?_)
    have : (r - q) * tokN xs ≤ 0 := Int.mul_nonpos_of_nonneg_of_nonpos (by omega) (by omega)
    omega
  · refine h1 (pos_other h3 (p := q) ?_)
    have : (p - q) * tokN xs ≤ 0 := Int.mul_nonpos_of_nonpos_of_nonneg (by omega) h
    omega
/-- Levels, where it has starts -/
theorem lv_starts {n : Int} {l : List CArc} {p : Int} (hr : Ready n l p) (h : (lvM n l p).2.2 = true) : (lvM n l p).2.1 = [] ∧ VerOk n l p (lvM n l p).1 ∧ (∀ x ∈ (lvM n l p).1, x ≤ 100000000) ∧ ∀ x, VerOk n l p x → ∀ v : Nat, (v : Int) < n → (lvM n l p).1.getD v 0 ≤ x.getD v 0 := by
  obtain ⟨m, rfl⟩ : ∃ m : Nat, n = (m : Int) := ⟨n.toNat, by have := hr.1.1; omega⟩
  have hv := hr.1.2.2
  have hn := hr.1.1
  have e : lvM m l p = ((levels (lar p l) m).1, [], true) := by
    unfold lvM at h ⊢
    rw [if_pos hr, Int.toNat_natCast] at h ⊢
    split
    · rfl
    · rename_i h'
      rw [if_neg h'] at h; cases h
  have hlv : (levels (lar p l) m).2 = true := by
    have := (lv_ok hr).1 h
    exact (lev_iff hr).2 this
  obtain ⟨h1, h2, h3, h4, h5⟩ := levels_least (lar_ends (p := p) hv)
  rw [e]
  have key : ∀ x ∈ (levels (lar p l) m).1, 0 ≤ x ∧ x ≤ 100000000 := ?_
  · refine ⟨rfl, ⟨hr, by rw [h1], fun x hx => by have := key x hx; omega, h4 hlv⟩, fun x hx => (key x hx).2, fun x hx v hvm => ?_⟩
    refine h5 x hx.2.2.2 (fun w hw => ?_) v (by omega)
    have hwl : w < x.length := by have := hx.2.1; omega
    have hg : x.getD w 0 = x[w] := by rw [List.getD_eq_getElem?_getD, List.getElem?_eq_getElem hwl]; rfl
    rw [hg]
    exact (hx.2.2.1 _ (List.getElem_mem hwl)).1
  intro x hx'
  obtain ⟨v, hv', rfl⟩ := List.mem_iff_getElem.1 hx'
  have hvn : v < m := by rw [← h1]; exact hv'
  have hg : (levels (lar p l) m).1.getD v 0 = (levels (lar p l) m).1[v] := by rw [List.getD_eq_getElem?_getD, List.getElem?_eq_getElem hv']; rfl
  have h0 := h2 v
  rw [hg] at h0
  refine ⟨h0, ?_⟩
  obtain ⟨u, r, k1, k2, k3⟩ := h3 v hvn
  have hN := (levels_ok (lar_ends (p := p) hv)).1 hlv
  obtain ⟨r', j1, j2, j3⟩ := short (lar_ends (p := p) hv) hN _ r u v rfl k1 k2
  rw [hg] at k3
  have hbd : ∀ {r : List LArc} {u v : Nat}, isW (lar p l) u r v → lenW r ≤ 3000000 * r.length := by
    intro r
    induction r with
    | nil => intro _ _ _; simp [lenW]
    | cons a r ih =>
      rintro u v ⟨q1, _, q3⟩
      have := ih q3
      have := (lar_ok (show m ≤ 32 by omega) hr.2 hv a q1).2.2.2
      simp only [lenW, List.length_cons]
      omega
  have := hbd j1
  omega
/-- Levels, where it has a cycle -/
theorem lv_cycle {n : Int} {l : List CArc} {p : Int} (hr : Ready n l p) (h : (lvM n l p).2.2 = false) : (lvM n l p).1 = [] ∧ RefOk n l p (lvM n l p).2.1 ∧ (lvM n l p).2.1.length ≤ 32 ∧ ∀ z ∈ (lvM n l p).2.1, inI z := by
  obtain ⟨m, rfl⟩ : ∃ m : Nat, n = (m : Int) := ⟨n.toNat, by have := hr.1.1; omega⟩
  have hlv : ¬ (levels (lar p l) m).2 = true := fun h' => by
    have := (lv_ok hr).2 ((lev_iff hr).1 h')
    rw [h] at this; cases this
  obtain ⟨res, u, xs, k1, k2, k3, k4, k5, k6, k7⟩ := cyc_of hr hlv
  have e : lvM m l p = ([], res, false) := by
    unfold lvM
    rw [if_pos hr, Int.toNat_natCast, if_neg hlv, k1]; rfl
  rw [e]
  refine ⟨rfl, ⟨hr, _, _, k7, k6⟩, by rw [k2]; simpa using k5, fun z hz => ?_⟩
  unfold exM at k7
  simp only [Option.ite_none_right_eq_some] at k7
  have := k7.1.2 z hz
  have := hr.1.2.1
  unfold inI; omega
theorem intsOf_sl {xs : List Int} (hl : xs.length ≤ 1000) (h : ∀ z ∈ xs, inI z) : intsOf (slA 1 (intsA xs)) = some xs := intsOf_slA (by omega) h
theorem ver_in {n : Int} {l : List CArc} {p : Int} {s : List Int} (h : VerOk n l p s) : s.length ≤ 32 ∧ ∀ z ∈ s, inI z := by
  obtain ⟨h1, h2, h3, _⟩ := h
  have := h1.1.1
  refine ⟨by omega, fun z hz => ?_⟩
  have := h3 z hz
  unfold inI; omega
/-- what is refuted has no starts -/
theorem ver_pos {n : Int} {l : List CArc} {p : Int} {s : List Int} (h : VerOk n l p s) : ¬ Pos l p := keeps_noP h.1.1.2.2 h.2.2.2
theorem ref_pos {n : Int} {l : List CArc} {p : Int} {c : List Int} (h : RefOk n l p c) : Pos l p := by
  obtain ⟨_, s, t, h1, h2⟩ := h
  obtain ⟨u, xs, k1, k2, k3, k4, k5, k6⟩ := exM_some h1
  exact ⟨u, xs, k2, by omega⟩
open Classical in
theorem m19 {n : Int} {a b : AV} {l : List CArc} {p : Int} {s : List Int} (ha : arcsOf a = some l) (hb : intsOf b = some s) : M19 [.int .i64 n, a, .int .i64 p, b] = some (.bool (decide (VerOk n l p s))) := by simp only [M19, ha, hb]
open Classical in
theorem m21 {n : Int} {a b : AV} {l : List CArc} {p : Int} {s : List Int} (ha : arcsOf a = some l) (hb : intsOf b = some s) : M21 [.int .i64 n, a, .int .i64 p, b] = some (.bool (decide (RefOk n l p s))) := by simp only [M21, ha, hb]

/-- fewer arcs: the same starts keep them -/
theorem ver_sub {n : Int} {l l' : List CArc} {p : Int} {s : List Int} (hR : Ready n l p) (hsub : ∀ a ∈ l, a ∈ l') (h : VerOk n l' p s) : VerOk n l p s := by
  obtain ⟨h1, h2, h3, h4⟩ := h
  refine ⟨hR, h2, h3, fun a ha => ?_⟩
  obtain ⟨c, hc, rfl⟩ := List.mem_map.1 ha
  exact h4 _ (List.mem_map.2 ⟨c, hsub c hc, rfl⟩)
theorem lv_sub {n : Int} {l l' : List CArc} {p : Int} (hR : Ready n l p) (hR' : Ready n l' p) (hsub : ∀ a ∈ l, a ∈ l') (h : (lvM n l' p).2.2 = true) : (lvM n l p).2.2 = true ∧ ∀ v : Nat, (v : Int) < n → (lvM n l p).1.getD v 0 ≤ (lvM n l' p).1.getD v 0 := by
  have h1 := (lv_starts hR' h).2.1
  have h2 := ver_sub hR hsub h1
  have h3 := (lv_ok hR).2 (ver_pos h2)
  exact ⟨h3, fun v hv => (lv_starts hR h3).2.2.2 _ h2 v hv⟩
theorem lv_same {n : Int} {l l' : List CArc} {p : Int} (hR : Ready n l p) (hR' : Ready n l' p) (h1 : ∀ a ∈ l, a ∈ l') (h2 : ∀ a ∈ l', a ∈ l) : (lvM n l p).2.2 = (lvM n l' p).2.2 ∧ (lvM n l p).1 = (lvM n l' p).1 := by
  cases h : (lvM n l p).2.2 with
  | true =>
    obtain ⟨k1, k2⟩ := lv_sub hR' hR h2 h
    obtain ⟨k3, k4⟩ := lv_sub hR hR' h1 k1
    refine ⟨k1.symm, ?_⟩
    have g1 := (lv_starts hR h).2.1.2.1
    have g2 := (lv_starts hR' k1).2.1.2.1
    refine List.ext_getElem (by omega) fun i i1 i2 => ?_
    have a1 := k2 i (by omega)
    have a2 := k4 i (by omega)
    have e1 : (lvM n l p).1.getD i 0 = (lvM n l p).1[i] := by rw [List.getD_eq_getElem?_getD, List.getElem?_eq_getElem i1]; rfl
    have e2 : (lvM n l' p).1.getD i 0 = (lvM n l' p).1[i] := by rw [List.getD_eq_getElem?_getD, List.getElem?_eq_getElem i2]; rfl
    omega
  | false =>
    have h' : (lvM n l' p).2.2 = false := by
      cases h3 : (lvM n l' p).2.2 with
      | false => rfl
      | true =>
        have := (lv_sub hR hR' h1 h3).1
        rw [h] at this; cases this
    exact ⟨h'.symm, by rw [(lv_cycle hR h).1, (lv_cycle hR' h').1]⟩
end Cy
open Go
open Cy (GC CArc arcA arcsOf isPer ValidA okA smM smT lvM lvT VerOk RefOk Ready Pos lv_ok lv_starts lv_cycle ver_pos ref_pos)

theorem hiOf_per {T : Tool} {s : Option (Int × List Int)} (h : sOk T s) : isPer (hiOf s) := by
  unfold hiOf isPer
  cases s with
  | none => simp
  | some x => have := h x rfl; simp only; omega
/-- what holds of the best one so far, of these orders -/
structure BInv (T : Tool) (s : Option (Int × List Int)) (l : List (List Int)) : Prop where
  ok : sOk T s
  no : ∀ x, s = some x → ¬ Pos (arcsL T x.2) x.1 ∧ ∃ l1 l2, l = l1 ++ x.2 :: l2 ∧ ∀ o ∈ l1, Pos (arcsL T o) x.1
  pos : ∀ o ∈ l, ∀ q, 1 ≤ q → q ≤ hiOf s → Pos (arcsL T o) q
theorem BInv.step {T : Tool} {s : Option (Int × List Int)} {l : List (List Int)} (h : BInv T s l) {o : List Int} (hO : o ∈ ordersM T) : BInv T (bstep T s o) (l ++ [o]) := by
  have hper := hiOf_per h.ok
  have hok := bstep_ok h.ok hO
  have hv := (arcs_ok hO).1
  unfold bstep at hok ⊢
  cases hm : smM (o.length : Int) (arcsL T o) 1 (hiOf s) with
  | none =>
    rw [hm] at hok
    have hn := sm_none hper hv hm
    refine ⟨h.ok, fun x hx => ?_, fun o' ho' q h1 h2 => ?_⟩
    · obtain ⟨k1, l1, l2, k2, k3⟩ := h.no x hx
      exact ⟨k1, l1, l2 ++ [o], by rw [k2]; simp, k3⟩
    · rcases List.mem_append.1 ho' with h3 | h3
      · exact h.pos o' h3 q h1 h2
      · rw [List.mem_singleton] at h3
        subst h3
        exact hn q h1 h2
  | some p =>
    rw [hm] at hok
    obtain ⟨k1, k2, k3, k4, k5⟩ := sm_some hper hm
    refine ⟨hok, fun x hx => ?_, fun o' ho' q h1 h2 => ?_⟩
    · injection hx with hx
      subst hx
      exact ⟨k4, l, [], rfl, fun o' ho' => h.pos o' ho' p k1 k2⟩
    · have h2 : q ≤ p - 1 := h2
      rcases List.mem_append.1 ho' with h3 | h3
      · exact h.pos o' h3 q h1 (by omega)
      · rw [List.mem_singleton] at h3
        subst h3
        exact k5 q h1 (by omega)
theorem BInv.fold {T : Tool} : ∀ (r : List (List Int)) {s : Option (Int × List Int)} {l : List (List Int)}, BInv T s l → (∀ o ∈ r, o ∈ ordersM T) → BInv T (r.foldl (bstep T) s) (l ++ r)
  | [], s, l, h, _ => by simpa using h
  | o :: r, s, l, h, hr => by
    have := BInv.fold r (h.step (hr o (by simp))) (fun o' ho' => hr o' (by simp [ho']))
    rw [List.append_assoc] at this
    exact this
theorem best_inv (T : Tool) : BInv T (bestF T) (ordersM T) := by
  have := BInv.fold (T := T) (ordersM T) (s := none) (l := []) ⟨fun x h => (by cases h), fun x h => (by cases h), fun o h => (by cases h)⟩ (fun _ h => h)
  rwa [List.nil_append] at this
theorem ready_of {T : Tool} {o : List Int} (hO : o ∈ ordersM T) {p : Int} (h1 : -1000000 ≤ p) (h2 : p ≤ 1000000) : Ready (o.length : Int) (arcsL T o) p := ⟨(arcs_ok hO).1, h1, h2⟩
/-- Check accepts it -/
theorem chk_of {T : Tool} {o : List Int} (hO : o ∈ ordersM T) {p : Int} (h1 : 1 ≤ p) (h2 : p ≤ 1000000) (hp : ¬ Pos (arcsL T o) p) (hq : 1 < p → Pos (arcsL T o) (p - 1)) : Chk T (schOf T (p, o)) := by
  have hR := ready_of hO (p := p) (by omega) h2
  have k1 := lv_starts hR ((lv_ok hR).2 hp)
  refine ⟨hO, ⟨h1, h2⟩, k1.2.1, ?_⟩
  show if p = 1 then (if p > 1 then (lvM (o.length : Int) (arcsL T o) (p - 1)).2.1 else []) = [] else _
  by_cases e : p = 1
  · rw [if_pos e, if_neg (by omega)]
  · rw [if_neg e]
    have hR' := ready_of hO (p := p - 1) (by omega) (by omega)
    have hf : (lvM (o.length : Int) (arcsL T o) (p - 1)).2.2 = false := by
      cases h : (lvM (o.length : Int) (arcsL T o) (p - 1)).2.2 with
      | false => rfl
      | true => exact absurd (hq (by omega)) ((lv_ok hR').1 h)
    have := (lv_cycle hR' hf).2.1
    show RefOk (o.length : Int) (arcsL T o) (p - 1) (if p > 1 then (lvM (o.length : Int) (arcsL T o) (p - 1)).2.1 else [])
    rw [if_pos (by omega)]
    exact this
theorem best_chk {T : Tool} {s : Sched} (h : bestM T = some s) : Chk T s := by
  unfold bestM at h
  rw [Option.map_eq_some_iff] at h
  obtain ⟨⟨p, o⟩, h, rfl⟩ := h
  have hB := best_inv T
  rw [h] at hB
  obtain ⟨h1, h2, h3⟩ := hB.ok _ rfl
  exact chk_of h3 h1 h2 (hB.no _ rfl).1 fun hp => hB.pos o h3 (p - 1) (by simp only at h1; omega) (Int.le_refl _)
theorem best_some {T : Tool} {s : Sched} (h : bestM T = some s) : bestF T = some (s.period, s.order) ∧ s = schOf T (s.period, s.order) := by
  unfold bestM at h
  rw [Option.map_eq_some_iff] at h
  obtain ⟨⟨p, o⟩, h, rfl⟩ := h
  exact ⟨h, rfl⟩
theorem best_eq {T : Tool} {p : Int} {o : List Int} (hO : o ∈ ordersM T) (h1 : 1 ≤ p) (h2 : p ≤ 1000000) (hp : ¬ Pos (arcsL T o) p) (hb : ∀ o' ∈ ordersM T, ∀ q, 1 ≤ q → q < p → Pos (arcsL T o') q) : ∃ o', o' ∈ ordersM T ∧ ¬ Pos (arcsL T o') p ∧ bestF T = some (p, o') := by
  have hB := best_inv T
  cases hs : bestF T with
  | none =>
    rw [hs] at hB
    exact absurd (hB.pos o hO p h1 h2) hp
  | some x =>
    obtain ⟨r, o'⟩ := x
    rw [hs] at hB
    obtain ⟨k1, k2, k3⟩ := hB.ok _ rfl
    have k4 := (hB.no _ rfl).1
    simp only at k1 k2 k3 k4
    have : r = p := by
      rcases Int.lt_trichotomy r p with h | h | h
      · exact absurd (hb o' k3 r k1 h) k4
      · exact h
      · exact absurd (hB.pos o hO p h1 (by show p ≤ r - 1; omega)) hp
    subst this
    exact ⟨o', k3, k4, rfl⟩
theorem best_no {T : Tool} (hb : ∀ o' ∈ ordersM T, ∀ q, 1 ≤ q → q ≤ 1000000 → Pos (arcsL T o') q) : bestF T = none := by
  have hB := best_inv T
  cases hs : bestF T with
  | none => rfl
  | some x =>
    obtain ⟨r, o'⟩ := x
    rw [hs] at hB
    obtain ⟨k1, k2, k3⟩ := hB.ok _ rfl
    exact absurd (hb o' k3 r k1 k2) (hB.no _ rfl).1
/-- a closed way of these arcs -/
theorem pos_of {l : List CArc} {q : Int} (xs : List Nat) (u : Int) (_h : ∀ i ∈ xs, i < l.length) (hw : Cy.isNW l u (xs.map fun i => (l.getD i ⟨0, 0, 0, 0⟩, i)) u) (hl : 0 < Cy.lenN q (xs.map fun i => (l.getD i ⟨0, 0, 0, 0⟩, i))) : Pos l q := ⟨u, _, hw, hl⟩
end Go.Proofs.Ytemklhljjaniaaa
/-
  Cluster: the fixed examples, plain.
-/
namespace Go.Proofs.Ytemklhljjaniaaa
open Go
open Cy (GC CArc arcA arcsOf isPer ValidA okA smM smT lvM lvT VerOk RefOk Ready Pos lv_ok lv_starts lv_cycle ver_pos ref_pos lar levels lev_iff)

def t1 : Tool := ⟨[(20, 12), (30, 12)], 1, 1, 2, 1⟩
def t2 : Tool := ⟨[(20, 12), (30, 12)], 1, 1, 2, 2⟩
def t3 : Tool := ⟨[(20, 9), (30, 9)], 1, 1, 2, 2⟩
theorem ord1 : ordersM t1 = [[0, 1, 2], [0, 2, 1]] := by decide +kernel
theorem ord2 : ordersM t2 = [[0, 1, 2]] := by decide +kernel
theorem ord3 : ordersM t3 = [[0, 1, 2]] := by decide +kernel
def ar1 : List CArc := [⟨0, 2, 6, 0⟩, ⟨2, 1, 6, 0⟩, ⟨1, 0, 6, 1⟩, ⟨0, 1, 24, 0⟩, ⟨1, 0, -36, 0⟩, ⟨1, 2, 34, 1⟩, ⟨2, 1, -46, -1⟩]
def ar0 : List CArc := [⟨0, 1, 4, 0⟩, ⟨1, 2, 4, 0⟩, ⟨2, 0, 6, 1⟩, ⟨0, 1, 24, 0⟩, ⟨1, 0, -36, 0⟩, ⟨1, 2, 34, 0⟩, ⟨2, 1, -46, 0⟩]
def ar2 : List CArc := [⟨0, 1, 4, 0⟩, ⟨1, 2, 4, 0⟩, ⟨2, 0, 4, 1⟩, ⟨1, 1, 22, 1⟩, ⟨1, 1, -34, -1⟩, ⟨2, 2, 32, 1⟩, ⟨2, 2, -44, -1⟩]
def ar3 : List CArc := [⟨0, 1, 4, 0⟩, ⟨1, 2, 4, 0⟩, ⟨2, 0, 4, 1⟩, ⟨1, 1, 22, 1⟩, ⟨1, 1, -31, -1⟩, ⟨2, 2, 32, 1⟩, ⟨2, 2, -41, -1⟩]
theorem arcs1 : arcsL t1 [0, 2, 1] = ar1 := by decide +kernel
theorem arcs0 : arcsL t1 [0, 1, 2] = ar0 := by decide +kernel
theorem arcs2 : arcsL t2 [0, 1, 2] = ar2 := by decide +kernel
theorem arcs3 : arcsL t3 [0, 1, 2] = ar3 := by decide +kernel
theorem pos_cyc {l : List CArc} {q : Int} (c : List (CArc × Nat)) (u : Int) (hw : Cy.isNW l u c u) (hl : 0 < Cy.lenN q c) : Pos l q := ⟨u, c, hw, hl⟩
theorem mem_num {l : List CArc} {x : CArc} {i : Nat} (h : l[i]? = some x) : (x, i) ∈ Cy.num l := by
  obtain ⟨hi, rfl⟩ := List.getElem?_eq_some_iff.1 h
  exact List.mem_of_getElem? (Cy.num_get l i hi)
theorem pos1 {q : Int} (h : q < 40) : Pos ar1 q := pos_cyc [(⟨2, 1, 6, 0⟩, 1), (⟨1, 2, 34, 1⟩, 5)] 2 ⟨mem_num rfl, rfl, mem_num rfl, rfl, rfl⟩ (by simp [Cy.lenN, CArc.len]; omega)
theorem pos0 {q : Int} (h : q < 64) : Pos ar0 q := pos_cyc [(⟨0, 1, 24, 0⟩, 3), (⟨1, 2, 34, 0⟩, 5), (⟨2, 0, 6, 1⟩, 2)] 0 ⟨mem_num rfl, rfl, mem_num rfl, rfl, mem_num rfl, rfl, rfl⟩ (by simp [Cy.lenN, CArc.len]; omega)
theorem pos2 {q : Int} (h : q < 32) : Pos ar2 q := pos_cyc [(⟨2, 2, 32, 1⟩, 5)] 2 ⟨mem_num rfl, rfl, rfl⟩ (by simp [Cy.lenN, CArc.len]; omega)
theorem pos3 (q : Int) : Pos ar3 q := by
  by_cases h : q < 32
  · exact pos_cyc [(⟨2, 2, 32, 1⟩, 5)] 2 ⟨mem_num rfl, rfl, rfl⟩ (by simp [Cy.lenN, CArc.len]; omega)
  · exact pos_cyc [(⟨1, 1, -31, -1⟩, 4)] 1 ⟨mem_num rfl, rfl, rfl⟩ (by simp [Cy.lenN, CArc.len]; omega)
theorem in1 : [0, 2, 1] ∈ ordersM t1 := by rw [ord1]; decide
theorem in2 : [0, 1, 2] ∈ ordersM t2 := by rw [ord2]; decide
theorem npos1 : ¬ Pos (arcsL t1 [0, 2, 1]) 40 := (lev_iff (n := 3) (ready_of in1 (by omega) (by omega))).1 (by rw [arcs1]; decide +kernel)
theorem npos2 : ¬ Pos (arcsL t2 [0, 1, 2]) 32 := (lev_iff (n := 3) (ready_of in2 (by omega) (by omega))).1 (by rw [arcs2]; decide +kernel)
theorem best1 : bestF t1 = some (40, [0, 2, 1]) := by
  obtain ⟨o, h1, h2, h3⟩ := best_eq in1 (by omega) (by omega) npos1 (fun o ho q h1 h2 => by
    rw [ord1] at ho
    rcases List.mem_cons.1 ho with rfl | ho
    · rw [arcs0]; exact pos0 (by omega)
    · rcases List.mem_cons.1 ho with rfl | ho
      · rw [arcs1]; exact pos1 h2
      · cases ho)
  rw [ord1] at h1
  rcases List.mem_cons.1 h1 with rfl | h1
  · rw [arcs0] at h2; exact absurd (pos0 (by omega)) h2
  · rcases List.mem_cons.1 h1 with rfl | h1
    · exact h3
    · cases h1
theorem best2 : bestF t2 = some (32, [0, 1, 2]) := by
  obtain ⟨o, h1, h2, h3⟩ := best_eq in2 (by omega) (by omega) npos2 (fun o ho q h1 h2 => by
    rw [ord2] at ho
    rcases List.mem_cons.1 ho with rfl | ho
    · rw [arcs2]; exact pos2 h2
    · cases ho)
  rw [ord2] at h1
  rcases List.mem_cons.1 h1 with rfl | h1
  · exact h3
  · cases h1
theorem best3 : bestF t3 = none := best_no fun o ho q _ _ => by
  rw [ord3] at ho
  rcases List.mem_cons.1 ho with rfl | ho
  · rw [arcs3]; exact pos3 q
  · cases ho
theorem lv1 : (lvM 3 (arcsL t1 [0, 2, 1]) 40).1 = [0, 24, 18] := by
  have hr : Ready 3 (arcsL t1 [0, 2, 1]) 40 := ready_of in1 (by omega) (by omega)
  have h1 : levels (lar 40 (arcsL t1 [0, 2, 1])) 3 = ([0, 24, 18], true) := by rw [arcs1]; decide +kernel
  unfold lvM
  rw [if_pos hr, show (3 : Int).toNat = 3 from rfl, h1, if_pos rfl]
theorem lv2 : (lvM 3 (arcsL t2 [0, 1, 2]) 32).1 = [0, 4, 8] := by
  have hr : Ready 3 (arcsL t2 [0, 1, 2]) 32 := ready_of in2 (by omega) (by omega)
  have h1 : levels (lar 32 (arcsL t2 [0, 1, 2])) 3 = ([0, 4, 8], true) := by rw [arcs2]; decide +kernel
  unfold lvM
  rw [if_pos hr, show (3 : Int).toNat = 3 from rfl, h1, if_pos rfl]
theorem bm1 : ∃ pr, bestM t1 = some ⟨40, [0, 2, 1], [0, 24, 18], pr⟩ := by
  refine ⟨(lvM 3 (arcsL t1 [0, 2, 1]) 39).2.1, ?_⟩
  unfold bestM
  rw [best1, Option.map_some]
  show some (Sched.mk 40 [0, 2, 1] (lvM 3 (arcsL t1 [0, 2, 1]) 40).1 _) = _
  rw [lv1]
  rfl
theorem bm2 : ∃ pr, bestM t2 = some ⟨32, [0, 1, 2], [0, 4, 8], pr⟩ := by
  refine ⟨(lvM 3 (arcsL t2 [0, 1, 2]) 31).2.1, ?_⟩
  unfold bestM
  rw [best2, Option.map_some]
  show some (Sched.mk 32 [0, 1, 2] (lvM 3 (arcsL t2 [0, 1, 2]) 32).1 _) = _
  rw [lv2]
  rfl
theorem bm3 : bestM t3 = none := by unfold bestM; rw [best3]; rfl
/-- what is in a schedule that Check accepts, or that Best returns -/
theorem sched_in {T : Tool} {s : Sched} (h : Chk T s) : (s.order.length ≤ 5 ∧ ∀ z ∈ s.order, inI z) ∧ (s.starts.length ≤ 32 ∧ ∀ z ∈ s.starts, inI z) ∧ (s.proof.length ≤ 200 ∧ ∀ z ∈ s.proof, inI z) := by
  obtain ⟨h1, h2, h3, h4⟩ := h
  have k := orders_mem h1
  have kb := orders_bd h1
  refine ⟨⟨by have := k.1.2.2.2.1; omega, fun z hz => by have := kb z hz; have := k.1.2.2.2.1; unfold inI; omega⟩, Cy.ver_in h3, ?_⟩
  split at h4
  · rw [h4]; simp
  · obtain ⟨hR, a, b, h5, _⟩ := h4
    unfold Cy.exM at h5
    simp only [Option.ite_none_right_eq_some] at h5
    refine ⟨h5.1.1.2, fun z hz => ?_⟩
    have := h5.1.2 z hz
    have := hR.1.2.1
    unfold inI; omega
theorem schV_of {T : Tool} {s : Sched} (h : Chk T s) : SchV s (slA 1 (intsA s.order)) (slA 1 (intsA s.starts)) (slA 1 (intsA s.proof)) := by
  obtain ⟨⟨h1, h2⟩, ⟨h3, h4⟩, h5, h6⟩ := sched_in h
  exact ⟨slA_holds _ _, slA_holds _ _, slA_holds _ _, by have := h.2.1; unfold inI; omega, by omega, by omega, h4, by omega, h6⟩
end Go.Proofs.Ytemklhljjaniaaa
/-
  Cluster: the fixed examples, run.
-/
namespace Go.Proofs.Ytemklhljjaniaaa
open Go
open Cy (GC CArc arcA arcsOf isPer ValidA okA smM smT lvM lvT VerOk RefOk Ready Pos frz_i frz_b intsA_len)

noncomputable def fs11 : List (FuncId × HModel) := [(14, pureFH 4 M14), (19, pureFH 4 M19), (22, H22), (18, pureH 4 Cy.M18), (21, pureH 4 M21), (26, pureH 4 M26), (16, pureH 4 M16)]
@[simp] theorem fs11_14 : lookM fs11 14 = some (pureFH 4 M14) := rfl
@[simp] theorem fs11_19 : lookM fs11 19 = some (pureFH 4 M19) := rfl
@[simp] theorem fs11_22 : lookM fs11 22 = some H22 := rfl
@[simp] theorem fs11_18 : lookM fs11 18 = some (pureH 4 Cy.M18) := rfl
@[simp] theorem fs11_21 : lookM fs11 21 = some (pureH 4 M21) := rfl
@[simp] theorem fs11_26 : lookM fs11 26 = some (pureH 4 M26) := rfl
@[simp] theorem fs11_16 : lookM fs11 16 = some (pureH 4 M16) := rfl
theorem sound11 : ∀ f M, lookM fs11 f = some M → FnSpecY Try.prog GC f M := lookM_cons (FnSpecY.of_pureF spec14 4) (lookM_cons (FnSpecY.of_pureF spec19 4) (lookM_cons spec22H (lookM_cons (FnSpecY.of_pure Cy.spec18 4) (lookM_cons (FnSpecY.of_pure spec21 4) (lookM_cons (FnSpecY.of_pure spec26 4) (lookM_cons (FnSpecY.of_pure spec16 4) lookM_nil))))))
def M11 : PModel := fun args => match args with
  | [] => some (.bool true)
  | _ => none
abbrev ca : AV := .agg [.int .i64 20, .int .i64 12]
abbrev cb : AV := .agg [.int .i64 30, .int .i64 12]
abbrev cc : AV := .agg [.int .i64 20, .int .i64 9]
abbrev cd : AV := .agg [.int .i64 30, .int .i64 9]
abbrev T1 (v : AV) : AV := .agg [v, .int .i64 1, .int .i64 1, .int .i64 2, .int .i64 1]
abbrev T2 (v : AV) : AV := .agg [v, .int .i64 1, .int .i64 1, .int .i64 2, .int .i64 2]
abbrev i3 (a b c : Int) : AV := .fs 1 [.int .i64 a, .int .i64 b, .int .i64 c]
theorem ints3 (a b c : Int) (ha : 0 ≤ a ∧ a ≤ 100) (hb : 0 ≤ b ∧ b ≤ 100) (hc : 0 ≤ c ∧ c ≤ 100) : intsOf (i3 a b c) = some [a, b, c] := intsOf_of (xs := [a, b, c]) (.inr rfl) (by simp) (by intro x hx; simp at hx; rcases hx with rfl | rfl | rfl <;> (unfold inI; omega))
open Classical in
set_option maxRecDepth 100000 in
set_option maxHeartbeats 8000000 in
theorem spec11 : PureSpec Try.prog GC 11 M11 := by
  refine PureSpec.of_ev (E := envOf GC fs11) (envOf_sound sound11) rfl at11 comp11 1 ?_
  intro args r h
  unfold M11 at h
  split at h
  rotate_left
  · cases h
  injection h with h; subst h
  refine ⟨0, ?_⟩
  obtain ⟨p1, hb1⟩ := bm1
  obtain ⟨p2, hb2⟩ := bm2
  have hb3 := bm3
  have s1 := schV_of (best_chk hb1)
  have s2 := schV_of (best_chk hb2)
  have h12 : SlA 2 (t1.ch.map chA) (.fs 2 [ca, cb]) := .inr rfl
  have h22 : SlA 2 (t2.ch.map chA) (.fs 2 [ca, cb]) := .inr rfl
  have h32 : SlA 2 (t3.ch.map chA) (.fs 2 [cc, cd]) := .inr rfl
  have m1 := M14_eq h12 (by decide)
  rw [ord1] at m1
  have m1 : M14 [T1 (.fs 2 [ca, cb])] = some (.fs 1 [i3 0 1 2, i3 0 2 1]) := m1
  have m2 := M19_eq (o := [0, 2, 1]) h12 (by decide) (ov := i3 0 2 1) (.inr rfl)
  rw [arcsM_some in1, arcs1] at m2
  obtain ⟨W, hW⟩ : ∃ W, W = slA 4 (ar1.map arcA) := ⟨_, rfl⟩
  have m2 : M19 [T1 (.fs 2 [ca, cb]), i3 0 2 1] = some (.tup [W, .int .i64 0]) := by rw [hW]; exact m2
  have m3 := M19_eq (o := [0, 1]) h12 (by decide) (ov := .fs 1 [.int .i64 0, .int .i64 1]) (.inr rfl)
  have n3 : arcsM t1 [0, 1] = none := if_neg (by rw [ord1]; decide)
  rw [n3] at m3
  have m3 : M19 [T1 (.fs 2 [ca, cb]), .fs 1 [.int .i64 0, .int .i64 1]] = some (.tup [.nilS, .int .i64 130]) := m3
  obtain ⟨P1, hP1⟩ : ∃ P, P = slA 1 (intsA p1) := ⟨_, rfl⟩
  obtain ⟨P2, hP2⟩ : ∃ P, P = slA 1 (intsA p2) := ⟨_, rfl⟩
  have fP1 : ∀ A n, frz A n P1 = P1 := fun A n => by rw [hP1]; exact (slA_holds 1 _).frz n
  have fP2 : ∀ A n, frz A n P2 = P2 := fun A n => by rw [hP2]; exact (slA_holds 1 _).frz n
  have fW : ∀ A n, frz A n W = W := fun A n => by rw [hW]; exact (slA_holds 4 _).frz n
  obtain ⟨z1, z2⟩ := slA_form p1
  rw [← hP1] at z1 z2
  obtain ⟨y1, y2⟩ := slA_form p2
  rw [← hP2] at y1 y2
  -- Best
  obtain ⟨S1, hS1⟩ : ∃ S, S = AV.agg [.int .i64 40, i3 0 2 1, i3 0 24 18, P1] := ⟨_, rfl⟩
  obtain ⟨S2, hS2⟩ : ∃ S, S = AV.agg [.int .i64 32, i3 0 1 2, i3 0 4 8, P2] := ⟨_, rfl⟩
  have c1 := fun h => H22_eq h (A := [.row 2 false [ca, cb], .row 5 false [T1 (.sl 0 0 2)]]) (chv := .sl 0 0 2) h12 (fun X => rfl) (by decide)
  rw [hb1] at c1
  have c1 : ∀ h, H22 h [T1 (.sl 0 0 2)] [.row 2 false [ca, cb], .row 5 false [T1 (.sl 0 0 2)]] = some (.tup [S1, .int .i64 0], [.row 2 false [ca, cb], .row 5 false [T1 (.sl 0 0 2)], .row 5 false [T1 (.sl 0 0 2)], .row 4 false [S1], .row 4 false [S1]]) := fun h => by
    rw [hS1, hP1]; exact c1 h
  have c2 := fun h => H22_eq h (A := [.row 2 false [ca, cb], .row 5 false [T1 (.sl 0 0 2)], .row 5 false [T1 (.sl 0 0 2)], .row 4 false [S1], .row 4 false [S1], .row 4 false [S1], .row 5 false [T2 (.sl 0 0 2)]]) (chv := .sl 0 0 2) h22 (fun X => rfl) (by decide)
  rw [hb2] at c2
  have c2 : ∀ h, H22 h [T2 (.sl 0 0 2)] [.row 2 false [ca, cb], .row 5 false [T1 (.sl 0 0 2)], .row 5 false [T1 (.sl 0 0 2)], .row 4 false [S1], .row 4 false [S1], .row 4 false [S1], .row 5 false [T2 (.sl 0 0 2)]] =
      some (.tup [S2, .int .i64 0], [.row 2 false [ca, cb], .row 5 false [T1 (.sl 0 0 2)], .row 5 false [T1 (.sl 0 0 2)], .row 4 false [S1], .row 4 false [S1], .row 4 false [S1], .row 5 false [T2 (.sl 0 0 2)], .row 5 false [T2 (.sl 0 0 2)], .row 4 false [S2], .row 4 false [S2]]) := fun h => by
    rw [hS2, hP2]; exact c2 h
  have c3 := fun h => H22_eq h (A := [.row 2 false [ca, cb], .row 5 false [T1 (.sl 0 0 2)], .row 5 false [T1 (.sl 0 0 2)], .row 4 false [S1], .row 4 false [S1], .row 4 false [S1], .row 5 false [T2 (.sl 0 0 2)], .row 5 false [T2 (.sl 0 0 2)], .row 4 false [S2], .row 4 false [S2], .row 4 false [S2], .row 5 false [T2 (.sl 12 0 2)], .row 2 false [cc, cd]]) (chv := .sl 12 0 2) h32 (fun X => rfl) (by decide)
  rw [hb3] at c3
  have c3 : ∀ h, H22 h [T2 (.sl 12 0 2)] [.row 2 false [ca, cb], .row 5 false [T1 (.sl 0 0 2)], .row 5 false [T1 (.sl 0 0 2)], .row 4 false [S1], .row 4 false [S1], .row 4 false [S1], .row 5 false [T2 (.sl 0 0 2)], .row 5 false [T2 (.sl 0 0 2)], .row 4 false [S2], .row 4 false [S2], .row 4 false [S2], .row 5 false [T2 (.sl 12 0 2)], .row 2 false [cc, cd]] =
      some (.tup [zA, .int .i64 130], [.row 2 false [ca, cb], .row 5 false [T1 (.sl 0 0 2)], .row 5 false [T1 (.sl 0 0 2)], .row 4 false [S1], .row 4 false [S1], .row 4 false [S1], .row 5 false [T2 (.sl 0 0 2)], .row 5 false [T2 (.sl 0 0 2)], .row 4 false [S2], .row 4 false [S2], .row 4 false [S2], .row 5 false [T2 (.sl 12 0 2)], .row 2 false [cc, cd], .row 5 false [T2 (.sl 12 0 2)], .row 4 false [zA], .row 4 false [zA]]) := c3
  -- the rest
  have k1 : Cy.M18 [i3 0 2 1, i3 0 2 1] = some (.bool true) := by simp only [Cy.M18, ints3 0 2 1 (by omega) (by omega) (by omega)]; simp
  have k2 : Cy.M18 [i3 0 24 18, i3 0 24 18] = some (.bool true) := by simp only [Cy.M18, ints3 0 24 18 (by omega) (by omega) (by omega)]; simp
  have k3 : Cy.M18 [i3 0 4 8, i3 0 4 8] = some (.bool true) := by simp only [Cy.M18, ints3 0 4 8 (by omega) (by omega) (by omega)]; simp
  have e1 := M21_eq (xs := ar1) (ys := ar1) (a := W) (b := .fs 4 (ar1.map arcA)) (by rw [hW]; exact slA_holds _ _) (.inr rfl) (by decide) (by decide)
  rw [decide_eq_true rfl] at e1
  have e1 : M21 [W, .fs 4 [.agg [.int .i64 0, .int .i64 2, .int .i64 6, .int .i64 0], .agg [.int .i64 2, .int .i64 1, .int .i64 6, .int .i64 0], .agg [.int .i64 1, .int .i64 0, .int .i64 6, .int .i64 1], .agg [.int .i64 0, .int .i64 1, .int .i64 24, .int .i64 0], .agg [.int .i64 1, .int .i64 0, .int .i64 (-36), .int .i64 0], .agg [.int .i64 1, .int .i64 2, .int .i64 34, .int .i64 1], .agg [.int .i64 2, .int .i64 1, .int .i64 (-46), .int .i64 (-1)]]] = some (.bool true) := e1
  have q1 := M26_eq h12 (by decide) s1
  rw [decide_eq_true (best_chk hb1)] at q1
  have q1 : M26 [T1 (.fs 2 [ca, cb]), .agg [.int .i64 40, i3 0 2 1, i3 0 24 18, P1]] = some (.bool true) := by rw [hP1]; exact q1
  have q2 := M26_eq h22 (by decide) s2
  rw [decide_eq_true (best_chk hb2)] at q2
  have q2 : M26 [T2 (.fs 2 [ca, cb]), .agg [.int .i64 32, i3 0 1 2, i3 0 4 8, P2]] = some (.bool true) := by rw [hP2]; exact q2
  have q3 := M26_eq h22 (by decide) s1
  rw [decide_eq_false (fun h => absurd h.1 (by rw [ord2]; show ¬ ([0, 2, 1] : List Int) ∈ [[0, 1, 2]]; decide))] at q3
  have q3 : M26 [T2 (.fs 2 [ca, cb]), .agg [.int .i64 40, i3 0 2 1, i3 0 24 18, P1]] = some (.bool false) := by rw [hP1]; exact q3
  have q4 := M26_eq h12 (by decide) (s := zeroS) (ov := .nilS) (sv := .nilS) (pv := .nilS) ⟨.inl ⟨rfl, rfl⟩, .inl ⟨rfl, rfl⟩, .inl ⟨rfl, rfl⟩, by unfold inI zeroS; simp, by simp [zeroS], by simp [zeroS], by simp [zeroS], by simp [zeroS], by simp [zeroS]⟩
  rw [decide_eq_false (fun h => absurd h.1 (by rw [ord1]; decide))] at q4
  have q4 : M26 [T1 (.fs 2 [ca, cb]), .agg [.int .i64 0, .nilS, .nilS, .nilS]] = some (.bool false) := q4
  have q5 := M16_eq (T := ⟨[], 0, 0, 0, 0⟩) (chv := .nilS) (.inl ⟨rfl, rfl⟩) (by decide)
  have q5 : M16 [.agg [.nilS, .int .i64 0, .int .i64 0, .int .i64 0, .int .i64 0]] = some (.bool false) := q5
  have q6 := M14_eq (T := ⟨[], 0, 0, 0, 0⟩) (chv := .nilS) (.inl ⟨rfl, rfl⟩) (by decide)
  have q6 : M14 [.agg [.nilS, .int .i64 0, .int .i64 0, .int .i64 0, .int .i64 0]] = some .nilS := q6
  subst hS1; subst hS2
  unfold zA at c3
  rw [evP_run _ _ rfl]
  simp [mf11, m1, m2, m3, c1, c2, c3, fP1, fP2, fW, k1, k2, k3, e1, q1, q2, q3, q4, q5, q6]
end Go.Proofs.Ytemklhljjaniaaa
/-
  Cluster: what the laws share.
-/
namespace Go.Proofs.Ytemklhljjaniaaa
open Go
open Cy (GC CArc arcA arcsOf isPer ValidA okA smM smT lvM lvT VerOk RefOk Ready Pos frz_i frz_b intsA_len M12_eq)

@[simp] theorem M11_nil : M11 [] = some (.bool true) := rfl
noncomputable def fsN : List (FuncId × HModel) := [(11, pureH 4 M11), (13, pureFH 4 M13), (14, pureFH 4 M14), (19, pureFH 4 M19), (22, pureH 4 M22), (26, pureH 4 M26), (28, pureH 4 Cy.M23), (30, pureH 4 Cy.M12), (31, Cy.H14), (32, pureH 4 Cy.M19)]
@[simp] theorem fsN_11 : lookM fsN 11 = some (pureH 4 M11) := rfl
@[simp] theorem fsN_13 : lookM fsN 13 = some (pureFH 4 M13) := rfl
@[simp] theorem fsN_14 : lookM fsN 14 = some (pureFH 4 M14) := rfl
@[simp] theorem fsN_19 : lookM fsN 19 = some (pureFH 4 M19) := rfl
@[simp] theorem fsN_22 : lookM fsN 22 = some (pureH 4 M22) := rfl
@[simp] theorem fsN_26 : lookM fsN 26 = some (pureH 4 M26) := rfl
@[simp] theorem fsN_28 : lookM fsN 28 = some (pureH 4 Cy.M23) := rfl
@[simp] theorem fsN_30 : lookM fsN 30 = some (pureH 4 Cy.M12) := rfl
@[simp] theorem fsN_31 : lookM fsN 31 = some Cy.H14 := rfl
@[simp] theorem fsN_32 : lookM fsN 32 = some (pureH 4 Cy.M19) := rfl
set_option maxRecDepth 100000 in
theorem soundN : ∀ f M, lookM fsN f = some M → FnSpecY Try.prog GC f M := lookM_cons (FnSpecY.of_pure spec11 4) (lookM_cons (FnSpecY.of_pureF spec13 4) (lookM_cons (FnSpecY.of_pureF spec14 4) (lookM_cons (FnSpecY.of_pureF spec19 4) (lookM_cons (FnSpecY.of_pure spec22 4) (lookM_cons (FnSpecY.of_pure spec26 4) (lookM_cons (FnSpecY.of_pure Cy.spec23 4) (lookM_cons (FnSpecY.of_pure Cy.spec12 4) (lookM_cons Cy.spec14 (lookM_cons (FnSpecY.of_pure Cy.spec19 4) lookM_nil)))))))))

/-! ### arguments -/
set_option maxRecDepth 100000 in
theorem x5_arg {x : AV} {n : Nat} (h : TA Try.prog (n + 2) 26 x) : ∃ y, x = x5A y ∧ y.inR := by
  obtain ⟨ls, rfl, hc, hl⟩ := TA.agg (show aggT Try.prog 26 = true by kernel_rfl) h
  simp only [TC, Try.underlying26] at hc
  rw [show Try.prog.cellsOf 3 = 1 by kernel_rfl] at hc
  simp only [TCa, Try.underlying3] at hc
  obtain ⟨_, _, rfl, ⟨a, rfl, ha⟩, _, _, _, rfl, ⟨b, rfl, hb⟩, _, _, _, rfl, ⟨c, rfl, hc'⟩, _, _, _, rfl, ⟨d, rfl, hd⟩, _, _, _, rfl, ⟨e, rfl, he⟩, _, rfl⟩ := hc
  exact ⟨⟨a, b, c, d, e⟩, rfl, ha, hb, hc', hd, he⟩
set_option maxRecDepth 100000 in
theorem two_arg {x : AV} {n : Nat} (h : TA Try.prog (n + 2) 68 x) : ∃ y : Int × Int, x = chA y ∧ inI y.1 ∧ inI y.2 := by
  obtain ⟨ls, rfl, hc, hl⟩ := TA.agg (show aggT Try.prog 68 = true by kernel_rfl) h
  simp only [TC, Try.underlying68] at hc
  rw [show Try.prog.cellsOf 3 = 1 by kernel_rfl] at hc
  simp only [TCa, Try.underlying3] at hc
  obtain ⟨_, _, rfl, ⟨a, rfl, ha⟩, _, _, _, rfl, ⟨b, rfl, hb⟩, _, rfl⟩ := hc
  exact ⟨(a, b), rfl, ha, hb⟩
set_option maxRecDepth 100000 in
theorem three_arg {x : AV} {n : Nat} (h : TA Try.prog (n + 2) 45 x) : ∃ a b c : Int, x = .agg [.int .i64 a, .int .i64 b, .int .i64 c] ∧ inI a ∧ inI b ∧ inI c := by
  obtain ⟨ls, rfl, hc, hl⟩ := TA.agg (show aggT Try.prog 45 = true by kernel_rfl) h
  simp only [TC, Try.underlying45] at hc
  rw [show Try.prog.cellsOf 3 = 1 by kernel_rfl] at hc
  simp only [TCa, Try.underlying3] at hc
  obtain ⟨_, _, rfl, ⟨a, rfl, ha⟩, _, _, _, rfl, ⟨b, rfl, hb⟩, _, _, _, rfl, ⟨c, rfl, hc'⟩, _, rfl⟩ := hc
  exact ⟨a, b, c, rfl, ha, hb, hc'⟩
set_option maxRecDepth 100000 in
theorem four_arg {x : AV} {n : Nat} (h : TA Try.prog (n + 2) 66 x) : ∃ a b c d : Int, x = .agg [.int .i64 a, .int .i64 b, .int .i64 c, .int .i64 d] ∧ inI a ∧ inI b ∧ inI c ∧ inI d := by
  obtain ⟨ls, rfl, hc, hl⟩ := TA.agg (show aggT Try.prog 66 = true by kernel_rfl) h
  simp only [TC, Try.underlying66] at hc
  rw [show Try.prog.cellsOf 3 = 1 by kernel_rfl] at hc
  simp only [TCa, Try.underlying3] at hc
  obtain ⟨_, _, rfl, ⟨a, rfl, ha⟩, _, _, _, rfl, ⟨b, rfl, hb⟩, _, _, _, rfl, ⟨c, rfl, hc'⟩, _, _, _, rfl, ⟨d, rfl, hd⟩, _, rfl⟩ := hc
  exact ⟨a, b, c, d, rfl, ha, hb, hc', hd⟩
set_option maxRecDepth 100000 in
theorem twos_arg {raw : AV} {n : Nat} (h : TA Try.prog (n + 3) 27 raw) : ∃ ys : List (Int × Int), SlA 2 (ys.map chA) raw ∧ (∀ y ∈ ys, inI y.1 ∧ inI y.2) ∧ ys.length ≤ 9223372036854775807 := by
  obtain ⟨es, h1, h2, h3⟩ := TA.sl Try.underlying27 h
  rw [show Try.prog.cellsOf 68 = 2 by kernel_rfl] at h1
  obtain ⟨ys, rfl, hy⟩ := map_of_forall (f := chA) (p := fun y => inI y.1 ∧ inI y.2) fun x hx => two_arg (n := n) (h3 x hx)
  exact ⟨ys, h1, hy, by simpa using h2⟩
set_option maxRecDepth 100000 in
theorem ints_arg {x : AV} {n : Nat} (h : TA Try.prog (n + 1) 25 x) : ∃ zs : List Int, SlA 1 (intsA zs) x ∧ zs.length ≤ 9223372036854775807 ∧ ∀ z ∈ zs, inI z :=
  TA.ints Try.underlying25 Try.underlying3 (by kernel_rfl) h
set_option maxRecDepth 100000 in
theorem ints_cell {ls : List AV} {n : Nat} (h : TC Try.prog (n + 1) 25 ls) (hl : ls.length = Try.prog.cellsOf 25) : ∃ (x : AV) (zs : List Int), ls = [x] ∧ SlA 1 (intsA zs) x ∧ zs.length ≤ 9223372036854775807 ∧ ∀ z ∈ zs, inI z := by
  rw [show Try.prog.cellsOf 25 = 1 by kernel_rfl] at hl
  obtain ⟨x, rfl⟩ := List.length_eq_one_iff.1 hl
  obtain ⟨zs, h1, h2, h3⟩ := ints_arg (n := n) (x := x) ⟨[x], h, by rw [show Try.prog.cellsOf 25 = 1 by kernel_rfl]; rfl, by
    unfold wholeA
    rw [if_neg (by rw [show aggT Try.prog 25 = false by kernel_rfl]; simp)]; rfl⟩
  exact ⟨x, zs, rfl, h1, h2, h3⟩
set_option maxRecDepth 100000 in
theorem sched_arg {x : AV} {n : Nat} (h : TA Try.prog (n + 3) 30 x) : ∃ s ov sv pv, x = .agg [.int .i64 (Sched.period s), ov, sv, pv] ∧ SchV s ov sv pv := by
  obtain ⟨ls, rfl, hc, hl⟩ := TA.agg (show aggT Try.prog 30 = true by kernel_rfl) h
  rw [show n + 3 = (n + 2) + 1 from rfl] at hc
  unfold TC at hc
  rw [Try.underlying30] at hc
  simp only [TCs] at hc
  obtain ⟨a, _, rfl, ha, la, b, _, rfl, hb, lb, c, _, rfl, hc, lc, d, _, rfl, hd, ld, rfl⟩ := hc
  obtain ⟨ov, zo, rfl, o1, o2, o3⟩ := ints_cell (n := n + 1) hb lb
  obtain ⟨sv, zs, rfl, s1, s2, s3⟩ := ints_cell (n := n + 1) hc lc
  obtain ⟨pv, zp, rfl, p1, p2, p3⟩ := ints_cell (n := n + 1) hd ld
  simp only [TC, Try.underlying3] at ha
  obtain ⟨z, rfl, hz⟩ := ha
  exact ⟨⟨z, zo, zs, zp⟩, ov, sv, pv, rfl, o1, s1, p1, hz, o2, s2, s3, p2, p3⟩
theorem ownK : ownKnob Try.prog.godebug = none := by kernel_rfl
theorem grel0 {W : World} {OK : Nat → Prop} : GRel GC W OK := fun gl cs h => by simp [GC] at h
noncomputable def laidWorld (os : Os) : World := World.holding Try.prog os ⟨#[], #[], []⟩

/-! ### Make's tool -/
theorem mk_ch (x : X5) (ys : List (Int × Int)) : SlA 2 ((makeT x ys).ch.map chA) (slA 2 ((makeT x ys).ch.map chA)) := slA_holds _ _
theorem mk_len (x : X5) (ys : List (Int × Int)) : (makeT x ys).ch.length ≤ 4 := (make_valid x ys).2.2.2.1
theorem mk_frz (x : X5) (ys : List (Int × Int)) (A : Arena) : frz A 4 (mkA x ys) = mkA x ys := toolA_frz (fun A n => (mk_ch x ys).frz (A := A) n) A 3
theorem mk_noRef (x : X5) (ys : List (Int × Int)) : noRefB 4 (mkA x ys) = true := toolA_noRef (fun n => (mk_ch x ys).noRef n) 3
theorem schA_frz (s : Sched) (A : Arena) (n : Nat) : frz A (n + 1) (schA s) = schA s := by
  have k := fun o => (slA_holds 1 (intsA o)).frz (A := A) n
  simp [schA, frz, k, frz_i]
theorem schA_noRef (s : Sched) (n : Nat) : noRefB (n + 1) (schA s) = true := by
  have k := fun o => (slA_holds 1 (intsA o)).noRef n
  have ki : ∀ z, noRefB n (.int .i64 z) = true := fun z => by cases n <;> rfl
  simp [schA, noRefB, k, ki]
open Classical in
theorem M26_of {T : Tool} {chv : AV} (hcv : SlA 2 (T.ch.map chA) chv) (hl : T.ch.length ≤ 200) {s : Sched} (h : Chk T s) : M26 [toolA T chv, schA s] = some (.bool true) := by
  have := M26_eq hcv hl (schV_of h)
  rw [decide_eq_true h] at this
  exact this
end Go.Proofs.Ytemklhljjaniaaa
/-
  Cluster, plain: what periods are possible; one chamber, two blades, longer stays.
-/
namespace Go.Proofs.Ytemklhljjaniaaa
open Go
open Cy (GC CArc arcA arcsOf isPer ValidA okA smM smT lvM lvT VerOk RefOk Ready Pos lar Keeps lv_ok lv_starts lv_cycle ver_pos ref_pos)

theorem keeps_iff {T : Tool} {o : List Int} {p : Int} {s : List Int} : Keeps (lar p (arcsL T o)) s ↔
    (∀ i, i < o.length → s.getD (arcO T o i).f.toNat 0 + (arcO T o i).len p ≤ s.getD (arcO T o i).t.toNat 0) ∧
    (∀ i, i < T.ch.length → s.getD (lkT T o (i + 1)).1.toNat 0 + (workT T + (T.ch.getD i (0, 0)).1 - p * (lkT T o (i + 1)).2.2) ≤ s.getD (lkT T o (i + 1)).2.1.toNat 0 ∧
      s.getD (lkT T o (i + 1)).2.1.toNat 0 + (-(workT T + (T.ch.getD i (0, 0)).1 + (T.ch.getD i (0, 0)).2) - p * -(lkT T o (i + 1)).2.2) ≤ s.getD (lkT T o (i + 1)).1.toNat 0) := by
  constructor
  · intro h
    refine ⟨fun i hi => ?_, fun i hi => ⟨?_, ?_⟩⟩
    · exact h _ (List.mem_map.2 ⟨arcO T o i, List.mem_append.2 (.inl (List.mem_map.2 ⟨i, List.mem_range.2 hi, rfl⟩)), rfl⟩)
    · exact h _ (List.mem_map.2 ⟨_, List.mem_append.2 (.inr (List.mem_flatMap.2 ⟨i, List.mem_range.2 hi, List.mem_cons_self ..⟩)), rfl⟩)
    · exact h _ (List.mem_map.2 ⟨_, List.mem_append.2 (.inr (List.mem_flatMap.2 ⟨i, List.mem_range.2 hi, List.mem_cons_of_mem _ (List.mem_singleton.2 rfl)⟩)), rfl⟩)
  · rintro ⟨h1, h2⟩ a ha
    obtain ⟨c, hc, rfl⟩ := List.mem_map.1 ha
    rcases List.mem_append.1 hc with hc | hc
    · obtain ⟨i, hi, rfl⟩ := List.mem_map.1 hc
      exact h1 i (List.mem_range.1 hi)
    · obtain ⟨i, hi, hc⟩ := List.mem_flatMap.1 hc
      simp only [arcC, List.mem_cons, List.not_mem_nil, or_false] at hc
      rcases hc with rfl | rfl
      · exact (h2 i (List.mem_range.1 hi)).1
      · exact (h2 i (List.mem_range.1 hi)).2
theorem np_of {T : Tool} {o : List Int} (hO : o ∈ ordersM T) {p : Int} {s : List Int} (h : Keeps (lar p (arcsL T o)) s) : ¬ Pos (arcsL T o) p := Cy.keeps_noP (arcs_ok hO).1.2.2 h
theorem np_ver {T : Tool} {o : List Int} (hO : o ∈ ordersM T) {p : Int} (h1 : -1000000 ≤ p) (h2 : p ≤ 1000000) (h : ¬ Pos (arcsL T o) p) : ∃ s, VerOk (o.length : Int) (arcsL T o) p s := by
  have hR := ready_of hO h1 h2
  exact ⟨_, (lv_starts hR ((lv_ok hR).2 h)).2.1⟩
theorem np_keeps {T : Tool} {o : List Int} (hO : o ∈ ordersM T) {p : Int} (h1 : -1000000 ≤ p) (h2 : p ≤ 1000000) (h : ¬ Pos (arcsL T o) p) : ∃ s, Keeps (lar p (arcsL T o)) s := by
  obtain ⟨s, hs⟩ := np_ver hO h1 h2 h
  exact ⟨s, hs.2.2.2⟩

/-! ### one chamber, one blade -/
theorem one_ord {T : Tool} (hv : ValidC T) (hn : T.ch.length = 1) (hb : T.blades = 1) : ordersM T = [[0, 1]] := by
  unfold ordersM
  rw [if_pos hv, hn, hb]
  decide
theorem one_best {T : Tool} (hv : ValidC T) {tm sy : Int} (hc : T.ch = [(tm, sy)]) (hb : T.blades = 1) (hp : 1 ≤ T.pick) (hp2 : 0 ≤ T.place) : ∃ s, bestM T = some s ∧ s.period = 2 * workT T + tm + T.travel ∧ s.order = [0, 1] := by
  have ho := one_ord hv (by rw [hc]; rfl) hb
  have hO : [0, 1] ∈ ordersM T := by rw [ho]; decide
  have hw := workT_bd hv
  have htr := hv.2.1.2.2
  have htm := hv.1 (tm, sy) (by rw [hc]; simp)
  simp only [okCh] at htm
  have hw1 : 1 ≤ workT T := by unfold workT; rw [if_neg (by omega)]; omega
  have k0 : lkT T [0, 1] 1 = (0, 1, 0) := by unfold lkT; rw [if_neg (by omega)]; rfl
  have a0 : ∀ p, (arcO T [0, 1] 0).len p = workT T := fun p => by
    simp only [CArc.len, arcO, nextO, hb]; simp
  have a1 : ∀ p, (arcO T [0, 1] 1).len p = workT T + T.travel - p := fun p => by
    simp only [CArc.len, arcO, nextO, hb]; simp
  have ht : ∀ p, 1 ≤ p → p ≤ 1000000 → (¬ Pos (arcsL T [0, 1]) p ↔ 2 * workT T + tm + T.travel ≤ p) := fun p h1 h2 => by
    constructor
    · intro h
      obtain ⟨s, hs⟩ := np_keeps hO (by omega) h2 h
      obtain ⟨h3, h4⟩ := keeps_iff.1 hs
      have g1 := h3 1 (by simp)
      rw [a1] at g1
      have g2 := (h4 0 (by rw [hc]; simp)).1
      rw [show ((0 : Nat) : Int) + 1 = 1 from rfl, k0, hc] at g2
      have e1 : (arcO T [0, 1] 1).f = 1 := rfl
      have e2 : (arcO T [0, 1] 1).t = 0 := rfl
      rw [e1, e2] at g1
      simp at g1 g2
      omega
    · intro h
      refine np_of hO (s := [0, workT T + tm]) (keeps_iff.2 ⟨fun i hi => ?_, fun i hi => ?_⟩)
      · have : i = 0 ∨ i = 1 := by simp at hi; omega
        rcases this with rfl | rfl
        · rw [a0]
          have e1 : (arcO T [0, 1] 0).f = 0 := rfl
          have e2 : (arcO T [0, 1] 0).t = 1 := rfl
          rw [e1, e2]
          simp; omega
        · rw [a1]
          have e1 : (arcO T [0, 1] 1).f = 1 := rfl
          have e2 : (arcO T [0, 1] 1).t = 0 := rfl
          rw [e1, e2]
          simp; omega
      · obtain rfl : i = 0 := by rw [hc] at hi; simp at hi; omega
        rw [show ((0 : Nat) : Int) + 1 = 1 from rfl, k0, hc]
        simp; omega
  obtain ⟨o', h1, h2, h3⟩ := best_eq hO (p := 2 * workT T + tm + T.travel) (by omega) (by omega) ((ht _ (by omega) (by omega)).2 (by omega)) (fun o' ho' q h1 h2 => by
    rw [ho, List.mem_singleton] at ho'
    subst ho'
    exact Classical.byContradiction fun h => by have := (ht q h1 (by omega)).1 h; omega)
  refine ⟨_, by unfold bestM; rw [h3]; rfl, rfl, ?_⟩
  rw [ho, List.mem_singleton] at h1
  exact h1

/-! ### two blades -/
def rngI (n : Nat) : List Int := (List.range (n + 1)).map fun (i : Nat) => (i : Int)
theorem two_ord {T : Tool} (hv : ValidC T) (hb : T.blades = 2) : ordersM T = [rngI T.ch.length] := by
  unfold ordersM
  rw [if_pos hv, hb]
  have h1 := hv.2.2.1
  have h4 := hv.2.2.2.1
  generalize T.ch.length = n at *
  have : n = 1 ∨ n = 2 ∨ n = 3 ∨ n = 4 := by omega
  rcases this with rfl | rfl | rfl | rfl <;> decide
theorem rng_get (n i : Nat) (h : i ≤ n) : (rngI n).getD i 0 = (i : Int) := by
  unfold rngI
  rw [List.getD_eq_getElem?_getD, List.getElem?_map, List.getElem?_range (by omega)]; rfl
theorem two_np {T : Tool} (hv : ValidC T) (hb : T.blades = 2) {p : Int} (hp1 : 1 ≤ p) (hp2 : p ≤ 1000000) : ¬ Pos (arcsL T (rngI T.ch.length)) p ↔
    ((T.ch.length : Int) + 1) * (workT T + T.travel) ≤ p ∧ ∀ c ∈ T.ch, workT T + c.1 ≤ p ∧ p ≤ workT T + c.1 + c.2 := by
  have ho := two_ord hv hb
  have hO : rngI T.ch.length ∈ ordersM T := by rw [ho]; simp
  have hl : (rngI T.ch.length).length = T.ch.length + 1 := by simp [rngI]
  obtain ⟨d, hd⟩ : ∃ d, d = workT T + T.travel := ⟨_, rfl⟩
  have af : ∀ i, i ≤ T.ch.length → (arcO T (rngI T.ch.length) i).f = (i : Int) := fun i hi => rng_get _ _ hi
  have at1 : ∀ i, i < T.ch.length → (arcO T (rngI T.ch.length) i).t = ((i + 1 : Nat) : Int) ∧ (arcO T (rngI T.ch.length) i).len p = d := fun i hi => by
    have e : nextO (rngI T.ch.length) i = ((i + 1 : Nat) : Int) := by unfold nextO; rw [if_pos (by omega), rng_get _ _ (by omega)]
    refine ⟨e, ?_⟩
    simp only [CArc.len, arcO]
    rw [if_pos (.inl hb), if_pos (by omega), hd]; omega
  have at2 : (arcO T (rngI T.ch.length) T.ch.length).t = 0 ∧ (arcO T (rngI T.ch.length) T.ch.length).len p = d - p := by
    have e : nextO (rngI T.ch.length) T.ch.length = 0 := by unfold nextO; rw [if_neg (by omega)]
    refine ⟨e, ?_⟩
    simp only [CArc.len, arcO]
    rw [if_pos (.inl hb), if_neg (by omega), hd]; omega
  have lk : ∀ j : Int, lkT T (rngI T.ch.length) j = (j, j, 1) := fun j => if_pos hb
  rw [← hd]
  constructor
  · intro h
    obtain ⟨s, hs⟩ := np_keeps hO (by omega) hp2 h
    obtain ⟨h3, h4⟩ := keeps_iff.1 hs
    have key : ∀ i, i ≤ T.ch.length → s.getD 0 0 + (i : Int) * d ≤ s.getD i 0 := fun i => by
      induction i with
      | zero => intro _; simp
      | succ i ih =>
        intro hi
        have h5 := ih (by omega)
        have h6 := h3 i (by omega)
        rw [af i (by omega), (at1 i (by omega)).1, (at1 i (by omega)).2, Int.toNat_natCast, Int.toNat_natCast] at h6
        have : ((i + 1 : Nat) : Int) * d = (i : Int) * d + d := by
          rw [show ((i + 1 : Nat) : Int) = (i : Int) + 1 by omega, Int.add_mul, Int.one_mul]
        omega
    have k1 := key T.ch.length (Nat.le_refl _)
    have k2 := h3 T.ch.length (by omega)
    rw [af _ (Nat.le_refl _), at2.1, at2.2, Int.toNat_natCast] at k2
    have k3 : s.getD (0 : Int).toNat 0 = s.getD 0 0 := rfl
    rw [k3] at k2
    refine ⟨by rw [Int.add_mul, Int.one_mul]; omega, fun c hc => ?_⟩
    obtain ⟨i, hi, rfl⟩ := List.mem_iff_getElem.1 hc
    have h5 := h4 i hi
    rw [lk] at h5
    have hx0 : T.ch.getD i (0, 0) = T.ch[i] := by rw [List.getD_eq_getElem?_getD, List.getElem?_eq_getElem hi]; rfl
    rw [hx0] at h5
    simp only at h5
    omega
  · rintro ⟨h1, h2⟩
    have sg : ∀ i, i ≤ T.ch.length → ((List.range (T.ch.length + 1)).map fun (i : Nat) => (i : Int) * d).getD i 0 = (i : Int) * d := fun i hi => by
      rw [List.getD_eq_getElem?_getD, List.getElem?_map, List.getElem?_range (by omega)]; rfl
    refine np_of hO (s := (List.range (T.ch.length + 1)).map fun (i : Nat) => (i : Int) * d) (keeps_iff.2 ⟨fun i hi => ?_, fun i hi => ?_⟩)
    · by_cases hin : i = T.ch.length
      · subst hin
        rw [af _ (Nat.le_refl _), at2.1, at2.2, Int.toNat_natCast, sg _ (Nat.le_refl _), show (0 : Int).toNat = 0 from rfl, sg 0 (by omega)]
        rw [Int.add_mul, Int.one_mul] at h1
        simp; omega
      · rw [af i (by omega), (at1 i (by omega)).1, (at1 i (by omega)).2, Int.toNat_natCast, Int.toNat_natCast, sg i (by omega), sg (i + 1) (by omega)]
        have : ((i + 1 : Nat) : Int) * d = (i : Int) * d + d := by
          rw [show ((i + 1 : Nat) : Int) = (i : Int) + 1 by omega, Int.add_mul, Int.one_mul]
        omega
    · have hx0 : T.ch.getD i (0, 0) = T.ch[i] := by rw [List.getD_eq_getElem?_getD, List.getElem?_eq_getElem hi]; rfl
      have := h2 _ (List.getElem_mem hi)
      rw [lk, hx0]
      simp only
      omega
def wantT (T : Tool) (k : Nat) : Int := (T.ch.take k).foldl (fun a c => max a (workT T + c.1)) (((T.ch.length : Int) + 1) * (workT T + T.travel))
def mostT (T : Tool) (k : Nat) : Int := (T.ch.take k).foldl (fun a c => min a (workT T + c.1 + c.2)) 1000000
theorem fold_max {W a p : Int} : ∀ l : List (Int × Int), l.foldl (fun a c => max a (W + c.1)) a ≤ p ↔ a ≤ p ∧ ∀ c ∈ l, W + c.1 ≤ p := by
  intro l
  induction l generalizing a with
  | nil => simp
  | cons c l ih =>
    rw [List.foldl_cons, ih]
    simp only [List.mem_cons, forall_eq_or_imp, Int.max_le, and_assoc]
theorem fold_min {W a p : Int} : ∀ l : List (Int × Int), p ≤ l.foldl (fun a c => min a (W + c.1 + c.2)) a ↔ p ≤ a ∧ ∀ c ∈ l, p ≤ W + c.1 + c.2 := by
  intro l
  induction l generalizing a with
  | nil => simp
  | cons c l ih =>
    rw [List.foldl_cons, ih]
    simp only [List.mem_cons, forall_eq_or_imp, Int.le_min, and_assoc]
theorem two_best {T : Tool} (hv : ValidC T) (hb : T.blades = 2) (hp : 1 ≤ T.pick) (hp2 : 0 ≤ T.place) :
    if wantT T T.ch.length > mostT T T.ch.length then bestM T = none else ∃ s, bestM T = some s ∧ s.period = wantT T T.ch.length := by
  have ho := two_ord hv hb
  have hO : rngI T.ch.length ∈ ordersM T := by rw [ho]; simp
  have hw1 : 1 ≤ workT T := by unfold workT; rw [if_pos hb]; omega
  have htr := hv.2.1.2.2
  have hnp : ∀ p, 1 ≤ p → p ≤ 1000000 → (¬ Pos (arcsL T (rngI T.ch.length)) p ↔ wantT T T.ch.length ≤ p ∧ p ≤ mostT T T.ch.length) := fun p h1 h2 => by
    rw [two_np hv hb h1 h2]
    unfold wantT mostT
    rw [List.take_length, fold_max, fold_min]
    constructor
    · rintro ⟨a, b⟩
      exact ⟨⟨a, fun c hc => (b c hc).1⟩, h2, fun c hc => (b c hc).2⟩
    · rintro ⟨⟨a, b⟩, _, c⟩
      exact ⟨a, fun x hx => ⟨b x hx, c x hx⟩⟩
  have hmost : mostT T T.ch.length ≤ 1000000 := by
    have := (fold_min (W := workT T) (a := 1000000) (p := mostT T T.ch.length) (T.ch.take T.ch.length)).1 (Int.le_refl _)
    exact this.1
  have hwant : 1 ≤ wantT T T.ch.length := by
    have := ((fold_max (W := workT T) (a := ((T.ch.length : Int) + 1) * (workT T + T.travel)) (p := wantT T T.ch.length) (T.ch.take T.ch.length)).1 (Int.le_refl _)).1
    have h2 : 1 * (workT T + T.travel) ≤ ((T.ch.length : Int) + 1) * (workT T + T.travel) := Int.mul_le_mul_of_nonneg_right (by omega) (by omega)
    omega
  split
  · rename_i h
    unfold bestM
    rw [best_no fun o' ho' q h1 h2 => by
      rw [ho, List.mem_singleton] at ho'
      subst ho'
      exact Classical.byContradiction fun hn => by have := (hnp q h1 h2).1 hn; omega]
    rfl
  · rename_i h
    obtain ⟨o', h1, h2, h3⟩ := best_eq hO (p := wantT T T.ch.length) hwant (by omega) ((hnp _ hwant (by omega)).2 ⟨Int.le_refl _, by omega⟩) (fun o' ho' q h1 h2 => by
      rw [ho, List.mem_singleton] at ho'
      subst ho'
      exact Classical.byContradiction fun hn => by have := (hnp q h1 (by omega)).1 hn; omega)
    exact ⟨_, by unfold bestM; rw [h3]; rfl, rfl⟩

/-! ### longer stays -/
theorem stays_best {T D : Tool} (hv : ValidC D) (h1 : D.pick = T.pick) (h2 : D.place = T.place) (h3 : D.travel = T.travel) (h4 : D.blades = T.blades) (hl : D.ch.length = T.ch.length)
    (hch : ∀ i, i < T.ch.length → (D.ch.getD i (0, 0)).1 = (T.ch.getD i (0, 0)).1 ∧ (T.ch.getD i (0, 0)).2 ≤ (D.ch.getD i (0, 0)).2) {s : Sched} (hs : bestM T = some s) : ∃ t, bestM D = some t ∧ t.period ≤ s.period := by
  obtain ⟨hb, _⟩ := best_some hs
  have hB := best_inv T
  rw [hb] at hB
  obtain ⟨k1, k2, k3⟩ := hB.ok _ rfl
  have k4 := (hB.no _ rfl).1
  simp only at k1 k2 k3 k4
  have hvT := (orders_mem k3).1
  have hord : ordersM D = ordersM T := by
    unfold ordersM
    rw [if_pos hv, if_pos hvT, hl, h4]
  have hw : workT D = workT T := by unfold workT; rw [h1, h2, h3, h4]
  have hO : s.order ∈ ordersM D := by rw [hord]; exact k3
  have hlk : ∀ j, lkT D s.order j = lkT T s.order j := fun j => by unfold lkT; rw [h4]
  have hao : ∀ i, arcO D s.order i = arcO T s.order i := fun i => by unfold arcO; rw [hw, h4, h3]
  obtain ⟨st, hst⟩ := np_keeps k3 (by omega) k2 k4
  obtain ⟨g1, g2⟩ := keeps_iff.1 hst
  have hnp : ¬ Pos (arcsL D s.order) s.period := np_of hO (s := st) (keeps_iff.2 ⟨fun i hi => by rw [hao]; exact g1 i hi, fun i hi => by
    have g3 := g2 i (by omega)
    have g4 := hch i (by omega)
    rw [hlk, hw, g4.1]
    refine ⟨g3.1, ?_⟩
    have := g3.2
    omega⟩)
  cases ht : bestM D with
  | none =>
    have hBD := best_inv D
    have : bestF D = none := by
      unfold bestM at ht
      cases h : bestF D with
      | none => rfl
      | some x => rw [h] at ht; cases ht
    rw [this] at hBD
    exact absurd (hBD.pos _ hO s.period k1 k2) hnp
  | some t =>
    refine ⟨t, rfl, ?_⟩
    obtain ⟨hbD, _⟩ := best_some ht
    have hBD := best_inv D
    rw [hbD] at hBD
    rcases Int.lt_or_le s.period t.period with h | h
    · exact absurd (hBD.pos _ hO s.period k1 (by show s.period ≤ t.period - 1; omega)) hnp
    · exact h
end Go.Proofs.Ytemklhljjaniaaa
/-
  The functions, compiled; written by wip/gen.
-/
namespace Go.Proofs.Ytemklhljjaniaaa
open Go
def lp5x0 : MC := .seq (.seq (.region [⟨none, .mv (.var 10), none⟩, ⟨none, .mv (.var 9), none⟩, ⟨none, .lenSl (.tmp 1), none⟩, ⟨some 16, .bin .lss (.tmp 0) (.tmp 2), none⟩]) (.cond (.var 16) .skip (.exit 0))) (.seq (.seq (.block 1 (.seq (.region [⟨none, .load true 5 (.var 5), none⟩, ⟨none, .mv (.var 9), none⟩, ⟨none, .mv (.var 10), none⟩, ⟨none, .indexSl 1 (.tmp 1) (.tmp 2), none⟩, ⟨none, .load false 1 (.tmp 3), none⟩, ⟨none, .call (.fn 19) [.tmp 0, .tmp 4], none⟩, ⟨none, .mv (.tmp 5), none⟩, ⟨none, .extract (.tmp 6) 0, none⟩, ⟨none, .extract (.tmp 6) 1, none⟩, ⟨some 11, .mv (.tmp 7), none⟩, ⟨some 12, .mv (.tmp 8), none⟩]) (.seq (.seq (.region [⟨none, .mv (.var 12), none⟩, ⟨some 17, .bin .neq (.tmp 0) (.cst (.int .i64 0)), none⟩]) (.cond (.var 17) (.seq (.region [⟨some 3, .mv (.cst (.bool false)), none⟩]) .ret) .skip)) (.seq (.region [⟨none, .mv (.var 9), none⟩, ⟨none, .mv (.var 10), none⟩, ⟨none, .indexSl 1 (.tmp 0) (.tmp 1), none⟩, ⟨none, .load false 1 (.tmp 2), none⟩, ⟨none, .lenSl (.tmp 3), none⟩, ⟨none, .mv (.var 11), none⟩, ⟨none, .mv (.var 8), none⟩, ⟨none, .call (.fn 28) [.tmp 4, .tmp 5, .cst (.int .i64 1), .tmp 6], none⟩, ⟨none, .mv (.tmp 7), none⟩, ⟨none, .extract (.tmp 8) 0, none⟩, ⟨none, .extract (.tmp 8) 1, none⟩, ⟨none, .mv (.tmp 9), none⟩, ⟨some 13, .mv (.tmp 10), none⟩]) (.seq (.region [⟨none, .mv (.var 8), none⟩, ⟨none, .bin .geq (.tmp 0) (.cst (.int .i64 1)), none⟩, ⟨none, .mv (.tmp 1), none⟩, ⟨none, .mv (.var 13), some (.tmp 2, true)⟩, ⟨some 18, .pick (.tmp 2) (.tmp 3) (.cst (.bool false)), none⟩]) (.cond (.var 18) (.seq (.region [⟨some 3, .mv (.cst (.bool false)), none⟩]) .ret) .skip)))))) (.kill [0, 1, 2, 3, 6, 7, 11, 12, 13, 14, 15, 16, 17, 18])) (.region [⟨none, .mv (.var 10), none⟩, ⟨none, .bin .add (.tmp 0) (.cst (.int .i64 1)), none⟩, ⟨some 10, .mv (.tmp 1), none⟩]))
def mf5 : MFun := ⟨2, 19, .seq (.region [⟨some 2, .box (.var 0), none⟩, ⟨some 3, .mv (.cst (.bool false)), none⟩]) (.seq (.region [⟨none, .call (.fn 11) [], none⟩, ⟨some 4, .mv (.tmp 0), none⟩]) (.seq (.region [⟨none, .load true 5 (.var 2), none⟩, ⟨none, .mv (.var 1), none⟩, ⟨none, .call (.fn 13) [.tmp 0, .tmp 1], none⟩, ⟨some 5, .alloc 5 (.agg [.nilS, .int .i64 0, .int .i64 0, .int .i64 0, .int .i64 0]), none⟩, ⟨none, .store 5 (.var 5) (.tmp 2), none⟩]) (.seq (.region [⟨none, .load true 5 (.var 5), none⟩, ⟨none, .call (.fn 22) [.tmp 0], none⟩, ⟨none, .mv (.tmp 1), none⟩, ⟨none, .extract (.tmp 2) 0, none⟩, ⟨none, .extract (.tmp 2) 1, none⟩, ⟨some 6, .alloc 4 (.agg [.int .i64 0, .nilS, .nilS, .nilS]), none⟩, ⟨none, .store 4 (.var 6) (.tmp 3), none⟩, ⟨some 7, .mv (.tmp 4), none⟩]) (.seq (.region [⟨some 8, .mv (.cst (.int .i64 1000000)), none⟩]) (.seq (.seq (.region [⟨none, .mv (.var 7), none⟩, ⟨some 14, .bin .eql (.tmp 0) (.cst (.int .i64 0)), none⟩]) (.cond (.var 14) (.seq (.seq (.region [⟨none, .load true 5 (.var 5), none⟩, ⟨none, .load true 4 (.var 6), none⟩, ⟨none, .call (.fn 26) [.tmp 0, .tmp 1], none⟩, ⟨some 15, .un .not (.tmp 2), none⟩]) (.cond (.var 15) (.seq (.region [⟨some 3, .mv (.cst (.bool false)), none⟩]) .ret) .skip)) (.region [⟨none, .fieldAddr 0 (.var 6), none⟩, ⟨none, .load false 1 (.tmp 0), none⟩, ⟨none, .bin .sub (.tmp 1) (.cst (.int .i64 1)), none⟩, ⟨some 8, .mv (.tmp 2), none⟩])) .skip)) (.seq (.region [⟨none, .load true 5 (.var 5), none⟩, ⟨none, .call (.fn 14) [.tmp 0], none⟩, ⟨some 9, .mv (.tmp 1), none⟩]) (.seq (.seq (.region [⟨some 10, .mv (.cst (.int .i64 0)), none⟩]) (.seq (.block 0 (.loop [0, 1, 2, 3, 6, 7, 11, 12, 13, 14, 15, 16, 17, 18] lp5x0)) (.kill [0, 1, 2, 3, 5, 6, 7, 8, 10, 11, 12, 13, 14, 15, 16, 17, 18]))) (.seq (.region [⟨none, .mv (.var 4), none⟩, ⟨none, .mv (.tmp 0), none⟩, ⟨none, .mv (.var 9), some (.tmp 1, true)⟩, ⟨none, .lenSl (.tmp 2), some (.tmp 1, true)⟩, ⟨none, .bin .gtr (.tmp 3) (.cst (.int .i64 0)), some (.tmp 1, true)⟩, ⟨none, .pick (.tmp 1) (.tmp 4) (.cst (.bool false)), none⟩, ⟨some 3, .mv (.tmp 5), none⟩]) .ret)))))))), [.tmp 3]⟩
def mask5x0 : List Nat := [0, 1, 2, 3, 6, 7, 11, 12, 13, 14, 15, 16, 17, 18]
abbrev st5x0 (v4 v5 v8 v9 v10 : AV) : List AV := [.undef, .undef, .undef, .undef, v4, v5, .undef, .undef, v8, v9, v10, .undef, .undef, .undef, .undef, .undef, .undef, .undef, .undef]
theorem cl5x0 {d0 d1 d2 d3 v4 v5 d6 d7 v8 v9 v10 d11 d12 d13 d14 d15 d16 d17 d18 : AV} : clear mask5x0 [d0, d1, d2, d3, v4, v5, d6, d7, v8, v9, v10, d11, d12, d13, d14, d15, d16, d17, d18] = st5x0 v4 v5 v8 v9 v10 := by simp only [mask5x0, clear, List.foldl_cons, List.foldl_nil, List.set_cons_zero, List.set_cons_succ]
theorem go5x0 {E : Env} {fuel : Nat} {A : Arena} {o : Out} {k : List KC} {d0 d1 d2 d3 v4 v5 d6 d7 v8 v9 v10 d11 d12 d13 d14 d15 d16 d17 d18 : AV} (h : iter (evC E fuel lp5x0) mask5x0 fuel (st5x0 v4 v5 v8 v9 v10) A = some o) :
    run E fuel (.code (.loop [0, 1, 2, 3, 6, 7, 11, 12, 13, 14, 15, 16, 17, 18] lp5x0) :: k) [d0, d1, d2, d3, v4, v5, d6, d7, v8, v9, v10, d11, d12, d13, d14, d15, d16, d17, d18] A = after E fuel k o := run_loopC mask5x0 _ _ (by rw [cl5x0]; exact h)
set_option maxHeartbeats 4000000 in
theorem comp5 : compFun Try.prog Try.f5 2 [0, 1, 2, 4, 5, 6, 7, 8, 9, 10, 11, 12, 13, 15, 26, 30, 39, 52, 68] [19] true ([[0, 1, 2, 3, 6, 7, 11, 12, 13, 14, 15, 16, 17, 18]], [[0, 1, 2, 3, 6, 7, 11, 12, 13, 14, 15, 16, 17, 18], [0, 1, 2, 3, 5, 6, 7, 8, 10, 11, 12, 13, 14, 15, 16, 17, 18]]) = some mf5 := by kernel_rfl
theorem at5 : Try.prog.funcs[5]? = some Try.f5 := by kernel_rfl
end Go.Proofs.Ytemklhljjaniaaa
/-
  The functions, compiled; written by wip/gen.
-/
namespace Go.Proofs.Ytemklhljjaniaaa
open Go
def mf9 : MFun := ⟨2, 10, .seq (.region [⟨some 2, .box (.var 0), none⟩, ⟨some 3, .box (.var 1), none⟩, ⟨some 4, .mv (.cst (.bool false)), none⟩]) (.seq (.region [⟨none, .call (.fn 11) [], none⟩, ⟨some 5, .mv (.tmp 0), none⟩]) (.seq (.region [⟨none, .load true 5 (.var 2), none⟩, ⟨none, .load true 2 (.var 3), none⟩, ⟨none, .buildF 2 [.tmp 1], none⟩, ⟨none, .call (.fn 13) [.tmp 0, .tmp 2], none⟩, ⟨some 6, .alloc 5 (.agg [.nilS, .int .i64 0, .int .i64 0, .int .i64 0, .int .i64 0]), none⟩, ⟨none, .store 5 (.var 6) (.tmp 3), none⟩]) (.seq (.region [⟨none, .fieldAddr 4 (.var 6), none⟩, ⟨none, .store 1 (.tmp 0) (.cst (.int .i64 1)), none⟩]) (.seq (.region [⟨none, .load true 5 (.var 6), none⟩, ⟨none, .call (.fn 22) [.tmp 0], none⟩, ⟨none, .mv (.tmp 1), none⟩, ⟨none, .extract (.tmp 2) 0, none⟩, ⟨none, .extract (.tmp 2) 1, none⟩, ⟨some 7, .alloc 4 (.agg [.int .i64 0, .nilS, .nilS, .nilS]), none⟩, ⟨none, .store 4 (.var 7) (.tmp 3), none⟩, ⟨some 8, .mv (.tmp 4), none⟩]) (.seq (.region [⟨none, .fieldAddr 1 (.var 6), none⟩, ⟨none, .load false 1 (.tmp 0), none⟩, ⟨none, .fieldAddr 3 (.var 6), none⟩, ⟨none, .load false 1 (.tmp 2), none⟩, ⟨none, .bin .add (.tmp 1) (.tmp 3), none⟩, ⟨none, .fieldAddr 2 (.var 6), none⟩, ⟨none, .load false 1 (.tmp 5), none⟩, ⟨none, .bin .add (.tmp 4) (.tmp 6), none⟩, ⟨some 9, .mv (.tmp 7), none⟩]) (.seq (.region [⟨none, .mv (.var 5), none⟩, ⟨none, .mv (.tmp 0), none⟩, ⟨none, .mv (.var 8), some (.tmp 1, true)⟩, ⟨none, .bin .eql (.tmp 2) (.cst (.int .i64 0)), some (.tmp 1, true)⟩, ⟨none, .pick (.tmp 1) (.tmp 3) (.cst (.bool false)), none⟩, ⟨none, .mv (.tmp 4), none⟩, ⟨none, .fieldAddr 0 (.var 7), some (.tmp 5, true)⟩, ⟨none, .load false 1 (.tmp 6), some (.tmp 5, true)⟩, ⟨none, .mv (.var 9), some (.tmp 5, true)⟩, ⟨none, .bin .mul (.cst (.int .i64 2)) (.tmp 8), some (.tmp 5, true)⟩, ⟨none, .fieldAddr 0 (.var 6), some (.tmp 5, true)⟩, ⟨none, .load false 1 (.tmp 10), some (.tmp 5, true)⟩, ⟨none, .indexSl 2 (.tmp 11) (.cst (.int .i64 0)), some (.tmp 5, true)⟩, ⟨none, .fieldAddr 0 (.tmp 12), some (.tmp 5, true)⟩, ⟨none, .load false 1 (.tmp 13), some (.tmp 5, true)⟩, ⟨none, .bin .add (.tmp 9) (.tmp 14), some (.tmp 5, true)⟩, ⟨none, .fieldAddr 3 (.var 6), some (.tmp 5, true)⟩, ⟨none, .load false 1 (.tmp 16), some (.tmp 5, true)⟩, ⟨none, .bin .add (.tmp 15) (.tmp 17), some (.tmp 5, true)⟩, ⟨none, .bin .eql (.tmp 7) (.tmp 18), some (.tmp 5, true)⟩, ⟨none, .pick (.tmp 5) (.tmp 19) (.cst (.bool false)), none⟩, ⟨none, .mv (.tmp 20), none⟩, ⟨none, .fieldAddr 1 (.var 7), some (.tmp 21, true)⟩, ⟨none, .load false 1 (.tmp 22), some (.tmp 21, true)⟩, ⟨none, .lenSl (.tmp 23), some (.tmp 21, true)⟩, ⟨none, .bin .eql (.tmp 24) (.cst (.int .i64 2)), some (.tmp 21, true)⟩, ⟨none, .pick (.tmp 21) (.tmp 25) (.cst (.bool false)), none⟩, ⟨none, .mv (.tmp 26), none⟩, ⟨none, .load true 5 (.var 6), some (.tmp 27, true)⟩, ⟨none, .load true 4 (.var 7), some (.tmp 27, true)⟩, ⟨none, .call (.fn 26) [.tmp 28, .tmp 29], some (.tmp 27, true)⟩, ⟨none, .pick (.tmp 27) (.tmp 30) (.cst (.bool false)), none⟩, ⟨some 4, .mv (.tmp 31), none⟩]) .ret)))))), [.tmp 4]⟩
set_option maxHeartbeats 4000000 in
theorem comp9 : compFun Try.prog Try.f9 2 [0, 1, 2, 3, 4, 5, 6, 7, 8, 9] [26] true ([], []) = some mf9 := by kernel_rfl
theorem at9 : Try.prog.funcs[9]? = some Try.f9 := by kernel_rfl
end Go.Proofs.Ytemklhljjaniaaa
/-
  Cluster: the laws Optimal and One, run.
-/
namespace Go.Proofs.Ytemklhljjaniaaa
open Go
open Cy (GC CArc arcA arcsOf isPer ValidA okA smM smT lvM lvT VerOk RefOk Ready Pos frz_i frz_b intsA_len M12_eq)

/-! ### Optimal -/
def hiS (r : Option Sched) : Int := match r with | none => 1000000 | some s => s.period - 1
theorem hi_no {T : Tool} {o : List Int} (hO : o ∈ ordersM T) : smM (o.length : Int) (arcsL T o) 1 (hiS (bestM T)) = none ∨ ¬ 1 ≤ hiS (bestM T) := by
  have hB := best_inv T
  have he : hiS (bestM T) = hiOf (bestF T) := by
    unfold bestM hiS hiOf
    cases bestF T <;> rfl
  rw [he]
  have hper := hiOf_per hB.ok
  cases h : smM (o.length : Int) (arcsL T o) 1 (hiOf (bestF T)) with
  | none => exact .inl rfl
  | some p =>
    obtain ⟨k1, k2, _, k4, _⟩ := sm_some hper h
    exact absurd (hB.pos o hO p k1 k2) k4
theorem R5_ld (x : X5) (ys : List (Int × Int)) (X : Arena) : evLoad true 5 (.row 5 false [x5A x] :: .row 5 false [mkA x ys] :: X) (.ptr 1 0 0) = some (mkA x ys) := rfl
set_option maxRecDepth 100000 in
set_option maxHeartbeats 4000000 in
theorem round5 {T : Tool} {chv : AV} (hcv : SlA 2 (T.ch.map chA) chv) {A : Arena} (lt : evLoad true 5 A (.ptr 1 0 0) = some (toolA T chv)) {h : Int} {i : Nat} (hi : i < (ordersM T).length)
    (hno : smM (((ordersM T)[i]).length : Int) (arcsL T (ordersM T)[i]) 1 h = none ∨ ¬ 1 ≤ h) :
    run (envOf GC fsN) 300 [.code lp5x0] (st5x0 (.bool true) (.ptr 1 0 0) (.int .i64 h) (ordA (ordersM T)) (.int .i64 (i : Int))) A =
      some (.normal (st5x0 (.bool true) (.ptr 1 0 0) (.int .i64 h) (ordA (ordersM T)) (.int .i64 ((i + 1 : Nat) : Int))) A) := by
  obtain ⟨o, ho⟩ : ∃ o, o = (ordersM T)[i] := ⟨_, rfl⟩
  have hO : o ∈ ordersM T := by rw [ho]; exact List.getElem_mem hi
  rw [← ho] at hno
  obtain ⟨hv, hol, _, _⟩ := orders_mem hO
  have hb := slA_holds 1 ((ordersM T).map fun l => slA 1 (intsA l))
  rw [show slA 1 ((ordersM T).map fun l => slA 1 (intsA l)) = ordA (ordersM T) from rfl] at hb
  have hlen := hb.len
  rw [List.length_map] at hlen
  obtain ⟨q1, q2⟩ := slA_form o
  have he : ((ordersM T).map fun l => slA 1 (intsA l))[i]? = some (slA 1 (intsA o)) := by simp [hi, ho]
  have x1 := hb.index1 (A := A) he q1 q2 .i64
  have hos := slA_holds 1 (intsA o)
  have hlo := hos.len
  rw [intsA_len] at hlo
  have m19 := M19_eq (T := T) hcv (by have := hv.2.2.2.1; omega) hos
  rw [arcsM_some hO] at m19
  have m19 : M19 [toolA T chv, slA 1 (intsA o)] = some (.tup [arcsV (arcsL T o), .int .i64 0]) := m19
  have m23 : Cy.M23 [.int .i64 (o.length : Int), arcsV (arcsL T o), .int .i64 1, .int .i64 h] = some (smT (smM (o.length : Int) (arcsL T o) 1 h)) := by
    simp only [Cy.M23, arcsV_of hO, Option.map_some]
  have ft := toolA_frz (T := T) (fun A n => hcv.frz (A := A) n) A 3
  have nt := toolA_noRef (T := T) (fun n => hcv.noRef n) 3
  have fo : frz A 4 (slA 1 (intsA o)) = slA 1 (intsA o) := hos.frz 4
  have fa : frz A 4 (arcsV (arcsL T o)) = arcsV (arcsL T o) := (slA_holds 4 _).frz 4
  have na : noRefB 4 (arcsV (arcsL T o)) = true := (slA_holds 4 _).noRef 4
  have b0 := lt_nat i (ordersM T).length .i64
  rw [decide_eq_true hi] at b0
  have b1 := add1_nat i (by have := orders_len T; omega)
  have b2 := evNeqI 0 0
  rw [decide_eq_false (by omega)] at b2
  have b3 : evBin .geq (.int .i64 h) (.int .i64 1) = some (.bool (decide (1 ≤ h))) := by simp [evBin]
  obtain ⟨i1, hi1⟩ : ∃ n, n = i + 1 := ⟨_, rfl⟩
  rw [← hi1] at b1 ⊢
  obtain ⟨W, hW⟩ : ∃ W, W = slA 1 (intsA o) := ⟨_, rfl⟩
  rw [← hW] at x1 hlo m19 fo
  obtain ⟨V, hV⟩ : ∃ V, V = arcsV (arcsL T o) := ⟨_, rfl⟩
  rw [← hV] at m19 m23 fa na
  obtain ⟨t, ht⟩ : ∃ t, t = toolA T chv := ⟨_, rfl⟩
  rw [← ht] at m19 ft lt
  obtain ⟨Q, hQ⟩ : ∃ Q, Q = ordA (ordersM T) := ⟨_, rfl⟩
  rw [← hQ] at x1 hlen ⊢
  by_cases h1 : 1 ≤ h
  · have hn : smM (o.length : Int) (arcsL T o) 1 h = none := hno.elim id fun hh => absurd h1 hh
    rw [hn] at m23
    rw [decide_eq_true h1] at b3
    simp [lp5x0, x1, lt, ft, fo, fa, frz_i, na, smT, m19, m23, hlo, hlen, b0, b1, b2, b3, -evBin, -evLoad, -evIndexSl, -evLenSl, -frz]
  · rw [decide_eq_false h1] at b3
    simp [lp5x0, x1, lt, ft, fo, fa, frz_i, na, smT, m19, m23, hlo, hlen, b0, b1, b2, b3, -evBin, -evLoad, -evIndexSl, -evLenSl, -frz]
theorem ord_pos {T : Tool} (hv : ValidC T) : 0 < (ordersM T).length := by
  unfold ordersM
  rw [if_pos hv]
  have h1 := hv.2.2.1
  have h4 := hv.2.2.2.1
  generalize T.ch.length = n at *
  have hn : n = 1 ∨ n = 2 ∨ n = 3 ∨ n = 4 := by omega
  rcases hv.2.2.2.2 with hb | hb <;> rw [hb] <;> rcases hn with rfl | rfl | rfl | rfl <;> decide
set_option maxRecDepth 100000 in
set_option maxHeartbeats 4000000 in
theorem ev5 {x : X5} (hx : x.inR) {ys : List (Int × Int)} (hys : ∀ y ∈ ys, inI y.1 ∧ inI y.2) {yv : AV} (hy : SlA 2 (ys.map chA) yv) : evP (envOf GC fsN) 300 mf5 1 [x5A x, yv] = some (.bool true) := by
  have m13 := M13_eq hx hys hy
  have hcv := mk_ch x ys
  have hn4 := mk_len x ys
  have m14 := M14_eq hcv (by omega)
  have m22 := M22_eq hcv (by omega)
  have fx : ∀ A, frz A 4 (x5A x) = x5A x := fun A => by simp [x5A, frz]
  have fy : ∀ A, frz A 4 yv = yv := fun A => hy.frz 4
  have fm := fun A => mk_frz x ys A
  have nm := mk_noRef x ys
  have hval := make_valid x ys
  have hpos := ord_pos hval
  obtain ⟨T, hT⟩ : ∃ T, T = makeT x ys := ⟨_, rfl⟩
  obtain ⟨C, hC⟩ : ∃ C, C = slA 2 ((makeT x ys).ch.map chA) := ⟨_, rfl⟩
  have hmk : mkA x ys = toolA T C := by rw [hC, hT]; rfl
  rw [← hC, ← hT] at hcv m14 m22
  rw [← hT] at hval hpos hn4
  rw [hmk] at m13 fm nm
  have hlen : evLenSl (ordA (ordersM T)) = some (.int .i64 ((ordersM T).length : Int)) := by
    have := (slA_holds 1 ((ordersM T).map fun l => slA 1 (intsA l))).len
    rwa [List.length_map] at this
  have bgt : evBin .gtr (.int .i64 ((ordersM T).length : Int)) (.int .i64 0) = some (.bool true) := by rw [evGtrI, decide_eq_true (by omega)]
  have lpG : ∀ A : Arena, evLoad true 5 A (.ptr 1 0 0) = some (toolA T C) → ∀ h : Int, h = hiS (bestM T) → iter (evC (envOf GC fsN) 300 lp5x0) mask5x0 300 (st5x0 (.bool true) (.ptr 1 0 0) (.int .i64 h) (ordA (ordersM T)) (.int .i64 0)) A = some (.exit 0 ((st5x0 (.bool true) (.ptr 1 0 0) (.int .i64 h) (ordA (ordersM T)) (.int .i64 ((ordersM T).length : Int))).set 16 (.bool false)) A) := fun A lt h hh => by
    have e := lt_nat (ordersM T).length (ordersM T).length .i64
    rw [decide_eq_false (by omega)] at e
    obtain ⟨Q, hQ⟩ : ∃ Q, Q = ordA (ordersM T) := ⟨_, rfl⟩
    have hlen := hlen
    have := iter_up (E := envOf GC fsN) (fuel := 300) (a := lp5x0) (mask := mask5x0) (fun i => st5x0 (.bool true) (.ptr 1 0 0) (.int .i64 h) (ordA (ordersM T)) (.int .i64 (i : Int))) (fun _ => A) (ordersM T).length (o := .exit 0 ((st5x0 (.bool true) (.ptr 1 0 0) (.int .i64 h) (ordA (ordersM T)) (.int .i64 ((ordersM T).length : Int))).set 16 (.bool false)) A)
      (fun _ => cl5x0) (fun _ _ h => by cases h) (fun i hi => round5 hcv lt hi (by rw [hh]; exact hi_no (List.getElem_mem hi))) (by
        rw [← hQ] at hlen ⊢
        simp [lp5x0, hlen, e, -evBin, -evLenSl]) (m := 300) (by have := orders_len T; omega)
    exact this
  have ex : ∀ X, evLoad true 5 (.row 5 false [x5A x] :: X) (.ptr 0 0 0) = some (x5A x) := fun X => rfl
  have et : ∀ a X, evLoad true 5 (a :: .row 5 false [toolA T C] :: X) (.ptr 1 0 0) = some (toolA T C) := fun a X => rfl
  have bx0 : evBox 5 (x5A x) [] = some (.ptr 0 0 0, [.row 5 false [x5A x]]) := rfl
  have cx : (cellsOf (x5A x)).length = 5 := rfl
  have bx1 : ∀ r, evBox 5 (.agg [.nilS, .int .i64 0, .int .i64 0, .int .i64 0, .int .i64 0]) [r] = some (.ptr 1 0 0, [r, .row 5 false [.agg [.nilS, .int .i64 0, .int .i64 0, .int .i64 0, .int .i64 0]]]) := fun r => rfl
  have st1 : ∀ r z, evStore 5 [r, .row 5 false [z]] (.ptr 1 0 0) (toolA T C) = some [r, .row 5 false [toolA T C]] := fun r z => by
    simp [evStore, storeElem, toolA]
  have bx2 : ∀ r q, evBox 4 (.agg [.int .i64 0, .nilS, .nilS, .nilS]) [r, q] = some (.ptr 2 0 0, [r, q, .row 4 false [zA]]) := fun r q => rfl
  have st2 : ∀ r q (s : Sched), evStore 4 [r, q, .row 4 false [zA]] (.ptr 2 0 0) (schA s) = some [r, q, .row 4 false [schA s]] := fun r q s => by
    simp [evStore, storeElem, schA]
  have ld2 : ∀ r q (s : Sched), evLoad true 4 [r, q, .row 4 false [schA s]] (.ptr 2 0 0) = some (schA s) := fun r q s => rfl
  have f2 : ∀ r q (s : Sched), evFieldAddr 0 [r, q, .row 4 false [schA s]] (.ptr 2 0 0) = some (.ptr 2 0 0) := fun r q s => rfl
  have p2 : ∀ r q (s : Sched), evLoad false 1 [r, q, .row 4 false [schA s]] (.ptr 2 0 0) = some (.int .i64 s.period) := fun r q s => rfl
  have b0 := evEqlI 0 0
  rw [decide_eq_true rfl] at b0
  have b1 := evEqlI 130 0
  rw [decide_eq_false (by omega)] at b1
  obtain ⟨X, hX⟩ : ∃ X, X = x5A x := ⟨_, rfl⟩
  rw [← hX] at m13 fx ex bx0 cx ⊢
  obtain ⟨t, ht⟩ : ∃ t, t = toolA T C := ⟨_, rfl⟩
  obtain ⟨Q, hQ⟩ : ∃ Q, Q = ordA (ordersM T) := ⟨_, rfl⟩
  have m26 := fun s (h : Chk T s) => M26_of hcv (by omega) h
  rw [← ht] at m13 m14 m22 fm nm
  simp only [← ht] at et st1 lpG m26
  rw [← hQ] at m14 hlen
  simp only [← hQ] at lpG
  cases hb : bestM T with
  | none =>
    rw [hb] at m22
    have lp := lpG [.row 5 false [X], .row 5 false [t], .row 4 false [schA zeroS]] (et _ _) 1000000 (by rw [hb]; rfl)
    have m22 : M22 [t] = some (.tup [schA zeroS, .int .i64 130]) := m22
    have st2 := fun r q => st2 r q zeroS
    obtain ⟨S, hS⟩ : ∃ S, S = schA zeroS := ⟨_, rfl⟩
    rw [← hS] at m22 lp
    simp only [← hS] at st2
    rw [evP_run _ _ rfl]
    simp [mf5, bx0, cx, ex, fx, fy, m13, bx1, st1, et, fm, nm, m22, bx2, st2, b1, m14, hlen, go5x0 lp, bgt, frz_b, -evBin, -evLoad, -evStore, -evFieldAddr, -evBox, -evLenSl, -frz, -cellsOf]
  | some s =>
    rw [hb] at m22
    have hc := best_chk hb
    have lp := lpG [.row 5 false [X], .row 5 false [t], .row 4 false [schA s]] (et _ _) (s.period - 1) (by rw [hb]; rfl)
    have m22 : M22 [t] = some (.tup [schA s, .int .i64 0]) := m22
    have m26 := m26 s hc
    have fs : ∀ A, frz A 4 (schA s) = schA s := fun A => schA_frz s A 3
    have b3 : evBin .sub (.int .i64 s.period) (.int .i64 1) = some (.int .i64 (s.period - 1)) := evSubI (by have := hc.2.1; omega)
    have st2 := fun r q => st2 r q s
    have ld2 := fun r q => ld2 r q s
    have f2 := fun r q => f2 r q s
    have p2 := fun r q => p2 r q s
    obtain ⟨p1, hp1⟩ : ∃ p, p = s.period - 1 := ⟨_, rfl⟩
    rw [← hp1] at lp b3
    obtain ⟨S, hS⟩ : ∃ S, S = schA s := ⟨_, rfl⟩
    rw [← hS] at m22 lp m26
    simp only [← hS] at st2 ld2 f2 p2 fs
    rw [evP_run _ _ rfl]
    simp [mf5, bx0, cx, ex, fx, fy, m13, bx1, st1, et, fm, nm, m22, bx2, st2, ld2, f2, p2, fs, m26, b0, b3, m14, hlen, go5x0 lp, bgt, frz_b, -evBin, -evLoad, -evStore, -evFieldAddr, -evBox, -evLenSl, -frz, -cellsOf]
theorem ev5L (args : List AV) (h : LawArgs Try.prog 8 Try.f5.params.toList args) : ∃ fuel, evP (envOf GC fsN) fuel mf5 1 args = some (.bool true) := by
  rw [Try.params5] at h
  obtain ⟨a, r, rfl, h0, h⟩ := h.cons
  obtain ⟨b, r, rfl, h1, h⟩ := h.cons
  obtain rfl := h.nil
  obtain ⟨x, rfl, hx⟩ := x5_arg (n := 6) h0
  obtain ⟨ys, hy, hys, _⟩ := twos_arg (n := 5) h1
  exact ⟨300, ev5 hx hys hy⟩
end Go.Proofs.Ytemklhljjaniaaa
/-
  The functions, compiled; written by wip/gen.
-/
namespace Go.Proofs.Ytemklhljjaniaaa
open Go
def lp10x0 : MC := .seq (.seq (.region [⟨none, .mv (.var 9), none⟩, ⟨none, .fieldAddr 0 (.var 5), none⟩, ⟨none, .load false 1 (.tmp 1), none⟩, ⟨none, .lenSl (.tmp 2), none⟩, ⟨some 12, .bin .lss (.tmp 0) (.tmp 3), none⟩]) (.cond (.var 12) .skip (.exit 0))) (.seq (.seq (.block 1 (.seq (.region [⟨none, .mv (.var 7), none⟩, ⟨none, .mv (.var 6), none⟩, ⟨none, .fieldAddr 0 (.var 5), none⟩, ⟨none, .load false 1 (.tmp 2), none⟩, ⟨none, .mv (.var 9), none⟩, ⟨none, .indexSl 2 (.tmp 3) (.tmp 4), none⟩, ⟨none, .fieldAddr 0 (.tmp 5), none⟩, ⟨none, .load false 1 (.tmp 6), none⟩, ⟨none, .bin .add (.tmp 1) (.tmp 7), none⟩, ⟨none, .minmax true (.tmp 0) [.tmp 8], none⟩, ⟨some 7, .mv (.tmp 9), none⟩]) (.region [⟨none, .mv (.var 8), none⟩, ⟨none, .mv (.var 6), none⟩, ⟨none, .fieldAddr 0 (.var 5), none⟩, ⟨none, .load false 1 (.tmp 2), none⟩, ⟨none, .mv (.var 9), none⟩, ⟨none, .indexSl 2 (.tmp 3) (.tmp 4), none⟩, ⟨none, .fieldAddr 0 (.tmp 5), none⟩, ⟨none, .load false 1 (.tmp 6), none⟩, ⟨none, .bin .add (.tmp 1) (.tmp 7), none⟩, ⟨none, .fieldAddr 0 (.var 5), none⟩, ⟨none, .load false 1 (.tmp 9), none⟩, ⟨none, .mv (.var 9), none⟩, ⟨none, .indexSl 2 (.tmp 10) (.tmp 11), none⟩, ⟨none, .fieldAddr 1 (.tmp 12), none⟩, ⟨none, .load false 1 (.tmp 13), none⟩, ⟨none, .bin .add (.tmp 8) (.tmp 14), none⟩, ⟨none, .minmax false (.tmp 0) [.tmp 15], none⟩, ⟨some 8, .mv (.tmp 16), none⟩]))) (.kill [0, 1, 2, 3, 10, 11, 12, 13])) (.region [⟨none, .mv (.var 9), none⟩, ⟨none, .bin .add (.tmp 0) (.cst (.int .i64 1)), none⟩, ⟨some 9, .mv (.tmp 1), none⟩]))
def mf10 : MFun := ⟨2, 14, .seq (.region [⟨some 2, .box (.var 0), none⟩, ⟨some 3, .mv (.cst (.bool false)), none⟩]) (.seq (.region [⟨none, .call (.fn 11) [], none⟩, ⟨some 4, .mv (.tmp 0), none⟩]) (.seq (.region [⟨none, .load true 5 (.var 2), none⟩, ⟨none, .mv (.var 1), none⟩, ⟨none, .call (.fn 13) [.tmp 0, .tmp 1], none⟩, ⟨some 5, .alloc 5 (.agg [.nilS, .int .i64 0, .int .i64 0, .int .i64 0, .int .i64 0]), none⟩, ⟨none, .store 5 (.var 5) (.tmp 2), none⟩]) (.seq (.region [⟨none, .fieldAddr 4 (.var 5), none⟩, ⟨none, .store 1 (.tmp 0) (.cst (.int .i64 2)), none⟩]) (.seq (.region [⟨none, .fieldAddr 1 (.var 5), none⟩, ⟨none, .load false 1 (.tmp 0), none⟩, ⟨none, .fieldAddr 2 (.var 5), none⟩, ⟨none, .load false 1 (.tmp 2), none⟩, ⟨none, .bin .add (.tmp 1) (.tmp 3), none⟩, ⟨some 6, .mv (.tmp 4), none⟩]) (.seq (.region [⟨none, .fieldAddr 0 (.var 5), none⟩, ⟨none, .load false 1 (.tmp 0), none⟩, ⟨none, .lenSl (.tmp 1), none⟩, ⟨none, .bin .add (.tmp 2) (.cst (.int .i64 1)), none⟩, ⟨none, .mv (.var 6), none⟩, ⟨none, .fieldAddr 3 (.var 5), none⟩, ⟨none, .load false 1 (.tmp 5), none⟩, ⟨none, .bin .add (.tmp 4) (.tmp 6), none⟩, ⟨none, .bin .mul (.tmp 3) (.tmp 7), none⟩, ⟨some 7, .mv (.tmp 8), none⟩]) (.seq (.region [⟨some 8, .mv (.cst (.int .i64 1000000)), none⟩]) (.seq (.seq (.region [⟨some 9, .mv (.cst (.int .i64 0)), none⟩]) (.seq (.block 0 (.loop [0, 1, 2, 3, 10, 11, 12, 13] lp10x0)) (.kill [0, 1, 2, 3, 6, 9, 10, 11, 12, 13]))) (.seq (.region [⟨none, .load true 5 (.var 5), none⟩, ⟨none, .call (.fn 22) [.tmp 0], none⟩, ⟨none, .mv (.tmp 1), none⟩, ⟨none, .extract (.tmp 2) 0, none⟩, ⟨none, .extract (.tmp 2) 1, none⟩, ⟨some 10, .alloc 4 (.agg [.int .i64 0, .nilS, .nilS, .nilS]), none⟩, ⟨none, .store 4 (.var 10) (.tmp 3), none⟩, ⟨some 11, .mv (.tmp 4), none⟩]) (.seq (.seq (.region [⟨none, .mv (.var 7), none⟩, ⟨none, .mv (.var 8), none⟩, ⟨some 13, .bin .gtr (.tmp 0) (.tmp 1), none⟩]) (.cond (.var 13) (.seq (.region [⟨none, .mv (.var 4), none⟩, ⟨none, .mv (.tmp 0), none⟩, ⟨none, .mv (.var 11), some (.tmp 1, true)⟩, ⟨none, .bin .eql (.tmp 2) (.cst (.int .i64 130)), some (.tmp 1, true)⟩, ⟨none, .pick (.tmp 1) (.tmp 3) (.cst (.bool false)), none⟩, ⟨none, .mv (.tmp 4), none⟩, ⟨none, .fieldAddr 0 (.var 10), some (.tmp 5, true)⟩, ⟨none, .load false 1 (.tmp 6), some (.tmp 5, true)⟩, ⟨none, .bin .eql (.tmp 7) (.cst (.int .i64 0)), some (.tmp 5, true)⟩, ⟨none, .pick (.tmp 5) (.tmp 8) (.cst (.bool false)), none⟩, ⟨some 3, .mv (.tmp 9), none⟩]) .ret) .skip)) (.seq (.region [⟨none, .mv (.var 4), none⟩, ⟨none, .mv (.tmp 0), none⟩, ⟨none, .mv (.var 11), some (.tmp 1, true)⟩, ⟨none, .bin .eql (.tmp 2) (.cst (.int .i64 0)), some (.tmp 1, true)⟩, ⟨none, .pick (.tmp 1) (.tmp 3) (.cst (.bool false)), none⟩, ⟨none, .mv (.tmp 4), none⟩, ⟨none, .fieldAddr 0 (.var 10), some (.tmp 5, true)⟩, ⟨none, .load false 1 (.tmp 6), some (.tmp 5, true)⟩, ⟨none, .mv (.var 7), some (.tmp 5, true)⟩, ⟨none, .bin .eql (.tmp 7) (.tmp 8), some (.tmp 5, true)⟩, ⟨none, .pick (.tmp 5) (.tmp 9) (.cst (.bool false)), none⟩, ⟨none, .mv (.tmp 10), none⟩, ⟨none, .load true 5 (.var 5), some (.tmp 11, true)⟩, ⟨none, .load true 4 (.var 10), some (.tmp 11, true)⟩, ⟨none, .call (.fn 26) [.tmp 12, .tmp 13], some (.tmp 11, true)⟩, ⟨none, .pick (.tmp 11) (.tmp 14) (.cst (.bool false)), none⟩, ⟨some 3, .mv (.tmp 15), none⟩]) .ret)))))))))), [.tmp 3]⟩
def mask10x0 : List Nat := [0, 1, 2, 3, 10, 11, 12, 13]
abbrev st10x0 (v4 v5 v6 v7 v8 v9 : AV) : List AV := [.undef, .undef, .undef, .undef, v4, v5, v6, v7, v8, v9, .undef, .undef, .undef, .undef]
theorem cl10x0 {d0 d1 d2 d3 v4 v5 v6 v7 v8 v9 d10 d11 d12 d13 : AV} : clear mask10x0 [d0, d1, d2, d3, v4, v5, v6, v7, v8, v9, d10, d11, d12, d13] = st10x0 v4 v5 v6 v7 v8 v9 := by simp only [mask10x0, clear, List.foldl_cons, List.foldl_nil, List.set_cons_zero, List.set_cons_succ]
theorem go10x0 {E : Env} {fuel : Nat} {A : Arena} {o : Out} {k : List KC} {d0 d1 d2 d3 v4 v5 v6 v7 v8 v9 d10 d11 d12 d13 : AV} (h : iter (evC E fuel lp10x0) mask10x0 fuel (st10x0 v4 v5 v6 v7 v8 v9) A = some o) :
    run E fuel (.code (.loop [0, 1, 2, 3, 10, 11, 12, 13] lp10x0) :: k) [d0, d1, d2, d3, v4, v5, v6, v7, v8, v9, d10, d11, d12, d13] A = after E fuel k o := run_loopC mask10x0 _ _ (by rw [cl10x0]; exact h)
set_option maxHeartbeats 4000000 in
theorem comp10 : compFun Try.prog Try.f10 2 [0, 1, 2, 4, 5, 6, 7, 8, 9, 10, 11, 12, 36, 73] [] true ([[0, 1, 2, 3, 10, 11, 12, 13]], [[0, 1, 2, 3, 10, 11, 12, 13], [0, 1, 2, 3, 6, 9, 10, 11, 12, 13]]) = some mf10 := by kernel_rfl
theorem at10 : Try.prog.funcs[10]? = some Try.f10 := by kernel_rfl
end Go.Proofs.Ytemklhljjaniaaa
/-
  Cluster: the laws One and Two, run.
-/
namespace Go.Proofs.Ytemklhljjaniaaa
open Go
open Cy (GC CArc arcA arcsOf isPer ValidA okA smM smT lvM lvT VerOk RefOk Ready Pos frz_i frz_b intsA_len M12_eq)

/-- a tool with so many blades -/
def bladesT (T : Tool) (b : Int) : Tool := ⟨T.ch, T.pick, T.place, T.travel, b⟩
theorem blades_valid {T : Tool} (h : ValidC T) {b : Int} (hb : b = 1 ∨ b = 2) : ValidC (bladesT T b) := by
  obtain ⟨h1, h2, h3, h4, _⟩ := h
  exact ⟨h1, h2, h3, h4, hb⟩
theorem blades_st (T : Tool) (C : AV) (b : Int) (r q : Ent) : evStore 1 [r, q, .row 5 false [toolA T C]] (.ptr 2 0 4) (.int .i64 b) = some [r, q, .row 5 false [toolA (bladesT T b) C]] := by
  simp [evStore, storeElem, toolA, bladesT]
theorem evMulI {a b : Int} (h : -9223372036854775808 ≤ a * b ∧ a * b ≤ 9223372036854775807) : evBin .mul (.int .i64 a) (.int .i64 b) = some (.int .i64 (a * b)) := by
  simp only [evBin]; rw [if_pos trivial, wrapI h]
/-! ### One -/
set_option maxRecDepth 100000 in
set_option maxHeartbeats 4000000 in
theorem ev9 {x : X5} (hx : x.inR) {y : Int × Int} (hy : inI y.1 ∧ inI y.2) : evP (envOf GC fsN) 300 mf9 1 [x5A x, chA y] = some (.bool true) := by
  have m13 := M13_eq hx (ys := [y]) (fun z hz => by rw [List.mem_singleton] at hz; rw [hz]; exact hy) (yv := .fs 2 [chA y]) (.inr rfl)
  obtain ⟨T, hT⟩ : ∃ T, T = makeT x [y] := ⟨_, rfl⟩
  have hval := make_valid x [y]
  have hcv := mk_ch x [y]
  obtain ⟨C, hC⟩ : ∃ C, C = slA 2 ((makeT x [y]).ch.map chA) := ⟨_, rfl⟩
  have hmk : mkA x [y] = toolA T C := by rw [hC, hT]; rfl
  rw [hmk] at m13
  rw [← hC, ← hT] at hcv
  rw [← hT] at hval
  obtain ⟨tm, sy, hch⟩ : ∃ tm sy, T.ch = [(tm, sy)] := by rw [hT]; exact ⟨_, _, rfl⟩
  have hv1 := blades_valid hval (.inl rfl : (1 : Int) = 1 ∨ (1 : Int) = 2)
  have hpk : 1 ≤ T.pick := by rw [hT]; have := pick_range x.a 5 (by omega); simp only [makeT]; omega
  obtain ⟨s, hb, hper, hord⟩ := one_best hv1 (tm := tm) (sy := sy) hch rfl hpk hval.2.1.2.1.1
  have hc := best_chk hb
  have hcv1 : SlA 2 ((bladesT T 1).ch.map chA) C := hcv
  have m22 := M22_eq hcv1 (by show T.ch.length ≤ 200; rw [hch]; simp)
  rw [hb] at m22
  have m22 : M22 [toolA (bladesT T 1) C] = some (.tup [schA s, .int .i64 0]) := m22
  have m26 := M26_of hcv1 (by show T.ch.length ≤ 200; rw [hch]; simp) hc
  have hw : workT (bladesT T 1) = T.pick + T.travel + T.place := by unfold workT; rw [if_neg (by show ¬ (1 : Int) = 2; omega)]; rfl
  rw [hw] at hper
  have htm := hval.1 (tm, sy) (by rw [hch]; simp)
  simp only [okCh] at htm
  have hr := hval.2.1
  have hper : s.period = 2 * (T.pick + T.travel + T.place) + tm + T.travel := hper
  have st0 := blades_st T C 1
  obtain ⟨D, hD⟩ : ∃ D, D = bladesT T 1 := ⟨_, rfl⟩
  have fA : ∀ r q j X, j < 5 → evFieldAddr j (r :: q :: .row 5 false [toolA D C] :: X) (.ptr 2 0 0) = some (.ptr 2 0 j) := fun r q j X hj => by simp [evFieldAddr, hj]
  have fA0 : ∀ r q j X, j < 5 → evFieldAddr j (r :: q :: .row 5 false [toolA T C] :: X) (.ptr 2 0 0) = some (.ptr 2 0 j) := fun r q j X hj => by simp [evFieldAddr, hj]
  have l0 : ∀ r q X, evLoad false 1 (r :: q :: .row 5 false [toolA D C] :: X) (.ptr 2 0 0) = some C := fun r q X => rfl
  have l1 : ∀ r q X, evLoad false 1 (r :: q :: .row 5 false [toolA D C] :: X) (.ptr 2 0 1) = some (.int .i64 T.pick) := fun r q X => by rw [hD]; rfl
  have l2 : ∀ r q X, evLoad false 1 (r :: q :: .row 5 false [toolA D C] :: X) (.ptr 2 0 2) = some (.int .i64 T.place) := fun r q X => by rw [hD]; rfl
  have l3 : ∀ r q X, evLoad false 1 (r :: q :: .row 5 false [toolA D C] :: X) (.ptr 2 0 3) = some (.int .i64 T.travel) := fun r q X => by rw [hD]; rfl
  have x0 : ∀ A, evIndexSl 2 A C (.int .i64 0) = some (.fp [.int .i64 tm, .int .i64 sy]) := fun A => by
    rw [hch] at hcv
    exact hcv.index (A := A) (i := 0) (x := chA (tm, sy)) rfl rfl (by omega) .i64
  have f0 : ∀ A, evFieldAddr 0 A (.fp [.int .i64 tm, .int .i64 sy]) = some (.fp [.int .i64 tm, .int .i64 sy]) := fun A => rfl
  have g0 : ∀ A, evLoad false 1 A (.fp [.int .i64 tm, .int .i64 sy]) = some (.int .i64 tm) := fun A => rfl
  have b1 : evBin .add (.int .i64 T.pick) (.int .i64 T.travel) = some (.int .i64 (T.pick + T.travel)) := evAddI (by omega)
  have b2 : evBin .add (.int .i64 (T.pick + T.travel)) (.int .i64 T.place) = some (.int .i64 (T.pick + T.travel + T.place)) := evAddI (by omega)
  have b3 : evBin .mul (.int .i64 2) (.int .i64 (T.pick + T.travel + T.place)) = some (.int .i64 (2 * (T.pick + T.travel + T.place))) := evMulI (by omega)
  have b4 : evBin .add (.int .i64 (2 * (T.pick + T.travel + T.place))) (.int .i64 tm) = some (.int .i64 (2 * (T.pick + T.travel + T.place) + tm)) := evAddI (by omega)
  have b5 : evBin .add (.int .i64 (2 * (T.pick + T.travel + T.place) + tm)) (.int .i64 T.travel) = some (.int .i64 s.period) := by rw [hper]; exact evAddI (by omega)
  have b6 := evEqlI s.period s.period
  rw [decide_eq_true rfl] at b6
  have b7 := evEqlI 0 0
  rw [decide_eq_true rfl] at b7
  have b8 := evEqlI 2 2
  rw [decide_eq_true rfl] at b8
  have fx : ∀ A, frz A 4 (x5A x) = x5A x := fun A => by simp [x5A, frz]
  have fy : ∀ A, frz A 4 (.fs 2 [chA y]) = .fs 2 [chA y] := fun A => rfl
  have fm : ∀ A, frz A 4 (toolA D C) = toolA D C := fun A => by rw [hD]; exact toolA_frz (T := bladesT T 1) (fun A n => hcv1.frz (A := A) n) A 3
  have nm : noRefB 4 (toolA D C) = true := by rw [hD]; exact toolA_noRef (T := bladesT T 1) (fun n => hcv1.noRef n) 3
  have fs : ∀ A, frz A 4 (schA s) = schA s := fun A => schA_frz s A 3
  have hlo : evLenSl (slA 1 (intsA s.order)) = some (.int .i64 2) := by rw [hord]; rfl
  have ex : ∀ X, evLoad true 5 (.row 5 false [x5A x] :: X) (.ptr 0 0 0) = some (x5A x) := fun X => rfl
  have ey : ∀ a X, evLoad true 2 (a :: .row 2 false [chA y] :: X) (.ptr 1 0 0) = some (chA y) := fun a X => rfl
  have et : ∀ r q X, evLoad true 5 (r :: q :: .row 5 false [toolA D C] :: X) (.ptr 2 0 0) = some (toolA D C) := fun r q X => rfl
  have bf : evBuildF 2 [chA y] = some (.fs 2 [chA y]) := rfl
  have bx0 : evBox 5 (x5A x) [] = some (.ptr 0 0 0, [.row 5 false [x5A x]]) := rfl
  have cx : (cellsOf (x5A x)).length = 5 := rfl
  have bx1 : ∀ r, evBox 2 (chA y) [r] = some (.ptr 1 0 0, [r, .row 2 false [chA y]]) := fun r => rfl
  have cy : (cellsOf (chA y)).length = 2 := rfl
  have bx2 : ∀ r q, evBox 5 (.agg [.nilS, .int .i64 0, .int .i64 0, .int .i64 0, .int .i64 0]) [r, q] = some (.ptr 2 0 0, [r, q, .row 5 false [.agg [.nilS, .int .i64 0, .int .i64 0, .int .i64 0, .int .i64 0]]]) := fun r q => rfl
  have st1 : ∀ r q z, evStore 5 [r, q, .row 5 false [z]] (.ptr 2 0 0) (toolA T C) = some [r, q, .row 5 false [toolA T C]] := fun r q z => by
    simp [evStore, storeElem, toolA]
  have bx3 : ∀ r q t, evBox 4 (.agg [.int .i64 0, .nilS, .nilS, .nilS]) [r, q, t] = some (.ptr 3 0 0, [r, q, t, .row 4 false [zA]]) := fun r q t => rfl
  have st2 : ∀ r q t, evStore 4 [r, q, t, .row 4 false [zA]] (.ptr 3 0 0) (schA s) = some [r, q, t, .row 4 false [schA s]] := fun r q t => by
    simp [evStore, storeElem, schA]
  have ld2 : ∀ r q t, evLoad true 4 [r, q, t, .row 4 false [schA s]] (.ptr 3 0 0) = some (schA s) := fun r q t => rfl
  have f2 : ∀ r q t j, j < 4 → evFieldAddr j [r, q, t, .row 4 false [schA s]] (.ptr 3 0 0) = some (.ptr 3 0 j) := fun r q t j hj => by simp [evFieldAddr, hj]
  have p2 : ∀ r q t, evLoad false 1 [r, q, t, .row 4 false [schA s]] (.ptr 3 0 0) = some (.int .i64 s.period) := fun r q t => rfl
  have o2 : ∀ r q t, evLoad false 1 [r, q, t, .row 4 false [schA s]] (.ptr 3 0 1) = some (slA 1 (intsA s.order)) := fun r q t => rfl
  rw [← hD] at st0 m22 m26
  obtain ⟨X, hX⟩ : ∃ X, X = x5A x := ⟨_, rfl⟩
  rw [← hX] at m13 fx bx0 cx ⊢
  simp only [← hX] at ex
  obtain ⟨Y, hY⟩ : ∃ Y, Y = chA y := ⟨_, rfl⟩
  rw [← hY] at m13 cy bf ⊢
  simp only [← hY] at fy bx1 ey
  obtain ⟨t, ht⟩ : ∃ t, t = toolA T C := ⟨_, rfl⟩
  rw [← ht] at m13
  simp only [← ht] at st0 st1 fA0
  obtain ⟨d, hd⟩ : ∃ t, t = toolA D C := ⟨_, rfl⟩
  rw [← hd] at m22 m26 nm
  simp only [← hd] at st0 fA l0 l1 l2 l3 fm et
  obtain ⟨S, hS⟩ : ∃ S, S = schA s := ⟨_, rfl⟩
  rw [← hS] at m22 m26
  simp only [← hS] at fs st2 ld2 f2 p2 o2
  obtain ⟨O, hO⟩ : ∃ O, O = slA 1 (intsA s.order) := ⟨_, rfl⟩
  rw [← hO] at hlo
  simp only [← hO] at o2
  obtain ⟨w1, hw1⟩ : ∃ w, w = T.pick + T.travel := ⟨_, rfl⟩
  rw [← hw1] at b1 b2 b3 b4 b5
  obtain ⟨w2, hw2⟩ : ∃ w, w = w1 + T.place := ⟨_, rfl⟩
  rw [← hw2] at b2 b3 b4 b5
  obtain ⟨w3, hw3⟩ : ∃ w, w = 2 * w2 := ⟨_, rfl⟩
  rw [← hw3] at b3 b4 b5
  obtain ⟨w4, hw4⟩ : ∃ w, w = w3 + tm := ⟨_, rfl⟩
  rw [← hw4] at b4 b5
  rw [evP_run _ _ rfl]
  simp [mf9, bx0, cx, bx1, cy, ex, ey, bf, fx, fy, m13, bx2, st1, fA0, st0, et, fm, nm, m22, bx3, st2, ld2, f2, p2, o2, fs, fA, l0, l1, l2, l3, b1, b2, b3, b4, b5, b6, b7, b8, x0, f0, g0, hlo, m26, frz_b, -evBin, -evLoad, -evStore, -evFieldAddr, -evBox, -evLenSl, -evIndexSl, -evBuildF, -frz, -cellsOf]
theorem ev9L (args : List AV) (h : LawArgs Try.prog 8 Try.f9.params.toList args) : ∃ fuel, evP (envOf GC fsN) fuel mf9 1 args = some (.bool true) := by
  rw [Try.params9] at h
  obtain ⟨a, r, rfl, h0, h⟩ := h.cons
  obtain ⟨b, r, rfl, h1, h⟩ := h.cons
  obtain rfl := h.nil
  obtain ⟨x, rfl, hx⟩ := x5_arg (n := 6) h0
  obtain ⟨y, rfl, hy⟩ := two_arg (n := 6) h1
  exact ⟨300, ev9 hx hy⟩
end Go.Proofs.Ytemklhljjaniaaa
/-
  Cluster: the law Two, run.
-/
namespace Go.Proofs.Ytemklhljjaniaaa
open Go
open Cy (GC CArc arcA arcsOf isPer ValidA okA smM smT lvM lvT VerOk RefOk Ready Pos frz_i frz_b intsA_len M12_eq)

theorem maxI (a b : Int) : evMinL true (.int .i64 a) [.int .i64 b] = some (.int .i64 (max a b)) := by
  simp only [evMinL, evMin2]
  congr 2
  by_cases h : a ≤ b
  · rw [Int.max_eq_right h]; simp; omega
  · rw [Int.max_eq_left (by omega)]; simp; omega
theorem minI (a b : Int) : evMinL false (.int .i64 a) [.int .i64 b] = some (.int .i64 (min a b)) := by
  simp only [evMinL, evMin2]
  congr 2
  by_cases h : a ≤ b
  · rw [Int.min_eq_left h]; simp; omega
  · rw [Int.min_eq_right (by omega)]; simp; omega
theorem want_succ {T : Tool} {i : Nat} (hi : i < T.ch.length) : wantT T (i + 1) = max (wantT T i) (workT T + T.ch[i].1) := by
  unfold wantT
  rw [List.take_succ_eq_append_getElem hi, List.foldl_append]; rfl
theorem most_succ {T : Tool} {i : Nat} (hi : i < T.ch.length) : mostT T (i + 1) = min (mostT T i) (workT T + T.ch[i].1 + T.ch[i].2) := by
  unfold mostT
  rw [List.take_succ_eq_append_getElem hi, List.foldl_append]; rfl
set_option maxRecDepth 100000 in
set_option maxHeartbeats 4000000 in
theorem round10 {T : Tool} (hv : ValidC T) {C : AV} (hcv : SlA 2 (T.ch.map chA) C) {A : Arena} (fa : evFieldAddr 0 A (.ptr 1 0 0) = some (.ptr 1 0 0)) (la : evLoad false 1 A (.ptr 1 0 0) = some C) {i : Nat} (hi : i < T.ch.length) :
    run (envOf GC fsN) 300 [.code lp10x0] (st10x0 (.bool true) (.ptr 1 0 0) (.int .i64 (workT T)) (.int .i64 (wantT T i)) (.int .i64 (mostT T i)) (.int .i64 (i : Int))) A =
      some (.normal (st10x0 (.bool true) (.ptr 1 0 0) (.int .i64 (workT T)) (.int .i64 (wantT T (i + 1))) (.int .i64 (mostT T (i + 1))) (.int .i64 ((i + 1 : Nat) : Int))) A) := by
  have hw := workT_bd hv
  have hlen := hcv.len
  rw [List.length_map] at hlen
  have hx := hv.1 _ (List.getElem_mem hi)
  have hn4 := hv.2.2.2.1
  have x1 := hcv.index (A := A) (i := i) (x := chA T.ch[i]) (by simp [hi]) rfl (by omega) .i64
  rw [want_succ hi, most_succ hi]
  obtain ⟨⟨tm, sy⟩, hc⟩ : ∃ c, c = T.ch[i] := ⟨_, rfl⟩
  rw [← hc] at hx x1 ⊢
  simp only [okCh] at hx
  have x1 : evIndexSl 2 A C (.int .i64 (i : Int)) = some (.fp [.int .i64 tm, .int .i64 sy]) := x1
  have g0 : evFieldAddr 0 A (.fp [.int .i64 tm, .int .i64 sy]) = some (.fp [.int .i64 tm, .int .i64 sy]) := rfl
  have g1 : evFieldAddr 1 A (.fp [.int .i64 tm, .int .i64 sy]) = some (.fp [.int .i64 sy]) := rfl
  have e0 : evLoad false 1 A (.fp [.int .i64 tm, .int .i64 sy]) = some (.int .i64 tm) := rfl
  have b0 := lt_nat i T.ch.length .i64
  rw [decide_eq_true hi] at b0
  have b1 := add1_nat i (by omega)
  have b2 : evBin .add (.int .i64 (workT T)) (.int .i64 tm) = some (.int .i64 (workT T + tm)) := evAddI (by omega)
  have b3 : evBin .add (.int .i64 (workT T + tm)) (.int .i64 sy) = some (.int .i64 (workT T + tm + sy)) := evAddI (by omega)
  simp only
  have m1 := maxI (wantT T i) (workT T + tm)
  have m2 := minI (mostT T i) (workT T + tm + sy)
  obtain ⟨i1, hi1⟩ : ∃ n, n = i + 1 := ⟨_, rfl⟩
  rw [← hi1] at b1 ⊢
  obtain ⟨w, hww⟩ : ∃ w, w = workT T := ⟨_, rfl⟩
  rw [← hww] at b2 b3 m1 m2 ⊢
  obtain ⟨w1, hw1⟩ : ∃ x, x = w + tm := ⟨_, rfl⟩
  rw [← hw1] at b2 b3 m1 m2 ⊢
  obtain ⟨w2, hw2⟩ : ∃ x, x = w1 + sy := ⟨_, rfl⟩
  rw [← hw2] at b3 m2 ⊢
  obtain ⟨p, hp⟩ : ∃ x, x = max (wantT T i) w1 := ⟨_, rfl⟩
  rw [← hp] at m1 ⊢
  obtain ⟨q, hq⟩ : ∃ x, x = min (mostT T i) w2 := ⟨_, rfl⟩
  rw [← hq] at m2 ⊢
  simp [lp10x0, fa, la, hlen, x1, g0, g1, e0, b0, b1, b2, b3, m1, m2, -evBin, -evLoad, -evFieldAddr, -evIndexSl, -evLenSl, -evMinL, -evMin2]
set_option maxRecDepth 100000 in
set_option maxHeartbeats 4000000 in
theorem ev10 {x : X5} (hx : x.inR) {ys : List (Int × Int)} (hys : ∀ y ∈ ys, inI y.1 ∧ inI y.2) {yv : AV} (hy : SlA 2 (ys.map chA) yv) : evP (envOf GC fsN) 300 mf10 1 [x5A x, yv] = some (.bool true) := by
  have m13 := M13_eq hx hys hy
  obtain ⟨T0, hT0⟩ : ∃ T, T = makeT x ys := ⟨_, rfl⟩
  have hval0 := make_valid x ys
  have hcv0 := mk_ch x ys
  have hn4 := mk_len x ys
  obtain ⟨C, hC⟩ : ∃ C, C = slA 2 ((makeT x ys).ch.map chA) := ⟨_, rfl⟩
  have hmk : mkA x ys = toolA T0 C := by rw [hC, hT0]; rfl
  rw [hmk] at m13
  rw [← hC, ← hT0] at hcv0
  rw [← hT0] at hval0 hn4
  have hpk : 1 ≤ T0.pick := by rw [hT0]; have := pick_range x.a 5 (by omega); simp only [makeT]; omega
  obtain ⟨T, hT⟩ : ∃ T, T = bladesT T0 2 := ⟨_, rfl⟩
  have hval : ValidC T := by rw [hT]; exact blades_valid hval0 (.inr rfl)
  have hcv : SlA 2 (T.ch.map chA) C := by rw [hT]; exact hcv0
  have hbl : T.blades = 2 := by rw [hT]; rfl
  have hbest := two_best hval hbl (by rw [hT]; exact hpk) hval.2.1.2.1.1
  have hw : workT T = T.pick + T.place := if_pos hbl
  have hwb := workT_bd hval
  have htr := hval.2.1.2.2
  have hr := hval.2.1
  have hn4' : T.ch.length ≤ 4 := hval.2.2.2.1
  have m22 := M22_eq hcv (by omega)
  have lp : ∀ A : Arena, evFieldAddr 0 A (.ptr 1 0 0) = some (.ptr 1 0 0) → evLoad false 1 A (.ptr 1 0 0) = some C → iter (evC (envOf GC fsN) 300 lp10x0) mask10x0 300 (st10x0 (.bool true) (.ptr 1 0 0) (.int .i64 (workT T)) (.int .i64 (wantT T 0)) (.int .i64 1000000) (.int .i64 0)) A =
      some (.exit 0 ((st10x0 (.bool true) (.ptr 1 0 0) (.int .i64 (workT T)) (.int .i64 (wantT T T.ch.length)) (.int .i64 (mostT T T.ch.length)) (.int .i64 (T.ch.length : Int))).set 12 (.bool false)) A) := fun A fa la => by
    have e := lt_nat T.ch.length T.ch.length .i64
    rw [decide_eq_false (by omega)] at e
    have hlen := hcv.len
    rw [List.length_map] at hlen
    exact iter_up (E := envOf GC fsN) (fuel := 300) (a := lp10x0) (mask := mask10x0) (fun i => st10x0 (.bool true) (.ptr 1 0 0) (.int .i64 (workT T)) (.int .i64 (wantT T i)) (.int .i64 (mostT T i)) (.int .i64 (i : Int))) (fun _ => A) T.ch.length (o := .exit 0 ((st10x0 (.bool true) (.ptr 1 0 0) (.int .i64 (workT T)) (.int .i64 (wantT T T.ch.length)) (.int .i64 (mostT T T.ch.length)) (.int .i64 (T.ch.length : Int))).set 12 (.bool false)) A)
      (fun _ => cl10x0) (fun _ _ h => by cases h) (fun i hi => round10 hval hcv fa la hi) (by
        simp [lp10x0, fa, la, hlen, e, -evBin, -evLenSl, -evLoad, -evFieldAddr]) (m := 300) (by omega)
  have hlen := hcv.len
  rw [List.length_map] at hlen
  have st0 : ∀ r, evStore 1 [r, .row 5 false [toolA T0 C]] (.ptr 1 0 4) (.int .i64 2) = some [r, .row 5 false [toolA T C]] := fun r => by
    rw [hT]
    simp [evStore, storeElem, toolA, bladesT]
  have fA : ∀ r j X, j < 5 → evFieldAddr j (r :: .row 5 false [toolA T C] :: X) (.ptr 1 0 0) = some (.ptr 1 0 j) := fun r j X hj => by simp [evFieldAddr, hj]
  have fA0 : ∀ r j X, j < 5 → evFieldAddr j (r :: .row 5 false [toolA T0 C] :: X) (.ptr 1 0 0) = some (.ptr 1 0 j) := fun r j X hj => by simp [evFieldAddr, hj]
  have l0 : ∀ r X, evLoad false 1 (r :: .row 5 false [toolA T C] :: X) (.ptr 1 0 0) = some C := fun r X => rfl
  have l1 : ∀ r X, evLoad false 1 (r :: .row 5 false [toolA T C] :: X) (.ptr 1 0 1) = some (.int .i64 T.pick) := fun r X => rfl
  have l2 : ∀ r X, evLoad false 1 (r :: .row 5 false [toolA T C] :: X) (.ptr 1 0 2) = some (.int .i64 T.place) := fun r X => rfl
  have l3 : ∀ r X, evLoad false 1 (r :: .row 5 false [toolA T C] :: X) (.ptr 1 0 3) = some (.int .i64 T.travel) := fun r X => rfl
  have b1 : evBin .add (.int .i64 T.pick) (.int .i64 T.place) = some (.int .i64 (workT T)) := by rw [hw]; exact evAddI (by omega)
  have b2 : evBin .add (.int .i64 (T.ch.length : Int)) (.int .i64 1) = some (.int .i64 ((T.ch.length : Int) + 1)) := evAddI (by omega)
  have b3 : evBin .add (.int .i64 (workT T)) (.int .i64 T.travel) = some (.int .i64 (workT T + T.travel)) := evAddI (by omega)
  have hmul : ((T.ch.length : Int) + 1) * (workT T + T.travel) ≤ 5 * 40000 := Int.mul_le_mul (by omega) (by omega) (by omega) (by omega)
  have hmul0 : 0 ≤ ((T.ch.length : Int) + 1) * (workT T + T.travel) := Int.mul_nonneg (by omega) (by omega)
  have b4 : evBin .mul (.int .i64 ((T.ch.length : Int) + 1)) (.int .i64 (workT T + T.travel)) = some (.int .i64 (wantT T 0)) := evMulI (by omega)
  have b5 := evGtrI (wantT T T.ch.length) (mostT T T.ch.length)
  have fx : ∀ A, frz A 4 (x5A x) = x5A x := fun A => by simp [x5A, frz]
  have fy : ∀ A, frz A 4 yv = yv := fun A => hy.frz 4
  have fm : ∀ A, frz A 4 (toolA T C) = toolA T C := fun A => toolA_frz (T := T) (fun A n => hcv.frz (A := A) n) A 3
  have nm : noRefB 4 (toolA T C) = true := toolA_noRef (T := T) (fun n => hcv.noRef n) 3
  have ex : ∀ X, evLoad true 5 (.row 5 false [x5A x] :: X) (.ptr 0 0 0) = some (x5A x) := fun X => rfl
  have et : ∀ r X, evLoad true 5 (r :: .row 5 false [toolA T C] :: X) (.ptr 1 0 0) = some (toolA T C) := fun r X => rfl
  have bx0 : evBox 5 (x5A x) [] = some (.ptr 0 0 0, [.row 5 false [x5A x]]) := rfl
  have cx : (cellsOf (x5A x)).length = 5 := rfl
  have bx2 : ∀ r, evBox 5 (.agg [.nilS, .int .i64 0, .int .i64 0, .int .i64 0, .int .i64 0]) [r] = some (.ptr 1 0 0, [r, .row 5 false [.agg [.nilS, .int .i64 0, .int .i64 0, .int .i64 0, .int .i64 0]]]) := fun r => rfl
  have st1 : ∀ r z, evStore 5 [r, .row 5 false [z]] (.ptr 1 0 0) (toolA T0 C) = some [r, .row 5 false [toolA T0 C]] := fun r z => by
    simp [evStore, storeElem, toolA]
  have bx3 : ∀ r q, evBox 4 (.agg [.int .i64 0, .nilS, .nilS, .nilS]) [r, q] = some (.ptr 2 0 0, [r, q, .row 4 false [zA]]) := fun r q => rfl
  have st2 : ∀ r q (s : Sched), evStore 4 [r, q, .row 4 false [zA]] (.ptr 2 0 0) (schA s) = some [r, q, .row 4 false [schA s]] := fun r q s => by
    simp [evStore, storeElem, schA]
  have ld2 : ∀ r q (s : Sched), evLoad true 4 [r, q, .row 4 false [schA s]] (.ptr 2 0 0) = some (schA s) := fun r q s => rfl
  have f2 : ∀ r q (s : Sched), evFieldAddr 0 [r, q, .row 4 false [schA s]] (.ptr 2 0 0) = some (.ptr 2 0 0) := fun r q s => rfl
  have p2 : ∀ r q (s : Sched), evLoad false 1 [r, q, .row 4 false [schA s]] (.ptr 2 0 0) = some (.int .i64 s.period) := fun r q s => rfl
  obtain ⟨X, hX⟩ : ∃ X, X = x5A x := ⟨_, rfl⟩
  rw [← hX] at m13 fx bx0 cx ⊢
  simp only [← hX] at ex
  obtain ⟨t, ht⟩ : ∃ t, t = toolA T0 C := ⟨_, rfl⟩
  rw [← ht] at m13
  simp only [← ht] at st0 st1 fA0
  have m26 := fun s (h : Chk T s) => M26_of hcv (by omega) h
  obtain ⟨d, hd⟩ : ∃ t, t = toolA T C := ⟨_, rfl⟩
  rw [← hd] at m22 nm
  simp only [← hd] at st0 fA l0 l1 l2 l3 fm et m26
  have lp := lp [.row 5 false [X], .row 5 false [d]] (fA _ 0 _ (by omega)) (l0 _ _)
  obtain ⟨wt, hwt⟩ : ∃ w, w = workT T := ⟨_, rfl⟩
  rw [← hwt] at b1 b3 lp b4
  obtain ⟨w1, hw1⟩ : ∃ w, w = wt + T.travel := ⟨_, rfl⟩
  rw [← hw1] at b3 b4
  obtain ⟨n1, hn1⟩ : ∃ w, w = (T.ch.length : Int) + 1 := ⟨_, rfl⟩
  rw [← hn1] at b2 b4
  obtain ⟨wa, hwa⟩ : ∃ w, w = wantT T T.ch.length := ⟨_, rfl⟩
  rw [← hwa] at b5 lp hbest
  obtain ⟨mo, hmo⟩ : ∃ w, w = mostT T T.ch.length := ⟨_, rfl⟩
  rw [← hmo] at b5 lp hbest
  obtain ⟨w0, hw0⟩ : ∃ w, w = wantT T 0 := ⟨_, rfl⟩
  rw [← hw0] at b4 lp
  obtain ⟨L, hL⟩ : ∃ w, w = (T.ch.length : Int) := ⟨_, rfl⟩
  rw [← hL] at hlen lp b2
  by_cases hgt : wa > mo
  · rw [if_pos hgt] at hbest
    rw [decide_eq_true hgt] at b5
    rw [hbest] at m22
    have m22 : M22 [d] = some (.tup [schA zeroS, .int .i64 130]) := m22
    have st2 := fun r q => st2 r q zeroS
    have f2 := fun r q => f2 r q zeroS
    have p2 : ∀ r q, evLoad false 1 [r, q, .row 4 false [schA zeroS]] (.ptr 2 0 0) = some (.int .i64 0) := fun r q => p2 r q zeroS
    have b6 := evEqlI 130 130
    rw [decide_eq_true rfl] at b6
    have b7 := evEqlI 0 0
    rw [decide_eq_true rfl] at b7
    obtain ⟨S, hS⟩ : ∃ S, S = schA zeroS := ⟨_, rfl⟩
    rw [← hS] at m22
    simp only [← hS] at st2 f2 p2
    rw [evP_run _ _ rfl]
    simp [mf10, bx0, cx, ex, fx, fy, m13, bx2, st1, fA0, st0, fA, l0, l1, l2, l3, hlen, b1, b2, b3, b4, go10x0 lp, et, fm, nm, m22, bx3, st2, f2, p2, b5, b6, b7, frz_b, -evBin, -evLoad, -evStore, -evFieldAddr, -evBox, -evLenSl, -frz, -cellsOf]
  · rw [if_neg hgt] at hbest
    rw [decide_eq_false hgt] at b5
    obtain ⟨s, hb, hper⟩ := hbest
    have hc := best_chk hb
    rw [hb] at m22
    have m22 : M22 [d] = some (.tup [schA s, .int .i64 0]) := m22
    have st2 := fun r q => st2 r q s
    have f2 := fun r q => f2 r q s
    have p2 : ∀ r q, evLoad false 1 [r, q, .row 4 false [schA s]] (.ptr 2 0 0) = some (.int .i64 wa) := fun r q => by rw [← hper]; exact p2 r q s
    have ld2 := fun r q => ld2 r q s
    have m26 := m26 s hc
    have fs : ∀ A, frz A 4 (schA s) = schA s := fun A => schA_frz s A 3
    have b6 := evEqlI 0 0
    rw [decide_eq_true rfl] at b6
    have b7 := evEqlI wa wa
    rw [decide_eq_true rfl] at b7
    obtain ⟨S, hS⟩ : ∃ S, S = schA s := ⟨_, rfl⟩
    rw [← hS] at m22 m26
    simp only [← hS] at st2 f2 p2 ld2 fs
    rw [evP_run _ _ rfl]
    simp [mf10, bx0, cx, ex, fx, fy, m13, bx2, st1, fA0, st0, fA, l0, l1, l2, l3, hlen, b1, b2, b3, b4, go10x0 lp, et, fm, nm, m22, bx3, st2, f2, p2, ld2, fs, m26, b5, b6, b7, frz_b, -evBin, -evLoad, -evStore, -evFieldAddr, -evBox, -evLenSl, -frz, -cellsOf]
theorem ev10L (args : List AV) (h : LawArgs Try.prog 8 Try.f10.params.toList args) : ∃ fuel, evP (envOf GC fsN) fuel mf10 1 args = some (.bool true) := by
  rw [Try.params10] at h
  obtain ⟨a, r, rfl, h0, h⟩ := h.cons
  obtain ⟨b, r, rfl, h1, h⟩ := h.cons
  obtain rfl := h.nil
  obtain ⟨x, rfl, hx⟩ := x5_arg (n := 6) h0
  obtain ⟨ys, hy, hys, _⟩ := twos_arg (n := 5) h1
  exact ⟨300, ev10 hx hys hy⟩
end Go.Proofs.Ytemklhljjaniaaa
/-
  The functions, compiled; written by wip/gen.
-/
namespace Go.Proofs.Ytemklhljjaniaaa
open Go
def lp25x0 : MC := .seq (.seq (.region [⟨none, .mv (.var 5), none⟩, ⟨none, .fieldAddr 2 (.var 2), none⟩, ⟨none, .load false 1 (.tmp 1), none⟩, ⟨none, .lenSl (.tmp 2), none⟩, ⟨some 7, .bin .lss (.tmp 0) (.tmp 3), none⟩]) (.cond (.var 7) .skip (.exit 1))) (.seq (.seq (.block 2 (.region [⟨none, .fieldAddr 2 (.var 2), none⟩, ⟨none, .load false 1 (.tmp 0), none⟩, ⟨none, .mv (.var 5), none⟩, ⟨none, .fieldAddr 2 (.var 2), none⟩, ⟨none, .load false 1 (.tmp 3), none⟩, ⟨none, .mv (.var 5), none⟩, ⟨none, .indexSl 1 (.tmp 4) (.tmp 5), none⟩, ⟨none, .load false 1 (.tmp 6), none⟩, ⟨none, .indexArr 3 1 (.var 3) (.cst (.int .i64 1)), none⟩, ⟨none, .load false 1 (.tmp 8), none⟩, ⟨none, .call (.fn 30) [.tmp 9, .cst (.int .i64 50)], none⟩, ⟨none, .bin .add (.tmp 7) (.tmp 10), none⟩, ⟨none, .indexSl 1 (.tmp 1) (.tmp 2), none⟩, ⟨none, .store 1 (.tmp 12) (.tmp 11), none⟩])) (.kill [0, 1, 6, 7, 8, 9, 10, 11, 12, 13, 14, 15])) (.region [⟨none, .mv (.var 5), none⟩, ⟨none, .bin .add (.tmp 0) (.cst (.int .i64 1)), none⟩, ⟨some 5, .mv (.tmp 1), none⟩]))
def mf25 : MFun := ⟨2, 16, .seq (.region [⟨some 2, .box (.var 0), none⟩, ⟨some 3, .box (.var 1), none⟩, ⟨some 4, .alloc 4 (.agg [.int .i64 0, .nilS, .nilS, .nilS]), none⟩]) (.seq (.region [⟨none, .buildSlice 1 [], none⟩, ⟨none, .fieldAddr 1 (.var 2), none⟩, ⟨none, .load false 1 (.tmp 1), none⟩, ⟨none, .append 1 8 (.tmp 0) (.tmp 2), none⟩, ⟨none, .fieldAddr 1 (.var 2), none⟩, ⟨none, .store 1 (.tmp 4) (.tmp 3), none⟩]) (.seq (.region [⟨none, .buildSlice 1 [], none⟩, ⟨none, .fieldAddr 2 (.var 2), none⟩, ⟨none, .load false 1 (.tmp 1), none⟩, ⟨none, .append 1 8 (.tmp 0) (.tmp 2), none⟩, ⟨none, .fieldAddr 2 (.var 2), none⟩, ⟨none, .store 1 (.tmp 4) (.tmp 3), none⟩]) (.seq (.region [⟨none, .buildSlice 1 [], none⟩, ⟨none, .fieldAddr 3 (.var 2), none⟩, ⟨none, .load false 1 (.tmp 1), none⟩, ⟨none, .append 1 8 (.tmp 0) (.tmp 2), none⟩, ⟨none, .fieldAddr 3 (.var 2), none⟩, ⟨none, .store 1 (.tmp 4) (.tmp 3), none⟩]) (.seq (.seq (.region [⟨none, .indexArr 3 1 (.var 3) (.cst (.int .i64 0)), none⟩, ⟨none, .load false 1 (.tmp 0), none⟩, ⟨some 6, .call (.fn 30) [.tmp 1, .cst (.int .i64 6)], none⟩]) (.seq (.block 0 (.seq (.region [⟨none, .bin .eql (.var 6) (.cst (.int .i64 0)), none⟩, ⟨some 8, .mv (.tmp 0), none⟩]) (.cond (.var 8) (.region [⟨none, .fieldAddr 0 (.var 2), none⟩, ⟨none, .load false 1 (.tmp 0), none⟩, ⟨none, .bin .add (.tmp 1) (.cst (.int .i64 1)), none⟩, ⟨none, .indexArr 3 1 (.var 3) (.cst (.int .i64 1)), none⟩, ⟨none, .load false 1 (.tmp 3), none⟩, ⟨none, .call (.fn 30) [.tmp 4, .cst (.int .i64 3)], none⟩, ⟨none, .bin .add (.tmp 2) (.tmp 5), none⟩, ⟨none, .fieldAddr 0 (.var 2), none⟩, ⟨none, .store 1 (.tmp 7) (.tmp 6), none⟩]) (.seq (.region [⟨none, .bin .eql (.var 6) (.cst (.int .i64 1)), none⟩, ⟨some 9, .mv (.tmp 0), none⟩]) (.cond (.var 9) (.region [⟨none, .fieldAddr 0 (.var 2), none⟩, ⟨none, .load false 1 (.tmp 0), none⟩, ⟨none, .bin .sub (.tmp 1) (.cst (.int .i64 1)), none⟩, ⟨none, .fieldAddr 0 (.var 2), none⟩, ⟨none, .store 1 (.tmp 3) (.tmp 2), none⟩]) (.seq (.region [⟨none, .bin .eql (.var 6) (.cst (.int .i64 2)), none⟩, ⟨some 10, .mv (.tmp 0), none⟩]) (.cond (.var 10) (.seq (.region [⟨none, .fieldAddr 2 (.var 2), none⟩, ⟨none, .load false 1 (.tmp 0), none⟩, ⟨none, .lenSl (.tmp 1), none⟩, ⟨some 11, .bin .gtr (.tmp 2) (.cst (.int .i64 0)), none⟩]) (.cond (.var 11) (.region [⟨none, .fieldAddr 2 (.var 2), none⟩, ⟨none, .load false 1 (.tmp 0), none⟩, ⟨none, .indexArr 3 1 (.var 3) (.cst (.int .i64 1)), none⟩, ⟨none, .load false 1 (.tmp 2), none⟩, ⟨none, .fieldAddr 2 (.var 2), none⟩, ⟨none, .load false 1 (.tmp 4), none⟩, ⟨none, .lenSl (.tmp 5), none⟩, ⟨none, .call (.fn 30) [.tmp 3, .tmp 6], none⟩, ⟨none, .indexSl 1 (.tmp 1) (.tmp 7), none⟩, ⟨none, .load false 1 (.tmp 8), none⟩, ⟨none, .indexArr 3 1 (.var 3) (.cst (.int .i64 2)), none⟩, ⟨none, .load false 1 (.tmp 10), none⟩, ⟨none, .call (.fn 30) [.tmp 11, .cst (.int .i64 9)], none⟩, ⟨none, .bin .sub (.tmp 12) (.cst (.int .i64 4)), none⟩, ⟨none, .bin .add (.tmp 9) (.tmp 13), none⟩, ⟨none, .indexSl 1 (.tmp 1) (.tmp 7), none⟩, ⟨none, .store 1 (.tmp 15) (.tmp 14), none⟩]) .skip)) (.seq (.region [⟨none, .bin .eql (.var 6) (.cst (.int .i64 3)), none⟩, ⟨some 12, .mv (.tmp 0), none⟩]) (.cond (.var 12) (.seq (.region [⟨none, .fieldAddr 3 (.var 2), none⟩, ⟨none, .load false 1 (.tmp 0), none⟩, ⟨none, .lenSl (.tmp 1), none⟩, ⟨some 13, .bin .gtr (.tmp 2) (.cst (.int .i64 0)), none⟩]) (.cond (.var 13) (.region [⟨none, .fieldAddr 3 (.var 2), none⟩, ⟨none, .load false 1 (.tmp 0), none⟩, ⟨none, .indexArr 3 1 (.var 3) (.cst (.int .i64 1)), none⟩, ⟨none, .load false 1 (.tmp 2), none⟩, ⟨none, .fieldAddr 3 (.var 2), none⟩, ⟨none, .load false 1 (.tmp 4), none⟩, ⟨none, .lenSl (.tmp 5), none⟩, ⟨none, .call (.fn 30) [.tmp 3, .tmp 6], none⟩, ⟨none, .indexArr 3 1 (.var 3) (.cst (.int .i64 2)), none⟩, ⟨none, .load false 1 (.tmp 8), none⟩, ⟨none, .call (.fn 30) [.tmp 9, .cst (.int .i64 13)], none⟩, ⟨none, .bin .sub (.tmp 10) (.cst (.int .i64 1)), none⟩, ⟨none, .indexSl 1 (.tmp 1) (.tmp 7), none⟩, ⟨none, .store 1 (.tmp 12) (.tmp 11), none⟩]) .skip)) (.seq (.region [⟨none, .bin .eql (.var 6) (.cst (.int .i64 4)), none⟩, ⟨some 14, .mv (.tmp 0), none⟩]) (.cond (.var 14) (.seq (.region [⟨none, .fieldAddr 1 (.var 2), none⟩, ⟨none, .load false 1 (.tmp 0), none⟩, ⟨none, .lenSl (.tmp 1), none⟩, ⟨some 15, .bin .gtr (.tmp 2) (.cst (.int .i64 2)), none⟩]) (.cond (.var 15) (.regionD [30] [⟨none, .fieldAddr 1 (.var 2), none⟩, ⟨none, .load false 1 (.tmp 0), none⟩, ⟨none, .fieldAddr 1 (.var 2), none⟩, ⟨none, .load false 1 (.tmp 2), none⟩, ⟨none, .fieldAddr 1 (.var 2), none⟩, ⟨none, .load false 1 (.tmp 4), none⟩, ⟨none, .lenSl (.tmp 5), none⟩, ⟨none, .bin .sub (.tmp 6) (.cst (.int .i64 1)), none⟩, ⟨none, .fieldAddr 1 (.var 2), none⟩, ⟨none, .load false 1 (.tmp 8), none⟩, ⟨none, .fieldAddr 1 (.var 2), none⟩, ⟨none, .load false 1 (.tmp 10), none⟩, ⟨none, .lenSl (.tmp 11), none⟩, ⟨none, .bin .sub (.tmp 12) (.cst (.int .i64 1)), none⟩, ⟨none, .indexSl 1 (.tmp 9) (.tmp 13), none⟩, ⟨none, .load false 1 (.tmp 14), none⟩, ⟨none, .fieldAddr 1 (.var 2), none⟩, ⟨none, .load false 1 (.tmp 16), none⟩, ⟨none, .indexSl 1 (.tmp 17) (.cst (.int .i64 1)), none⟩, ⟨none, .load false 1 (.tmp 18), none⟩, ⟨none, .indexSl 1 (.tmp 1) (.cst (.int .i64 1)), none⟩, ⟨none, .store 1 (.tmp 20) (.tmp 15), none⟩, ⟨none, .indexSl 1 (.tmp 3) (.tmp 7), none⟩, ⟨none, .store 1 (.tmp 22) (.tmp 19), none⟩] [(2, 21), (3, 21), (4, 21), (5, 21)]) .skip)) (.seq (.region [⟨some 5, .mv (.cst (.int .i64 0)), none⟩]) (.seq (.block 1 (.loop [0, 1, 6, 7, 8, 9, 10, 11, 12, 13, 14, 15] lp25x0)) (.kill [0, 1, 3, 5, 6, 7, 8, 9, 10, 11, 12, 13, 14, 15])))))))))))))) (.kill [0, 1, 3, 5, 6, 7, 8, 9, 10, 11, 12, 13, 14, 15]))) (.seq (.region [⟨none, .load true 4 (.var 2), none⟩, ⟨none, .store 4 (.var 4) (.tmp 0), none⟩]) .ret))))), [.cell 4 true 4]⟩
def mask25x0 : List Nat := [0, 1, 6, 7, 8, 9, 10, 11, 12, 13, 14, 15]
abbrev st25x0 (v2 v3 v4 v5 : AV) : List AV := [.undef, .undef, v2, v3, v4, v5, .undef, .undef, .undef, .undef, .undef, .undef, .undef, .undef, .undef, .undef]
theorem cl25x0 {d0 d1 v2 v3 v4 v5 d6 d7 d8 d9 d10 d11 d12 d13 d14 d15 : AV} : clear mask25x0 [d0, d1, v2, v3, v4, v5, d6, d7, d8, d9, d10, d11, d12, d13, d14, d15] = st25x0 v2 v3 v4 v5 := by simp only [mask25x0, clear, List.foldl_cons, List.foldl_nil, List.set_cons_zero, List.set_cons_succ]
theorem go25x0 {E : Env} {fuel : Nat} {A : Arena} {o : Out} {k : List KC} {d0 d1 v2 v3 v4 v5 d6 d7 d8 d9 d10 d11 d12 d13 d14 d15 : AV} (h : iter (evC E fuel lp25x0) mask25x0 fuel (st25x0 v2 v3 v4 v5) A = some o) :
    run E fuel (.code (.loop [0, 1, 6, 7, 8, 9, 10, 11, 12, 13, 14, 15] lp25x0) :: k) [d0, d1, v2, v3, v4, v5, d6, d7, d8, d9, d10, d11, d12, d13, d14, d15] A = after E fuel k o := run_loopC mask25x0 _ _ (by rw [cl25x0]; exact h)
set_option maxHeartbeats 4000000 in
theorem comp25 : compFun Try.prog Try.f25 2 [0, 1, 2, 3, 4, 5, 23, 28, 44, 54, 60, 65, 82, 87, 101, 106] [30] true ([[0, 1, 6, 7, 8, 9, 10, 11, 12, 13, 14, 15]], [[0, 1, 6, 7, 8, 9, 10, 11, 12, 13, 14, 15], [0, 1, 3, 5, 6, 7, 8, 9, 10, 11, 12, 13, 14, 15], [0, 1, 3, 5, 6, 7, 8, 9, 10, 11, 12, 13, 14, 15]]) = some mf25 := by kernel_rfl
theorem at25 : Try.prog.funcs[25]? = some Try.f25 := by kernel_rfl
end Go.Proofs.Ytemklhljjaniaaa
/-
  Cluster: a schedule in which something is changed.
-/
namespace Go.Proofs.Ytemklhljjaniaaa
open Go
open Cy (GC CArc arcA arcsOf isPer ValidA okA smM smT lvM lvT VerOk RefOk Ready Pos lar Keeps frz_i frz_b intsA_len M12_eq)

noncomputable def fs25 : List (FuncId × HModel) := [(30, pureH 4 Cy.M12)]
@[simp] theorem fs25_30 : lookM fs25 30 = some (pureH 4 Cy.M12) := rfl
theorem sound25 : ∀ f M, lookM fs25 f = some M → FnSpecY Try.prog GC f M := lookM_cons (FnSpecY.of_pure Cy.spec12 4) lookM_nil
noncomputable def M25 : PModel := fun args => evF (envOf GC fs25) 300 mf25 4 args
theorem spec25 : PureSpecF Try.prog GC 25 M25 := PureSpecF.of_ev (E := envOf GC fs25) (envOf_sound sound25) rfl at25 comp25 4 fun _ _ h => ⟨300, h⟩
def r25 (p : Int) (o st pr : List Int) : AV := .agg [.int .i64 p, .sl 4 0 o.length, .sl 6 0 st.length, .sl 8 0 pr.length]
def A25 (p : Int) (o st pr : List Int) (H z : AV) : Arena := [.row 4 false [r25 p o st pr], .row 3 false [H], .row 4 false [z], .dead, .row 1 false (intsA o), .dead, .row 1 false (intsA st), .dead, .row 1 false (intsA pr)]
def schF (s : Sched) : AV := .agg [.int .i64 s.period, .fs 1 (intsA s.order), .fs 1 (intsA s.starts), .fs 1 (intsA s.proof)]
theorem ints_map_frz (A : Arena) (n : Nat) (l : List Int) : ((intsA l).drop 0).take l.length = intsA l ∧ (intsA l).map (frz A n) = intsA l := by
  constructor
  · rw [List.drop_zero]
    conv => lhs; rw [show l.length = (intsA l).length by simp [intsA]]
    rw [List.take_length]
  · unfold intsA
    rw [List.map_map]
    exact List.map_congr_left fun x _ => frz_i A n .i64 x
theorem fin25 (p : Int) (o st pr : List Int) (H z : AV) : frz (A25 p o st pr H z) 4 (r25 p o st pr) = schF ⟨p, o, st, pr⟩ ∧ freshB (A25 p o st pr H z) 4 (r25 p o st pr) = true := by
  have h4 : (A25 p o st pr H z)[4]? = some (.row 1 false (intsA o)) := rfl
  have h6 : (A25 p o st pr H z)[6]? = some (.row 1 false (intsA st)) := rfl
  have h8 : (A25 p o st pr H z)[8]? = some (.row 1 false (intsA pr)) := rfl
  have g4 := frz_ints h4 2
  have g6 := frz_ints h6 2
  have g8 := frz_ints h8 2
  have k4 := fresh_ints h4 1
  have k6 := fresh_ints h6 1
  have k8 := fresh_ints h8 1
  obtain ⟨A, hA⟩ : ∃ A, A = A25 p o st pr H z := ⟨_, rfl⟩
  rw [← hA] at g4 g6 g8 k4 k6 k8 ⊢
  unfold r25 schF
  constructor
  · rw [show (4 : Nat) = 3 + 1 from rfl]
    simp only [frz, List.map_cons, List.map_nil]
    simp only [frz] at g4 g6 g8
    rw [g4, g6, g8]
  · simp only [freshB, List.all_cons, List.all_nil, Bool.and_true, Bool.true_and]
    simp only [freshB] at k4 k6 k8
    rw [k4, k6, k8]; rfl
/-- what is in a schedule -/
structure SchB (s : Sched) : Prop where
  per : -1000000000000 ≤ s.period ∧ s.period ≤ 1000000000000
  ol : s.order.length ≤ 250
  stl : s.starts.length ≤ 250
  prl : s.proof.length ≤ 250
  oi : ∀ z ∈ s.order, inI z
  sti : ∀ z ∈ s.starts, -1000000000000 ≤ z ∧ z ≤ 1000000000000
  pri : ∀ z ∈ s.proof, inI z
theorem getD_of {l : List Int} {i : Nat} (h : i < l.length) : l.getD i 0 ∈ l := by
  rw [List.getD_eq_getElem?_getD, List.getElem?_eq_getElem h]; exact List.getElem_mem h
section
variable {p : Int} {o st pr : List Int} {H z : AV}
theorem a25_f {j : Nat} (hj : j < 4) : evFieldAddr j (A25 p o st pr H z) (.ptr 0 0 0) = some (.ptr 0 0 j) := by simp [evFieldAddr, A25, hj]
theorem a25_l0 : evLoad false 1 (A25 p o st pr H z) (.ptr 0 0 0) = some (.int .i64 p) := rfl
theorem a25_l1 : evLoad false 1 (A25 p o st pr H z) (.ptr 0 0 1) = some (.sl 4 0 o.length) := rfl
theorem a25_l2 : evLoad false 1 (A25 p o st pr H z) (.ptr 0 0 2) = some (.sl 6 0 st.length) := rfl
theorem a25_l3 : evLoad false 1 (A25 p o st pr H z) (.ptr 0 0 3) = some (.sl 8 0 pr.length) := rfl
theorem a25_all : evLoad true 4 (A25 p o st pr H z) (.ptr 0 0 0) = some (r25 p o st pr) := rfl
theorem a25_s0 (q : Int) : evStore 1 (A25 p o st pr H z) (.ptr 0 0 0) (.int .i64 q) = some (A25 q o st pr H z) := rfl
theorem a25_res : evStore 4 (A25 p o st pr H z) (.ptr 2 0 0) (r25 p o st pr) = some (A25 p o st pr H (r25 p o st pr)) := by simp [evStore, A25, storeElem, r25]
theorem a25_ld : evLoad true 4 (A25 p o st pr H (r25 p o st pr)) (.ptr 2 0 0) = some (r25 p o st pr) := rfl
theorem row_ix {A : Arena} {r n i : Nat} {es : List AV} (hA : A[r]? = some (.row 1 false es)) (h : i < n) : evIndexSl 1 A (.sl r 0 n) (.int .i64 (i : Int)) = some (.ptr r i 0) := by simp [evIndexSl, hA, h]
theorem row_at {A : Arena} {r i : Nat} {l : List Int} (hA : A[r]? = some (.row 1 false (intsA l))) (h : i < l.length) : evLoad false 1 A (.ptr r i 0) = some (.int .i64 (l.getD i 0)) := by
  simp [evLoad, hA, intsA, h]
theorem row_put {A : Arena} {r i : Nat} {l : List Int} (hA : A[r]? = some (.row 1 false (intsA l))) (h : i < l.length) (v : Int) : evStore 1 A (.ptr r i 0) (.int .i64 v) = some (A.set r (.row 1 false (intsA (l.set i v)))) := by
  have e : intsA (l.set i v) = (intsA l).set i (.int .i64 v) := by unfold intsA; rw [List.map_set]
  rw [e]
  simp [evStore, hA, intsA, h, storeElem]
theorem a25_ps {i : Nat} (h : i < st.length) (v : Int) : evStore 1 (A25 p o st pr H z) (.ptr 6 i 0) (.int .i64 v) = some (A25 p o (st.set i v) pr H z) := by
  rw [row_put (l := st) rfl h]
  simp [A25, r25]
theorem a25_pp {i : Nat} (h : i < pr.length) (v : Int) : evStore 1 (A25 p o st pr H z) (.ptr 8 i 0) (.int .i64 v) = some (A25 p o st (pr.set i v) H z) := by
  rw [row_put (l := pr) rfl h]
  simp [A25, r25]
theorem a25_po {i : Nat} (h : i < o.length) (v : Int) : evStore 1 (A25 p o st pr H z) (.ptr 4 i 0) (.int .i64 v) = some (A25 p (o.set i v) st pr H z) := by
  rw [row_put (l := o) rfl h]
  simp [A25, r25]
end
theorem a25_h {p : Int} {o st pr : List Int} {z : AV} {a b c : Int} (j : Nat) (hj : j < 3) : evIndexArr 3 1 (A25 p o st pr (.agg [.int .i64 a, .int .i64 b, .int .i64 c]) z) (.ptr 1 0 0) (.int .i64 (j : Int)) = some (.ptr 1 0 j) := by
  have h1 : (A25 p o st pr (.agg [.int .i64 a, .int .i64 b, .int .i64 c]) z)[1]? = some (.row 3 false [.agg [.int .i64 a, .int .i64 b, .int .i64 c]]) := rfl
  simp [evIndexArr, h1]; omega
/-- starts, the first ones later -/
def later (st : List Int) (d : Int) (i : Nat) : List Int := (List.range st.length).map fun j => if j < i then st.getD j 0 + d else st.getD j 0
theorem later_len (st : List Int) (d : Int) (i : Nat) : (later st d i).length = st.length := by simp [later]
theorem later_zero (st : List Int) (d : Int) : later st d 0 = st := by
  refine List.ext_getElem (later_len _ _ _) fun j h1 h2 => ?_
  simp only [later, List.getElem_map, List.getElem_range, Nat.not_lt_zero, if_false]
  rw [List.getD_eq_getElem?_getD, List.getElem?_eq_getElem h2]; rfl
theorem later_get (st : List Int) (d : Int) {i j : Nat} (h : j < st.length) : (later st d i).getD j 0 = if j < i then st.getD j 0 + d else st.getD j 0 := by
  rw [List.getD_eq_getElem?_getD]
  simp [later, List.getElem?_range h]
theorem later_set (st : List Int) (d : Int) {i : Nat} (_h : i < st.length) : (later st d i).set i (st.getD i 0 + d) = later st d (i + 1) := by
  refine List.ext_getElem (by simp [later_len]) fun j h1 h2 => ?_
  rw [List.getElem_set]
  simp only [later, List.getElem_map, List.getElem_range]
  by_cases e : i = j
  · subst e; rw [if_pos rfl, if_pos (by omega)]
  · rw [if_neg e]
    by_cases h3 : j < i
    · rw [if_pos h3, if_pos (by omega)]
    · rw [if_neg h3, if_neg (by omega)]
end Go.Proofs.Ytemklhljjaniaaa
/-
  Cluster: a schedule in which something is changed, run.
-/
namespace Go.Proofs.Ytemklhljjaniaaa
open Go
open Cy (GC CArc arcA arcsOf isPer ValidA okA smM smT lvM lvT VerOk RefOk Ready Pos lar Keeps frz_i frz_b intsA_len M12_eq)

set_option maxRecDepth 100000 in
set_option maxHeartbeats 4000000 in
theorem round25 {p : Int} {o st0 pr : List Int} {z : AV} {a b c : Int} (hb : inI b) (hl : st0.length ≤ 250) (hs : ∀ x ∈ st0, -1000000000000 ≤ x ∧ x ≤ 1000000000000) {i : Nat} (hi : i < st0.length) (v4 : AV) :
    run (envOf GC fs25) 300 [.code lp25x0] (st25x0 (.ptr 0 0 0) (.ptr 1 0 0) v4 (.int .i64 (i : Int))) (A25 p o (later st0 (pick b 50) i) pr (.agg [.int .i64 a, .int .i64 b, .int .i64 c]) z) =
      some (.normal (st25x0 (.ptr 0 0 0) (.ptr 1 0 0) v4 (.int .i64 ((i + 1 : Nat) : Int))) (A25 p o (later st0 (pick b 50) (i + 1)) pr (.agg [.int .i64 a, .int .i64 b, .int .i64 c]) z)) := by
  have hpk := pick_range b 50 (by omega)
  have hll := later_len st0 (pick b 50) i
  have f2 := a25_f (p := p) (o := o) (st := later st0 (pick b 50) i) (pr := pr) (H := .agg [.int .i64 a, .int .i64 b, .int .i64 c]) (z := z) (j := 2) (by omega)
  have l2 := a25_l2 (p := p) (o := o) (st := later st0 (pick b 50) i) (pr := pr) (H := .agg [.int .i64 a, .int .i64 b, .int .i64 c]) (z := z)
  rw [hll] at l2
  have ix : evIndexSl 1 (A25 p o (later st0 (pick b 50) i) pr (.agg [.int .i64 a, .int .i64 b, .int .i64 c]) z) (.sl 6 0 st0.length) (.int .i64 (i : Int)) = some (.ptr 6 i 0) := row_ix rfl hi
  have la : evLoad false 1 (A25 p o (later st0 (pick b 50) i) pr (.agg [.int .i64 a, .int .i64 b, .int .i64 c]) z) (.ptr 6 i 0) = some (.int .i64 (st0.getD i 0)) := by
    rw [row_at (l := later st0 (pick b 50) i) rfl (by omega), later_get _ _ hi, if_neg (by omega)]
  have ih : evIndexArr 3 1 (A25 p o (later st0 (pick b 50) i) pr (.agg [.int .i64 a, .int .i64 b, .int .i64 c]) z) (.ptr 1 0 0) (.int .i64 1) = some (.ptr 1 0 1) := a25_h 1 (by omega)
  have lh : evLoad false 1 (A25 p o (later st0 (pick b 50) i) pr (.agg [.int .i64 a, .int .i64 b, .int .i64 c]) z) (.ptr 1 0 1) = some (.int .i64 b) := rfl
  have m := M12_eq hb (n := 50) (by omega)
  have hsi := hs _ (getD_of hi)
  have b1 : evBin .add (.int .i64 (st0.getD i 0)) (.int .i64 (pick b 50)) = some (.int .i64 (st0.getD i 0 + pick b 50)) := evAddI (by omega)
  have ps := a25_ps (p := p) (o := o) (st := later st0 (pick b 50) i) (pr := pr) (H := .agg [.int .i64 a, .int .i64 b, .int .i64 c]) (z := z) (i := i) (by omega) (st0.getD i 0 + pick b 50)
  rw [later_set _ _ hi] at ps
  have b0 := lt_nat i st0.length .i64
  rw [decide_eq_true hi] at b0
  have b2 := add1_nat i (by omega)
  obtain ⟨A, hA⟩ : ∃ A, A = A25 p o (later st0 (pick b 50) i) pr (.agg [.int .i64 a, .int .i64 b, .int .i64 c]) z := ⟨_, rfl⟩
  obtain ⟨B, hB⟩ : ∃ B, B = A25 p o (later st0 (pick b 50) (i + 1)) pr (.agg [.int .i64 a, .int .i64 b, .int .i64 c]) z := ⟨_, rfl⟩
  rw [← hA] at f2 l2 ix la ih lh ps ⊢
  rw [← hB] at ps ⊢
  obtain ⟨q, hq⟩ : ∃ q, q = pick b 50 := ⟨_, rfl⟩
  rw [← hq] at m b1 ps
  obtain ⟨u, hu⟩ : ∃ q, q = st0.getD i 0 := ⟨_, rfl⟩
  rw [← hu] at la b1 ps
  obtain ⟨w, hw⟩ : ∃ x, x = u + q := ⟨_, rfl⟩
  rw [← hw] at b1 ps
  obtain ⟨i1, hi1⟩ : ∃ n, n = i + 1 := ⟨_, rfl⟩
  rw [← hi1] at b2 ⊢
  obtain ⟨n, hn⟩ : ∃ n, n = st0.length := ⟨_, rfl⟩
  rw [← hn] at l2 ix b0
  simp [lp25x0, f2, l2, ix, la, ih, lh, m, b0, b1, b2, ps, frz_i, -evBin, -evLoad, -evStore, -evFieldAddr, -evIndexSl, -frz]
theorem loop25 {p : Int} {o st0 pr : List Int} {z : AV} {a b c : Int} (hb : inI b) (hl : st0.length ≤ 250) (hs : ∀ x ∈ st0, -1000000000000 ≤ x ∧ x ≤ 1000000000000) (v4 : AV) :
    iter (evC (envOf GC fs25) 300 lp25x0) mask25x0 300 (st25x0 (.ptr 0 0 0) (.ptr 1 0 0) v4 (.int .i64 0)) (A25 p o st0 pr (.agg [.int .i64 a, .int .i64 b, .int .i64 c]) z) =
      some (.exit 1 ((st25x0 (.ptr 0 0 0) (.ptr 1 0 0) v4 (.int .i64 (st0.length : Int))).set 7 (.bool false)) (A25 p o (later st0 (pick b 50) st0.length) pr (.agg [.int .i64 a, .int .i64 b, .int .i64 c]) z)) := by
  have e := lt_nat st0.length st0.length .i64
  rw [decide_eq_false (by omega)] at e
  have f2 := a25_f (p := p) (o := o) (st := later st0 (pick b 50) st0.length) (pr := pr) (H := .agg [.int .i64 a, .int .i64 b, .int .i64 c]) (z := z) (j := 2) (by omega)
  have l2 := a25_l2 (p := p) (o := o) (st := later st0 (pick b 50) st0.length) (pr := pr) (H := .agg [.int .i64 a, .int .i64 b, .int .i64 c]) (z := z)
  rw [later_len] at l2
  have h := iter_up (E := envOf GC fs25) (fuel := 300) (a := lp25x0) (mask := mask25x0) (fun i => st25x0 (.ptr 0 0 0) (.ptr 1 0 0) v4 (.int .i64 (i : Int))) (fun i => A25 p o (later st0 (pick b 50) i) pr (.agg [.int .i64 a, .int .i64 b, .int .i64 c]) z) st0.length (o := .exit 1 ((st25x0 (.ptr 0 0 0) (.ptr 1 0 0) v4 (.int .i64 (st0.length : Int))).set 7 (.bool false)) (A25 p o (later st0 (pick b 50) st0.length) pr (.agg [.int .i64 a, .int .i64 b, .int .i64 c]) z))
    (fun _ => cl25x0) (fun _ _ h => by cases h) (fun i hi => round25 hb hl hs hi v4) (by simp [lp25x0, f2, l2, e, -evBin, -evLoad, -evFieldAddr]) (m := 300) (by omega)
  rw [later_zero] at h
  exact h
theorem app25 {A : Arena} {r : Nat} {v : AV} {l : List Int} (hA : A[r]? = some (.row 1 false [])) (hv : SlA 1 (intsA l) v) (hl : l.length ≤ 1000) : evAppend 1 8 A (.sl r 0 0) v = some (.sl A.length 0 l.length, A.set r .dead ++ [.row 1 false (intsA l)]) := by
  have e : (intsA l).length = l.length := intsA_len l
  have hb : l.length * 8 ≤ 140737488355328 := by omega
  simp [evAppend, hv.src, hA, e, hb]
/-- the copy -/
theorem prefix25 {p : Int} {o st pr : List Int} {ov sv pv : AV} (ho : SlA 1 (intsA o) ov) (hs : SlA 1 (intsA st) sv) (hp : SlA 1 (intsA pr) pv) (hol : o.length ≤ 1000) (hsl : st.length ≤ 1000) (hpl : pr.length ≤ 1000) (H z : AV) :
    (∀ r, evBuildSlice 1 [] [.row 4 false [r], .row 3 false [H], .row 4 false [z]] = some (.sl 3 0 0, [.row 4 false [r], .row 3 false [H], .row 4 false [z], .row 1 false []])) ∧
    (∀ r, evAppend 1 8 [.row 4 false [r], .row 3 false [H], .row 4 false [z], .row 1 false []] (.sl 3 0 0) ov = some (.sl 4 0 o.length, [.row 4 false [r], .row 3 false [H], .row 4 false [z], .dead, .row 1 false (intsA o)])) ∧
    (∀ r, evBuildSlice 1 [] [.row 4 false [r], .row 3 false [H], .row 4 false [z], .dead, .row 1 false (intsA o)] = some (.sl 5 0 0, [.row 4 false [r], .row 3 false [H], .row 4 false [z], .dead, .row 1 false (intsA o), .row 1 false []])) ∧
    (∀ r, evAppend 1 8 [.row 4 false [r], .row 3 false [H], .row 4 false [z], .dead, .row 1 false (intsA o), .row 1 false []] (.sl 5 0 0) sv = some (.sl 6 0 st.length, [.row 4 false [r], .row 3 false [H], .row 4 false [z], .dead, .row 1 false (intsA o), .dead, .row 1 false (intsA st)])) ∧
    (∀ r, evBuildSlice 1 [] [.row 4 false [r], .row 3 false [H], .row 4 false [z], .dead, .row 1 false (intsA o), .dead, .row 1 false (intsA st)] = some (.sl 7 0 0, [.row 4 false [r], .row 3 false [H], .row 4 false [z], .dead, .row 1 false (intsA o), .dead, .row 1 false (intsA st), .row 1 false []])) ∧
    (∀ r, evAppend 1 8 [.row 4 false [r], .row 3 false [H], .row 4 false [z], .dead, .row 1 false (intsA o), .dead, .row 1 false (intsA st), .row 1 false []] (.sl 7 0 0) pv = some (.sl 8 0 pr.length, [.row 4 false [r], .row 3 false [H], .row 4 false [z], .dead, .row 1 false (intsA o), .dead, .row 1 false (intsA st), .dead, .row 1 false (intsA pr)])) :=
  ⟨fun _ => rfl, fun _ => app25 rfl ho hol, fun _ => rfl, fun _ => app25 rfl hs hsl, fun _ => rfl, fun _ => app25 rfl hp hpl⟩

theorem pick_of {b : Int} {n : Nat} (hn : 0 < n) : ∃ m : Nat, pick b n = (m : Int) ∧ m < n := pick_nat b n hn
set_option maxRecDepth 100000 in
set_option maxHeartbeats 16000000 in
theorem M25_eq {s : Sched} {ov sv pv : AV} (ho : SlA 1 (intsA s.order) ov) (hst : SlA 1 (intsA s.starts) sv) (hpr : SlA 1 (intsA s.proof) pv) (hB : SchB s) {a b c : Int} (ha : inI a) (hb : inI b) (hc : inI c) :
    ∃ t, M25 [.agg [.int .i64 s.period, ov, sv, pv], .agg [.int .i64 a, .int .i64 b, .int .i64 c]] = some (schF t) ∧ t.order.length = s.order.length ∧ t.starts.length = s.starts.length ∧ t.proof.length = s.proof.length ∧ (-2000000000000 ≤ t.period ∧ t.period ≤ 2000000000000) ∧ (∀ z ∈ t.order, inI z) ∧ (∀ z ∈ t.starts, inI z) ∧ ∀ z ∈ t.proof, inI z := by
  obtain ⟨p, o, st, pr⟩ := s
  obtain ⟨hper, hol, hsl, hpl, hoi, hsi, hpi⟩ := hB
  simp only at ho hst hpr hper hol hsl hpl hoi hsi hpi ⊢
  have hsI : ∀ z ∈ st, inI z := fun z hz => by have := hsi z hz; unfold inI; omega
  obtain ⟨H, hH⟩ : ∃ H, H = AV.agg [.int .i64 a, .int .i64 b, .int .i64 c] := ⟨_, rfl⟩
  obtain ⟨z, hz⟩ : ∃ z, z = AV.agg [.int .i64 0, .nilS, .nilS, .nilS] := ⟨_, rfl⟩
  obtain ⟨n1, n2, n3, n4, n5, n6⟩ := prefix25 (p := p) ho hst hpr (by omega) (by omega) (by omega) H z
  have bx0 : evBox 4 (.agg [.int .i64 p, ov, sv, pv]) [] = some (.ptr 0 0 0, [.row 4 false [.agg [.int .i64 p, ov, sv, pv]]]) := rfl
  have c0 : (cellsOf (.agg [.int .i64 p, ov, sv, pv])).length = 4 := rfl
  have bx1 : ∀ r, evBox 3 H [r] = some (.ptr 1 0 0, [r, .row 3 false [H]]) := fun r => by rw [hH]; rfl
  have cH : (cellsOf H).length = 3 := by rw [hH]; rfl
  have bx2 : ∀ r q, evBox 4 (.agg [.int .i64 0, .nilS, .nilS, .nilS]) [r, q] = some (.ptr 2 0 0, [r, q, .row 4 false [z]]) := fun r q => by rw [hz]; rfl
  have fA : ∀ es X j, j < 4 → evFieldAddr j (.row 4 false [.agg es] :: X) (.ptr 0 0 0) = some (.ptr 0 0 j) := fun es X j hj => by simp [evFieldAddr, hj]
  have ldA : ∀ w x y u X, evLoad false 1 (.row 4 false [.agg [w, x, y, u]] :: X) (.ptr 0 0 1) = some x ∧ evLoad false 1 (.row 4 false [.agg [w, x, y, u]] :: X) (.ptr 0 0 2) = some y ∧ evLoad false 1 (.row 4 false [.agg [w, x, y, u]] :: X) (.ptr 0 0 3) = some u := fun w x y u X => ⟨rfl, rfl, rfl⟩
  have ld1 := fun w x y u X => (ldA w x y u X).1
  have ld2 := fun w x y u X => (ldA w x y u X).2.1
  have ld3 := fun w x y u X => (ldA w x y u X).2.2
  have s1 : ∀ X, evStore 1 (.row 4 false [.agg [.int .i64 p, ov, sv, pv]] :: X) (.ptr 0 0 1) (.sl 4 0 o.length) = some (.row 4 false [.agg [.int .i64 p, .sl 4 0 o.length, sv, pv]] :: X) := fun X => by simp [evStore, storeElem]
  have s2 : ∀ X, evStore 1 (.row 4 false [.agg [.int .i64 p, .sl 4 0 o.length, sv, pv]] :: X) (.ptr 0 0 2) (.sl 6 0 st.length) = some (.row 4 false [.agg [.int .i64 p, .sl 4 0 o.length, .sl 6 0 st.length, pv]] :: X) := fun X => by simp [evStore, storeElem]
  have s3 : evStore 1 [.row 4 false [.agg [.int .i64 p, .sl 4 0 o.length, .sl 6 0 st.length, pv]], .row 3 false [H], .row 4 false [z], .dead, .row 1 false (intsA o), .dead, .row 1 false (intsA st), .dead, .row 1 false (intsA pr)] (.ptr 0 0 3) (.sl 8 0 pr.length) = some (A25 p o st pr H z) := by simp [evStore, storeElem, A25, r25]
  -- what is behind
  have f25 := fun p o st pr j (hj : j < 4) => a25_f (p := p) (o := o) (st := st) (pr := pr) (H := H) (z := z) hj
  have e0 := fun p o st pr => a25_l0 (p := p) (o := o) (st := st) (pr := pr) (H := H) (z := z)
  have e1 := fun p o st pr => a25_l1 (p := p) (o := o) (st := st) (pr := pr) (H := H) (z := z)
  have e2 := fun p o st pr => a25_l2 (p := p) (o := o) (st := st) (pr := pr) (H := H) (z := z)
  have e3 := fun p o st pr => a25_l3 (p := p) (o := o) (st := st) (pr := pr) (H := H) (z := z)
  have eA := fun p o st pr => a25_all (p := p) (o := o) (st := st) (pr := pr) (H := H) (z := z)
  have sR := fun p o st pr => a25_res (p := p) (o := o) (st := st) (pr := pr) (H := H) (z := z)
  have lR := fun p o st pr => a25_ld (p := p) (o := o) (st := st) (pr := pr) (H := H)
  have fin := fun p o st pr => (fin25 p o st pr H (r25 p o st pr)).1
  have fre := fun p o st pr => (fin25 p o st pr H (r25 p o st pr)).2
  have ih0 : evIndexArr 3 1 (A25 p o st pr H z) (.ptr 1 0 0) (.int .i64 0) = some (.ptr 1 0 0) := by rw [hH]; exact a25_h 0 (by omega)
  have ih1 : evIndexArr 3 1 (A25 p o st pr H z) (.ptr 1 0 0) (.int .i64 1) = some (.ptr 1 0 1) := by rw [hH]; exact a25_h 1 (by omega)
  have ih2 : evIndexArr 3 1 (A25 p o st pr H z) (.ptr 1 0 0) (.int .i64 2) = some (.ptr 1 0 2) := by rw [hH]; exact a25_h 2 (by omega)
  have lh0 : evLoad false 1 (A25 p o st pr H z) (.ptr 1 0 0) = some (.int .i64 a) := by rw [hH]; rfl
  have lh1 : evLoad false 1 (A25 p o st pr H z) (.ptr 1 0 1) = some (.int .i64 b) := by rw [hH]; rfl
  have lh2 : evLoad false 1 (A25 p o st pr H z) (.ptr 1 0 2) = some (.int .i64 c) := by rw [hH]; rfl
  have m6 := M12_eq ha (n := 6) (by omega)
  obtain ⟨v, hv, hv6⟩ := pick_of (b := a) (n := 6) (by omega)
  have hv : pick a 6 = (v : Int) := hv
  rw [hv] at m6
  have lp := loop25 (p := p) (o := o) (pr := pr) (z := z) (a := a) (c := c) hb hsl hsi (.ptr 2 0 0)
  rw [← hH] at lp ⊢






  have g2 := evGtrI (st.length : Int) 0
  have g3 := evGtrI (pr.length : Int) 0
  have g1 := evGtrI (o.length : Int) 2
  obtain ⟨A, hA⟩ : ∃ A, A = A25 p o st pr H z := ⟨_, rfl⟩
  have bp1 : evBin .add (.int .i64 p) (.int .i64 1) = some (.int .i64 (p + 1)) := evAddI (by omega)
  unfold M25
  have hcases : v = 0 ∨ v = 1 ∨ v = 2 ∨ v = 3 ∨ v = 4 ∨ v = 5 := by omega
  rcases hcases with rfl | rfl | rfl | rfl | rfl | rfl
  · have m3 := M12_eq hb (n := 3) (by omega)
    have hp3 := pick_range b 3 (by omega)
    have bp2 : evBin .add (.int .i64 (p + 1)) (.int .i64 (pick b 3)) = some (.int .i64 (p + 1 + pick b 3)) := evAddI (by omega)
    have sp := a25_s0 (p := p) (o := o) (st := st) (pr := pr) (H := H) (z := z) (p + 1 + pick b 3)
    refine ⟨⟨p + 1 + pick b 3, o, st, pr⟩, ?_, rfl, rfl, rfl, by simp only; omega, hoi, hsI, hpi⟩
    rw [evF_run _ _ rfl]
    obtain ⟨w1, hw1⟩ : ∃ w, w = p + 1 := ⟨_, rfl⟩
    rw [← hw1] at bp1 bp2 sp ⊢
    obtain ⟨w2, hw2⟩ : ∃ w, w = pick b 3 := ⟨_, rfl⟩
    rw [← hw2] at m3 bp2 sp ⊢
    obtain ⟨w3, hw3⟩ : ∃ w, w = w1 + w2 := ⟨_, rfl⟩
    rw [← hw3] at bp2 sp ⊢
    simp [mf25, bx0, c0, bx1, cH, bx2, n1, n2, n3, n4, n5, n6, fA, ld1, ld2, ld3, s1, s2, s3, ih0, lh0, m6, frz_i, evEqlI, f25, eA, sR, lR, fin, fre, e0, bp1, ih1, lh1, m3, bp2, sp, -evBin, -evLoad, -evStore, -evFieldAddr, -evIndexSl, -evBox, -evBuildSlice, -frz, -cellsOf]
  · have bp2 : evBin .sub (.int .i64 p) (.int .i64 1) = some (.int .i64 (p - 1)) := evSubI (by omega)
    have sp := a25_s0 (p := p) (o := o) (st := st) (pr := pr) (H := H) (z := z) (p - 1)
    refine ⟨⟨p - 1, o, st, pr⟩, ?_, rfl, rfl, rfl, by simp only; omega, hoi, hsI, hpi⟩
    rw [evF_run _ _ rfl]
    obtain ⟨w1, hw1⟩ : ∃ w, w = p - 1 := ⟨_, rfl⟩
    rw [← hw1] at bp2 sp ⊢
    simp [mf25, bx0, c0, bx1, cH, bx2, n1, n2, n3, n4, n5, n6, fA, ld1, ld2, ld3, s1, s2, s3, ih0, lh0, m6, frz_i, evEqlI, f25, eA, sR, lR, fin, fre, e0, bp2, sp, -evBin, -evLoad, -evStore, -evFieldAddr, -evIndexSl, -evBox, -evBuildSlice, -frz, -cellsOf]
  · by_cases hl : 0 < st.length
    · rw [decide_eq_true (by omega)] at g2
      have m3 := M12_eq hb (n := (st.length : Int)) (by omega)
      obtain ⟨j, hj, hjl⟩ := pick_of (b := b) hl
      rw [hj] at m3
      have ix : evIndexSl 1 (A25 p o st pr H z) (.sl 6 0 st.length) (.int .i64 (j : Int)) = some (.ptr 6 j 0) := row_ix rfl hjl
      have la : evLoad false 1 (A25 p o st pr H z) (.ptr 6 j 0) = some (.int .i64 (st.getD j 0)) := row_at rfl hjl
      have m9 := M12_eq hc (n := 9) (by omega)
      have hp9 := pick_range c 9 (by omega)
      have hsj := hsi _ (getD_of hjl)
      have bp2 : evBin .sub (.int .i64 (pick c 9)) (.int .i64 4) = some (.int .i64 (pick c 9 - 4)) := evSubI (by omega)
      have bp3 : evBin .add (.int .i64 (st.getD j 0)) (.int .i64 (pick c 9 - 4)) = some (.int .i64 (st.getD j 0 + (pick c 9 - 4))) := evAddI (by omega)
      have sp := a25_ps (p := p) (o := o) (st := st) (pr := pr) (H := H) (z := z) hjl (st.getD j 0 + (pick c 9 - 4))
      refine ⟨⟨p, o, st.set j (st.getD j 0 + (pick c 9 - 4)), pr⟩, ?_, rfl, by simp, rfl, by simp only; omega, hoi, fun z hz => ?_, hpi⟩
      · rw [evF_run _ _ rfl]
        obtain ⟨w2, hw2⟩ : ∃ w, w = pick c 9 := ⟨_, rfl⟩
        rw [← hw2] at m9 bp2 bp3 sp ⊢
        obtain ⟨w3, hw3⟩ : ∃ w, w = w2 - 4 := ⟨_, rfl⟩
        rw [← hw3] at bp2 bp3 sp ⊢
        obtain ⟨u, hu⟩ : ∃ w, w = st.getD j 0 := ⟨_, rfl⟩
        rw [← hu] at la bp3 sp ⊢
        obtain ⟨w4, hw4⟩ : ∃ w, w = u + w3 := ⟨_, rfl⟩
        rw [← hw4] at bp3 sp ⊢
        simp [mf25, bx0, c0, bx1, cH, bx2, n1, n2, n3, n4, n5, n6, fA, ld1, ld2, ld3, s1, s2, s3, ih0, lh0, m6, frz_i, evEqlI, f25, eA, sR, lR, fin, fre, e2, g2, ih1, lh1, ih2, lh2, m3, ix, la, m9, bp2, bp3, sp, -evBin, -evLoad, -evStore, -evFieldAddr, -evIndexSl, -evBox, -evBuildSlice, -frz, -cellsOf]
      · rcases List.mem_or_eq_of_mem_set hz with hz | rfl
        · exact hsI z hz
        · unfold inI; omega
    · rw [decide_eq_false (by omega)] at g2
      refine ⟨⟨p, o, st, pr⟩, ?_, rfl, rfl, rfl, by simp only; omega, hoi, hsI, hpi⟩
      rw [evF_run _ _ rfl]
      simp [mf25, bx0, c0, bx1, cH, bx2, n1, n2, n3, n4, n5, n6, fA, ld1, ld2, ld3, s1, s2, s3, ih0, lh0, m6, frz_i, evEqlI, f25, eA, sR, lR, fin, fre, e2, g2, -evBin, -evLoad, -evStore, -evFieldAddr, -evIndexSl, -evBox, -evBuildSlice, -frz, -cellsOf]
  · by_cases hl : 0 < pr.length
    · rw [decide_eq_true (by omega)] at g3
      have m3 := M12_eq hb (n := (pr.length : Int)) (by omega)
      obtain ⟨j, hj, hjl⟩ := pick_of (b := b) hl
      rw [hj] at m3
      have ix : evIndexSl 1 (A25 p o st pr H z) (.sl 8 0 pr.length) (.int .i64 (j : Int)) = some (.ptr 8 j 0) := row_ix rfl hjl
      have m9 := M12_eq hc (n := 13) (by omega)
      have hp9 := pick_range c 13 (by omega)
      have bp2 : evBin .sub (.int .i64 (pick c 13)) (.int .i64 1) = some (.int .i64 (pick c 13 - 1)) := evSubI (by omega)
      have sp := a25_pp (p := p) (o := o) (st := st) (pr := pr) (H := H) (z := z) hjl (pick c 13 - 1)
      refine ⟨⟨p, o, st, pr.set j (pick c 13 - 1)⟩, ?_, rfl, rfl, by simp, by simp only; omega, hoi, hsI, fun z hz => ?_⟩
      · rw [evF_run _ _ rfl]
        obtain ⟨w2, hw2⟩ : ∃ w, w = pick c 13 := ⟨_, rfl⟩
        rw [← hw2] at m9 bp2 sp ⊢
        obtain ⟨w3, hw3⟩ : ∃ w, w = w2 - 1 := ⟨_, rfl⟩
        rw [← hw3] at bp2 sp ⊢
        simp [mf25, bx0, c0, bx1, cH, bx2, n1, n2, n3, n4, n5, n6, fA, ld1, ld2, ld3, s1, s2, s3, ih0, lh0, m6, frz_i, evEqlI, f25, eA, sR, lR, fin, fre, e3, g3, ih1, lh1, ih2, lh2, m3, ix, m9, bp2, sp, -evBin, -evLoad, -evStore, -evFieldAddr, -evIndexSl, -evBox, -evBuildSlice, -frz, -cellsOf]
      · rcases List.mem_or_eq_of_mem_set hz with hz | rfl
        · exact hpi z hz
        · unfold inI; omega
    · rw [decide_eq_false (by omega)] at g3
      refine ⟨⟨p, o, st, pr⟩, ?_, rfl, rfl, rfl, by simp only; omega, hoi, hsI, hpi⟩
      rw [evF_run _ _ rfl]
      simp [mf25, bx0, c0, bx1, cH, bx2, n1, n2, n3, n4, n5, n6, fA, ld1, ld2, ld3, s1, s2, s3, ih0, lh0, m6, frz_i, evEqlI, f25, eA, sR, lR, fin, fre, e3, g3, -evBin, -evLoad, -evStore, -evFieldAddr, -evIndexSl, -evBox, -evBuildSlice, -frz, -cellsOf]
  · by_cases hl : 2 < o.length
    · rw [decide_eq_true (by omega)] at g1
      have bl : evBin .sub (.int .i64 (o.length : Int)) (.int .i64 1) = some (.int .i64 ((o.length - 1 : Nat) : Int)) := by
        rw [evSubI (by omega)]; congr 2; omega
      have ix1 : evIndexSl 1 (A25 p o st pr H z) (.sl 4 0 o.length) (.int .i64 1) = some (.ptr 4 1 0) := row_ix (i := 1) rfl (by omega)
      have ix2 : evIndexSl 1 (A25 p o st pr H z) (.sl 4 0 o.length) (.int .i64 ((o.length - 1 : Nat) : Int)) = some (.ptr 4 (o.length - 1) 0) := row_ix rfl (by omega)
      have la1 : evLoad false 1 (A25 p o st pr H z) (.ptr 4 1 0) = some (.int .i64 (o.getD 1 0)) := row_at rfl (by omega)
      have la2 : evLoad false 1 (A25 p o st pr H z) (.ptr 4 (o.length - 1) 0) = some (.int .i64 (o.getD (o.length - 1) 0)) := row_at rfl (by omega)
      have sp1 := a25_po (p := p) (o := o) (st := st) (pr := pr) (H := H) (z := z) (i := 1) (by omega) (o.getD (o.length - 1) 0)
      have ix3 : evIndexSl 1 (A25 p (o.set 1 (o.getD (o.length - 1) 0)) st pr H z) (.sl 4 0 o.length) (.int .i64 ((o.length - 1 : Nat) : Int)) = some (.ptr 4 (o.length - 1) 0) := row_ix rfl (by omega)
      have sp2 := a25_po (p := p) (o := o.set 1 (o.getD (o.length - 1) 0)) (st := st) (pr := pr) (H := H) (z := z) (i := o.length - 1) (by simp; omega) (o.getD 1 0)
      refine ⟨⟨p, (o.set 1 (o.getD (o.length - 1) 0)).set (o.length - 1) (o.getD 1 0), st, pr⟩, ?_, by simp, rfl, rfl, by simp only; omega, fun z hz => ?_, hsI, hpi⟩
      · rw [evF_run _ _ rfl]
        obtain ⟨x1, hx1⟩ : ∃ w, w = o.getD 1 0 := ⟨_, rfl⟩
        obtain ⟨x2, hx2⟩ : ∃ w, w = o.getD (o.length - 1) 0 := ⟨_, rfl⟩
        rw [← hx1] at la1 sp2 ⊢
        rw [← hx2] at la2 sp1 ix3 sp2 ⊢
        obtain ⟨k, hk⟩ : ∃ w, w = o.length - 1 := ⟨_, rfl⟩
        rw [← hk] at bl ix2 la2 ix3 sp2 ⊢
        obtain ⟨o2, ho2⟩ : ∃ w, w = o.set 1 x2 := ⟨_, rfl⟩
        rw [← ho2] at sp1 ix3 sp2 ⊢
        obtain ⟨o3, ho3⟩ : ∃ w, w = o2.set k x1 := ⟨_, rfl⟩
        rw [← ho3] at sp2 ⊢
        simp [mf25, bx0, c0, bx1, cH, bx2, n1, n2, n3, n4, n5, n6, fA, ld1, ld2, ld3, s1, s2, s3, ih0, lh0, m6, frz_i, evEqlI, f25, eA, sR, lR, fin, fre, e1, g1, bl, ix1, ix2, ix3, la1, la2, sp1, sp2, -evBin, -evLoad, -evStore, -evFieldAddr, -evIndexSl, -evBox, -evBuildSlice, -frz, -cellsOf]
      · rcases List.mem_or_eq_of_mem_set hz with hz | rfl
        · rcases List.mem_or_eq_of_mem_set hz with hz | rfl
          · exact hoi z hz
          · exact hoi _ (getD_of (by omega))
        · exact hoi _ (getD_of (by omega))
    · rw [decide_eq_false (by omega)] at g1
      refine ⟨⟨p, o, st, pr⟩, ?_, rfl, rfl, rfl, by simp only; omega, hoi, hsI, hpi⟩
      rw [evF_run _ _ rfl]
      simp [mf25, bx0, c0, bx1, cH, bx2, n1, n2, n3, n4, n5, n6, fA, ld1, ld2, ld3, s1, s2, s3, ih0, lh0, m6, frz_i, evEqlI, f25, eA, sR, lR, fin, fre, e1, g1, -evBin, -evLoad, -evStore, -evFieldAddr, -evIndexSl, -evBox, -evBuildSlice, -frz, -cellsOf]
  · refine ⟨⟨p, o, later st (pick b 50) st.length, pr⟩, ?_, rfl, later_len _ _ _, rfl, by simp only; omega, hoi, fun z hz => ?_, hpi⟩
    · rw [evF_run _ _ rfl]
      simp [mf25, bx0, c0, bx1, cH, bx2, n1, n2, n3, n4, n5, n6, fA, ld1, ld2, ld3, s1, s2, s3, ih0, lh0, m6, frz_i, evEqlI, eA, sR, lR, fin, fre, go25x0 lp, -evBin, -evLoad, -evStore, -evFieldAddr, -evIndexSl, -evBox, -evBuildSlice, -frz, -cellsOf]
    · obtain ⟨j, hj, rfl⟩ := List.mem_iff_getElem.1 hz
      rw [later_len] at hj
      have e := later_get st (pick b 50) (i := st.length) hj
      rw [if_pos hj, List.getD_eq_getElem?_getD, List.getElem?_eq_getElem (by rw [later_len]; exact hj)] at e
      have e : (later st (pick b 50) st.length)[j]'(by rw [later_len]; exact hj) = st.getD j 0 + pick b 50 := e
      rw [e]
      have h1 := hsi _ (getD_of hj)
      have h2 := pick_range b 50 (by omega)
      unfold inI; omega
end Go.Proofs.Ytemklhljjaniaaa
/-
  The functions, compiled; written by wip/gen.
-/
namespace Go.Proofs.Ytemklhljjaniaaa
open Go
def lp7x0 : MC := .seq (.seq (.region [⟨none, .mv (.var 24), none⟩, ⟨none, .fieldAddr 1 (.var 20), none⟩, ⟨none, .load false 1 (.tmp 1), none⟩, ⟨none, .lenSl (.tmp 2), none⟩, ⟨none, .bin .lss (.tmp 0) (.tmp 3), none⟩, ⟨none, .mv (.tmp 4), none⟩, ⟨none, .mv (.var 24), some (.tmp 5, true)⟩, ⟨none, .bin .lss (.tmp 6) (.cst (.int .i64 5)), some (.tmp 5, true)⟩, ⟨some 32, .pick (.tmp 5) (.tmp 7) (.cst (.bool false)), none⟩]) (.cond (.var 32) .skip (.exit 0))) (.seq (.seq (.block 1 (.region [⟨none, .mv (.var 23), none⟩, ⟨none, .mv (.var 24), none⟩, ⟨none, .indexArr 5 1 (.var 8) (.tmp 1), none⟩, ⟨none, .load false 1 (.tmp 2), none⟩, ⟨none, .call (.fn 30) [.tmp 3, .cst (.int .i64 200)], none⟩, ⟨none, .buildF 1 [.tmp 4], none⟩, ⟨none, .append 1 8 (.tmp 0) (.tmp 5), none⟩, ⟨some 23, .mv (.tmp 6), none⟩])) (.kill [0, 1, 2, 3, 4, 5, 6, 7, 9, 11, 12, 13, 14, 16, 17, 18, 19, 22, 25, 26, 27, 28, 29, 30, 31, 32])) (.region [⟨none, .mv (.var 24), none⟩, ⟨none, .bin .add (.tmp 0) (.cst (.int .i64 1)), none⟩, ⟨some 24, .mv (.tmp 1), none⟩]))
def mf7 : MFun := ⟨6, 33, .seq (.region [⟨some 6, .box (.var 0), none⟩, ⟨some 7, .box (.var 3), none⟩, ⟨some 8, .box (.var 5), none⟩, ⟨some 9, .mv (.cst (.bool false)), none⟩]) (.seq (.region [⟨none, .call (.fn 11) [], none⟩, ⟨some 10, .mv (.tmp 0), none⟩]) (.seq (.region [⟨none, .load true 5 (.var 6), none⟩, ⟨none, .mv (.var 1), none⟩, ⟨none, .call (.fn 13) [.tmp 0, .tmp 1], none⟩, ⟨some 11, .alloc 5 (.agg [.nilS, .int .i64 0, .int .i64 0, .int .i64 0, .int .i64 0]), none⟩, ⟨none, .store 5 (.var 11) (.tmp 2), none⟩]) (.seq (.region [⟨none, .load true 5 (.var 11), none⟩, ⟨none, .call (.fn 14) [.tmp 0], none⟩, ⟨some 12, .mv (.tmp 1), none⟩]) (.seq (.seq (.region [⟨none, .mv (.var 12), none⟩, ⟨none, .lenSl (.tmp 0), none⟩, ⟨some 25, .bin .eql (.tmp 1) (.cst (.int .i64 0)), none⟩]) (.cond (.var 25) (.seq (.region [⟨some 9, .mv (.cst (.bool false)), none⟩]) .ret) .skip)) (.seq (.region [⟨none, .mv (.var 12), none⟩, ⟨none, .mv (.var 2), none⟩, ⟨none, .mv (.var 12), none⟩, ⟨none, .lenSl (.tmp 2), none⟩, ⟨none, .call (.fn 30) [.tmp 1, .tmp 3], none⟩, ⟨none, .indexSl 1 (.tmp 0) (.tmp 4), none⟩, ⟨none, .load false 1 (.tmp 5), none⟩, ⟨some 13, .mv (.tmp 6), none⟩]) (.seq (.region [⟨none, .mv (.var 13), none⟩, ⟨none, .lenSl (.tmp 0), none⟩, ⟨some 14, .mv (.tmp 1), none⟩]) (.seq (.region [⟨none, .load true 5 (.var 11), none⟩, ⟨none, .mv (.var 13), none⟩, ⟨none, .call (.fn 19) [.tmp 0, .tmp 1], none⟩, ⟨none, .mv (.tmp 2), none⟩, ⟨none, .extract (.tmp 3) 0, none⟩, ⟨none, .extract (.tmp 3) 1, none⟩, ⟨some 15, .mv (.tmp 4), none⟩, ⟨some 16, .mv (.tmp 5), none⟩]) (.seq (.seq (.region [⟨none, .mv (.var 16), none⟩, ⟨some 26, .bin .neq (.tmp 0) (.cst (.int .i64 0)), none⟩]) (.cond (.var 26) (.seq (.region [⟨some 9, .mv (.cst (.bool false)), none⟩]) .ret) .skip)) (.seq (.region [⟨none, .mv (.var 14), none⟩, ⟨none, .mv (.var 15), none⟩, ⟨none, .call (.fn 28) [.tmp 0, .tmp 1, .cst (.int .i64 1), .cst (.int .i64 1000000)], none⟩, ⟨none, .mv (.tmp 2), none⟩, ⟨none, .extract (.tmp 3) 0, none⟩, ⟨none, .extract (.tmp 3) 1, none⟩, ⟨some 17, .mv (.tmp 4), none⟩, ⟨some 18, .mv (.tmp 5), none⟩]) (.seq (.seq (.region [⟨none, .mv (.var 18), none⟩, ⟨some 27, .un .not (.tmp 0), none⟩]) (.cond (.var 27) (.seq (.region [⟨none, .mv (.var 10), none⟩, ⟨some 9, .mv (.tmp 0), none⟩]) .ret) .skip)) (.seq (.region [⟨none, .mv (.var 17), none⟩, ⟨none, .mv (.var 13), none⟩, ⟨none, .build [.int .i64 0, .nilS, .nilS, .nilS] [(0, (1, .tmp 0)), (1, (1, .tmp 1))], none⟩, ⟨some 19, .alloc 4 (.agg [.int .i64 0, .nilS, .nilS, .nilS]), none⟩, ⟨none, .store 4 (.var 19) (.tmp 2), none⟩]) (.seq (.region [⟨none, .mv (.var 14), none⟩, ⟨none, .mv (.var 15), none⟩, ⟨none, .mv (.var 17), none⟩, ⟨none, .call (.fn 31) [.tmp 0, .tmp 1, .tmp 2], none⟩, ⟨none, .mv (.tmp 3), none⟩, ⟨none, .extract (.tmp 4) 0, none⟩, ⟨none, .extract (.tmp 4) 1, none⟩, ⟨none, .extract (.tmp 4) 2, none⟩, ⟨none, .fieldAddr 2 (.var 19), none⟩, ⟨none, .store 1 (.tmp 8) (.tmp 5), none⟩]) (.seq (.seq (.region [⟨none, .mv (.var 17), none⟩, ⟨some 28, .bin .gtr (.tmp 0) (.cst (.int .i64 1)), none⟩]) (.cond (.var 28) (.region [⟨none, .mv (.var 14), none⟩, ⟨none, .mv (.var 15), none⟩, ⟨none, .mv (.var 17), none⟩, ⟨none, .bin .sub (.tmp 2) (.cst (.int .i64 1)), none⟩, ⟨none, .call (.fn 31) [.tmp 0, .tmp 1, .tmp 3], none⟩, ⟨none, .mv (.tmp 4), none⟩, ⟨none, .extract (.tmp 5) 0, none⟩, ⟨none, .extract (.tmp 5) 1, none⟩, ⟨none, .extract (.tmp 5) 2, none⟩, ⟨none, .fieldAddr 3 (.var 19), none⟩, ⟨none, .store 1 (.tmp 9) (.tmp 7), none⟩]) .skip)) (.seq (.seq (.region [⟨none, .load true 5 (.var 11), none⟩, ⟨none, .load true 4 (.var 19), none⟩, ⟨none, .call (.fn 26) [.tmp 0, .tmp 1], none⟩, ⟨some 29, .un .not (.tmp 2), none⟩]) (.cond (.var 29) (.seq (.region [⟨some 9, .mv (.cst (.bool false)), none⟩]) .ret) .skip)) (.seq (.region [⟨none, .load true 4 (.var 19), none⟩, ⟨none, .load true 3 (.var 7), none⟩, ⟨none, .call (.fn 25) [.tmp 0, .tmp 1], none⟩, ⟨some 20, .alloc 4 (.agg [.int .i64 0, .nilS, .nilS, .nilS]), none⟩, ⟨none, .store 4 (.var 20) (.tmp 2), none⟩]) (.seq (.seq (.region [⟨none, .load true 5 (.var 11), none⟩, ⟨none, .load true 4 (.var 20), none⟩, ⟨none, .call (.fn 26) [.tmp 0, .tmp 1], none⟩, ⟨some 30, .un .not (.tmp 2), none⟩]) (.cond (.var 30) (.seq (.region [⟨none, .mv (.var 10), none⟩, ⟨some 9, .mv (.tmp 0), none⟩]) .ret) .skip)) (.seq (.region [⟨none, .load true 5 (.var 11), none⟩, ⟨none, .fieldAddr 1 (.var 20), none⟩, ⟨none, .load false 1 (.tmp 1), none⟩, ⟨none, .call (.fn 19) [.tmp 0, .tmp 2], none⟩, ⟨none, .mv (.tmp 3), none⟩, ⟨none, .extract (.tmp 4) 0, none⟩, ⟨none, .extract (.tmp 4) 1, none⟩, ⟨some 15, .mv (.tmp 5), none⟩, ⟨some 16, .mv (.tmp 6), none⟩]) (.seq (.region [⟨none, .fieldAddr 0 (.var 20), none⟩, ⟨none, .load false 1 (.tmp 0), none⟩, ⟨none, .bin .sub (.tmp 1) (.cst (.int .i64 1)), none⟩, ⟨none, .mv (.var 4), none⟩, ⟨none, .fieldAddr 0 (.var 20), none⟩, ⟨none, .load false 1 (.tmp 4), none⟩, ⟨none, .minmax true (.tmp 5) [.cst (.int .i64 1)], none⟩, ⟨none, .call (.fn 30) [.tmp 3, .tmp 6], none⟩, ⟨none, .bin .sub (.tmp 2) (.tmp 7), none⟩, ⟨some 21, .mv (.tmp 8), none⟩]) (.seq (.region [⟨none, .fieldAddr 1 (.var 20), none⟩, ⟨none, .load false 1 (.tmp 0), none⟩, ⟨none, .lenSl (.tmp 1), none⟩, ⟨none, .mv (.var 15), none⟩, ⟨none, .mv (.var 21), none⟩, ⟨none, .minmax true (.tmp 4) [.cst (.int .i64 1)], none⟩, ⟨none, .call (.fn 31) [.tmp 2, .tmp 3, .tmp 5], none⟩, ⟨none, .mv (.tmp 6), none⟩, ⟨none, .extract (.tmp 7) 0, none⟩, ⟨none, .extract (.tmp 7) 1, none⟩, ⟨none, .extract (.tmp 7) 2, none⟩, ⟨none, .mv (.tmp 8), none⟩, ⟨none, .mv (.tmp 9), none⟩, ⟨some 22, .mv (.tmp 10), none⟩]) (.seq (.seq (.region [⟨none, .mv (.var 16), none⟩, ⟨none, .bin .neq (.tmp 0) (.cst (.int .i64 0)), none⟩, ⟨none, .mv (.tmp 1), none⟩, ⟨none, .mv (.var 21), some (.tmp 2, false)⟩, ⟨none, .bin .geq (.tmp 3) (.cst (.int .i64 1)), some (.tmp 2, false)⟩, ⟨none, .mv (.tmp 4), some (.tmp 2, false)⟩, ⟨none, .mv (.var 22), some (.tmp 5, true)⟩, ⟨none, .pick (.tmp 5) (.tmp 6) (.cst (.bool false)), some (.tmp 2, false)⟩, ⟨some 31, .pick (.tmp 2) (.cst (.bool true)) (.tmp 7), none⟩]) (.cond (.var 31) (.seq (.region [⟨some 9, .mv (.cst (.bool false)), none⟩]) .ret) .skip)) (.seq (.region [⟨some 23, .mv (.cst .nilS), none⟩]) (.seq (.seq (.region [⟨some 24, .mv (.cst (.int .i64 0)), none⟩]) (.seq (.block 0 (.loop [0, 1, 2, 3, 4, 5, 6, 7, 9, 11, 12, 13, 14, 16, 17, 18, 19, 22, 25, 26, 27, 28, 29, 30, 31, 32] lp7x0)) (.kill [0, 1, 2, 3, 4, 5, 6, 7, 8, 9, 11, 12, 13, 14, 16, 17, 18, 19, 22, 24, 25, 26, 27, 28, 29, 30, 31, 32]))) (.seq (.region [⟨none, .mv (.var 10), none⟩, ⟨none, .mv (.tmp 0), none⟩, ⟨none, .mv (.var 21), some (.tmp 1, true)⟩, ⟨none, .bin .lss (.tmp 2) (.cst (.int .i64 1)), some (.tmp 1, true)⟩, ⟨none, .mv (.tmp 3), some (.tmp 1, true)⟩, ⟨none, .fieldAddr 1 (.var 20), some (.tmp 4, false)⟩, ⟨none, .load false 1 (.tmp 5), some (.tmp 4, false)⟩, ⟨none, .lenSl (.tmp 6), some (.tmp 4, false)⟩, ⟨none, .mv (.var 15), some (.tmp 4, false)⟩, ⟨none, .mv (.var 21), some (.tmp 4, false)⟩, ⟨none, .mv (.var 23), some (.tmp 4, false)⟩, ⟨none, .call (.fn 32) [.tmp 7, .tmp 8, .tmp 9, .tmp 10], some (.tmp 4, false)⟩, ⟨none, .un .not (.tmp 11), some (.tmp 4, false)⟩, ⟨none, .pick (.tmp 4) (.cst (.bool true)) (.tmp 12), some (.tmp 1, true)⟩, ⟨none, .pick (.tmp 1) (.tmp 13) (.cst (.bool false)), none⟩, ⟨some 9, .mv (.tmp 14), none⟩]) .ret))))))))))))))))))))))), [.tmp 9]⟩
def mask7x0 : List Nat := [0, 1, 2, 3, 4, 5, 6, 7, 9, 11, 12, 13, 14, 16, 17, 18, 19, 22, 25, 26, 27, 28, 29, 30, 31, 32]
abbrev st7x0 (v8 v10 v15 v20 v21 v23 v24 : AV) : List AV := [.undef, .undef, .undef, .undef, .undef, .undef, .undef, .undef, v8, .undef, v10, .undef, .undef, .undef, .undef, v15, .undef, .undef, .undef, .undef, v20, v21, .undef, v23, v24, .undef, .undef, .undef, .undef, .undef, .undef, .undef, .undef]
theorem cl7x0 {d0 d1 d2 d3 d4 d5 d6 d7 v8 d9 v10 d11 d12 d13 d14 v15 d16 d17 d18 d19 v20 v21 d22 v23 v24 d25 d26 d27 d28 d29 d30 d31 d32 : AV} : clear mask7x0 [d0, d1, d2, d3, d4, d5, d6, d7, v8, d9, v10, d11, d12, d13, d14, v15, d16, d17, d18, d19, v20, v21, d22, v23, v24, d25, d26, d27, d28, d29, d30, d31, d32] = st7x0 v8 v10 v15 v20 v21 v23 v24 := by simp only [mask7x0, clear, List.foldl_cons, List.foldl_nil, List.set_cons_zero, List.set_cons_succ]
theorem go7x0 {E : Env} {fuel : Nat} {A : Arena} {o : Out} {k : List KC} {d0 d1 d2 d3 d4 d5 d6 d7 v8 d9 v10 d11 d12 d13 d14 v15 d16 d17 d18 d19 v20 v21 d22 v23 v24 d25 d26 d27 d28 d29 d30 d31 d32 : AV} (h : iter (evC E fuel lp7x0) mask7x0 fuel (st7x0 v8 v10 v15 v20 v21 v23 v24) A = some o) :
    run E fuel (.code (.loop [0, 1, 2, 3, 4, 5, 6, 7, 9, 11, 12, 13, 14, 16, 17, 18, 19, 22, 25, 26, 27, 28, 29, 30, 31, 32] lp7x0) :: k) [d0, d1, d2, d3, d4, d5, d6, d7, v8, d9, v10, d11, d12, d13, d14, v15, d16, d17, d18, d19, v20, v21, d22, v23, v24, d25, d26, d27, d28, d29, d30, d31, d32] A = after E fuel k o := run_loopC mask7x0 _ _ (by rw [cl7x0]; exact h)
set_option maxHeartbeats 4000000 in
theorem comp7 : compFun Try.prog Try.f7 6 [0, 1, 2, 3, 4, 5, 6, 9, 11, 12, 13, 14, 15, 16, 17, 18, 19, 20, 21, 22, 23, 24, 27, 28, 29, 38, 55, 63, 78, 92, 99, 136, 145] [30] true ([[0, 1, 2, 3, 4, 5, 6, 7, 9, 11, 12, 13, 14, 16, 17, 18, 19, 22, 25, 26, 27, 28, 29, 30, 31, 32]], [[0, 1, 2, 3, 4, 5, 6, 7, 9, 11, 12, 13, 14, 16, 17, 18, 19, 22, 25, 26, 27, 28, 29, 30, 31, 32], [0, 1, 2, 3, 4, 5, 6, 7, 8, 9, 11, 12, 13, 14, 16, 17, 18, 19, 22, 24, 25, 26, 27, 28, 29, 30, 31, 32]]) = some mf7 := by kernel_rfl
theorem at7 : Try.prog.funcs[7]? = some Try.f7 := by kernel_rfl
end Go.Proofs.Ytemklhljjaniaaa
