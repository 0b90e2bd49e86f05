/-
  What the proof is built on (K9 to K30).
-/
import Derived.Test.YtemklhljjaniaaaS05
import Derived.Test.YtemklhljjaniaaaS03
import Derived.Test.YtemklhljjaniaaaChecked
import Derived.KernelRfl
/-
  Cluster: Best.
-/
namespace Go.Proofs.Ytemklhljjaniaaa
open Go
open Cy (GC geq0 idxZ idxZ_some idxZ_none idxZ_any frz_i frz_b intsA_len CArc arcA arcsOf isPer ValidA okA smM smT lvM lvT arcsOf_slA VerOk RefOk Ready slA_cases)

/-! ### the arcs are in order -/
theorem getD_mem {o : List Int} {i : Nat} (h : i < o.length) : o.getD i 0 ∈ o := by
  rw [List.getD_eq_getElem?_getD, List.getElem?_eq_getElem h]; exact List.getElem_mem h
theorem arcs_ok {T : Tool} {o : List Int} (hO : o ∈ ordersM T) : ValidA (o.length : Int) (arcsL T o) ∧ ∀ x ∈ arcsL T o, x.inR := by
  obtain ⟨hv, hol, _, _⟩ := orders_mem hO
  have hbd := orders_bd hO
  have hw := workT_bd hv
  have hn1 := hv.2.2.1
  have hn4 := hv.2.2.2.1
  have htr := hv.2.1.2.2
  have key : ∀ x ∈ arcsL T o, okA (o.length : Int) x := fun x hx => by
    rcases List.mem_append.1 hx with hx | hx
    · obtain ⟨i, hi, rfl⟩ := List.mem_map.1 hx
      rw [List.mem_range] at hi
      have h1 := hbd _ (getD_mem hi)
      have h2 : 0 ≤ nextO o i ∧ nextO o i ≤ T.ch.length := by
        unfold nextO
        split
        · rename_i h; exact hbd _ (getD_mem h)
        · omega
      refine ⟨?_, ?_, ?_, ?_⟩ <;> simp only [arcO] <;> (try split) <;> omega
    · obtain ⟨i, hi, hx⟩ := List.mem_flatMap.1 hx
      rw [List.mem_range] at hi
      have hx0 : T.ch.getD i (0, 0) = T.ch[i] := by rw [List.getD_eq_getElem?_getD, List.getElem?_eq_getElem hi]; rfl
      have hxv := hv.1 _ (List.getElem_mem hi)
      rw [← hx0] at hxv
      simp only [okCh] at hxv
      have lb := lkT_bd T o ((i : Int) + 1)
      have l1 : 0 ≤ (lkT T o ((i : Int) + 1)).1 ∧ (lkT T o ((i : Int) + 1)).1 ≤ o.length - 1 ∧ 0 ≤ (lkT T o ((i : Int) + 1)).2.1 ∧ (lkT T o ((i : Int) + 1)).2.1 ≤ o.length - 1 := by
        unfold lkT
        split <;> simp only <;> omega
      simp only [arcC, List.mem_cons, List.not_mem_nil, or_false] at hx
      rcases hx with rfl | rfl <;> refine ⟨?_, ?_, ?_, ?_⟩ <;> simp only <;> omega
  refine ⟨⟨by omega, ?_, key⟩, fun x hx => ?_⟩
  · unfold arcsL
    rw [List.length_append, arcsC_len]
    simp; omega
  · obtain ⟨h1, h2, h3, h4⟩ := key x hx
    refine ⟨?_, ?_, ?_, ?_⟩ <;> unfold inI <;> omega
def arcsV (l : List CArc) : AV := slA 4 (l.map arcA)
theorem arcsV_of {T : Tool} {o : List Int} (hO : o ∈ ordersM T) : arcsOf (arcsV (arcsL T o)) = some (arcsL T o) := by
  obtain ⟨h1, h2⟩ := arcs_ok hO
  exact arcsOf_slA (by have := h1.2.1; omega) h2
theorem arcsM_some {T : Tool} {o : List Int} (hO : o ∈ ordersM T) : arcsM T o = some (arcsL T o) := if_pos hO

/-! ### plain -/
def hiOf (s : Option (Int × List Int)) : Int := match s with | none => 1000000 | some x => x.1 - 1
noncomputable def bstep (T : Tool) (s : Option (Int × List Int)) (o : List Int) : Option (Int × List Int) :=
  match smM (o.length : Int) (arcsL T o) 1 (hiOf s) with
  | some p => some (p, o)
  | none => s
noncomputable def bestF (T : Tool) : Option (Int × List Int) := (ordersM T).foldl (bstep T) none
structure Sched where
  period : Int
  order : List Int
  starts : List Int
  proof : List Int
noncomputable def schOf (T : Tool) (x : Int × List Int) : Sched :=
  ⟨x.1, x.2, (lvM (x.2.length : Int) (arcsL T x.2) x.1).1, if x.1 > 1 then (lvM (x.2.length : Int) (arcsL T x.2) (x.1 - 1)).2.1 else []⟩
noncomputable def bestM (T : Tool) : Option Sched := (bestF T).map (schOf T)
def schA (s : Sched) : AV := .agg [.int .i64 s.period, slA 1 (intsA s.order), slA 1 (intsA s.starts), slA 1 (intsA s.proof)]
def zeroS : Sched := ⟨0, [], [], []⟩
def bestT (r : Option Sched) : AV := .tup [schA (r.getD zeroS), .int .i64 (if r.isSome then 0 else 130)]
/-- what is known under way -/
def sOk (T : Tool) (s : Option (Int × List Int)) : Prop := ∀ x, s = some x → 1 ≤ x.1 ∧ x.1 ≤ 1000000 ∧ x.2 ∈ ordersM T
theorem sm_some {n : Nat} {l : List CArc} {hi r : Int} (hp : isPer hi) (h : smM (n : Int) l 1 hi = some r) : 1 ≤ r ∧ r ≤ hi ∧ Ready n l r ∧ ¬ Cy.Pos l r ∧ ∀ q, 1 ≤ q → q < r → Cy.Pos l q := by
  unfold smM at h
  rw [if_pos hp, Int.toNat_natCast] at h
  exact (Cy.smL_spec (n := n) (l := l) hp (hi - 1 + 2).toNat 1 (by omega)).1 r h
theorem sm_none {n : Nat} {l : List CArc} {hi : Int} (hp : isPer hi) (hv : ValidA n l) (h : smM (n : Int) l 1 hi = none) : ∀ q, 1 ≤ q → q ≤ hi → Cy.Pos l q := by
  unfold smM at h
  rw [if_pos hp, Int.toNat_natCast] at h
  exact (Cy.smL_spec (n := n) (l := l) hp (hi - 1 + 2).toNat 1 (by omega)).2 h ⟨hv, by unfold isPer; omega⟩
theorem bstep_ok {T : Tool} {s : Option (Int × List Int)} (h : sOk T s) {o : List Int} (hO : o ∈ ordersM T) : sOk T (bstep T s o) := by
  have hper : isPer (hiOf s) := by
    unfold hiOf isPer
    cases s with
    | none => simp
    | some x => have := h x rfl; simp only; omega
  unfold bstep
  cases hm : smM (o.length : Int) (arcsL T o) 1 (hiOf s) with
  | none => exact h
  | some p =>
    obtain ⟨h1, h2, _⟩ := sm_some hper hm
    intro x hx
    injection hx with hx; subst hx
    exact ⟨h1, by unfold isPer at hper; simp only; omega, hO⟩
theorem bstep_one {T : Tool} {o q : List Int} : bstep T (some (1, o)) q = some (1, o) := by
  unfold bstep
  have hp : isPer 0 := by unfold isPer; omega
  cases hm : smM (q.length : Int) (arcsL T q) 1 ((1 : Int) - 1) with
  | none => rfl
  | some p =>
    obtain ⟨h1, h2, _⟩ := sm_some (hi := 0) hp hm
    omega
theorem fold_one {T : Tool} {o : List Int} : ∀ l : List (List Int), l.foldl (bstep T) (some (1, o)) = some (1, o)
  | [] => rfl
  | q :: l => by rw [List.foldl_cons, bstep_one, fold_one l]
theorem fold_ok {T : Tool} : ∀ (l : List (List Int)) (s : Option (Int × List Int)), (∀ o ∈ l, o ∈ ordersM T) → sOk T s → sOk T (l.foldl (bstep T) s)
  | [], _, _, h => h
  | q :: l, s, hl, h => fold_ok l _ (fun o ho => hl o (by simp [ho])) (bstep_ok h (hl q (by simp)))

/-! ### the loop over the orders -/
noncomputable def fs22 : List (FuncId × HModel) := [(14, pureFH 4 M14), (19, pureFH 4 M19), (28, pureH 4 Cy.M23), (31, Cy.H14)]
@[simp] theorem fs22_14 : lookM fs22 14 = some (pureFH 4 M14) := rfl
@[simp] theorem fs22_19 : lookM fs22 19 = some (pureFH 4 M19) := rfl
@[simp] theorem fs22_28 : lookM fs22 28 = some (pureH 4 Cy.M23) := rfl
@[simp] theorem fs22_31 : lookM fs22 31 = some Cy.H14 := rfl
theorem sound22 : ∀ f M, lookM fs22 f = some M → FnSpecY Try.prog GC f M := lookM_cons (FnSpecY.of_pureF spec14 4) (lookM_cons (FnSpecY.of_pureF spec19 4) (lookM_cons (FnSpecY.of_pure Cy.spec23 4) (lookM_cons Cy.spec14 lookM_nil)))
def zA : AV := .agg [.int .i64 0, .nilS, .nilS, .nilS]
def bsA (s : Option (Int × List Int)) : AV := match s with | none => .agg [.int .i64 0, .nilS, .nilS, .nilS] | some x => .agg [.int .i64 x.1, slA 1 (intsA x.2), .nilS, .nilS]
def bsV (T : Tool) (s : Option (Int × List Int)) : AV := match s with | none => .nilS | some x => arcsV (arcsL T x.2)
def R22 (A : Arena) (T : Tool) (chv : AV) (s : Option (Int × List Int)) : Arena := A ++ [.row 5 false [toolA T chv], .row 4 false [zA], .row 4 false [bsA s]]
theorem R22_0 (A : Arena) (T : Tool) (chv : AV) (s : Option (Int × List Int)) : (R22 A T chv s)[A.length]? = some (.row 5 false [toolA T chv]) := by simp [R22]
theorem R22_1 (A : Arena) (T : Tool) (chv : AV) (s : Option (Int × List Int)) : (R22 A T chv s)[A.length + 1]? = some (.row 4 false [zA]) := by simp [R22]
theorem R22_2 (A : Arena) (T : Tool) (chv : AV) (s : Option (Int × List Int)) : (R22 A T chv s)[A.length + 2]? = some (.row 4 false [bsA s]) := by simp [R22]
theorem R22_set (A : Arena) (T : Tool) (chv : AV) (s s' : Option (Int × List Int)) : (R22 A T chv s).set (A.length + 2) (.row 4 false [bsA s']) = R22 A T chv s' := by
  unfold R22
  rw [List.set_append_right _ _ (by omega), show A.length + 2 - A.length = 2 by omega]
  rfl
def pOf (s : Option (Int × List Int)) : Int := match s with | none => 0 | some x => x.1
theorem evGtrI (a b : Int) : evBin .gtr (.int .i64 a) (.int .i64 b) = some (.bool (decide (a > b))) := by simp [evBin]
theorem slA_form (xs : List Int) : (slA 1 (intsA xs)).solid = true ∧ cellsOf (slA 1 (intsA xs)) = [slA 1 (intsA xs)] := by
  cases xs <;> exact ⟨rfl, rfl⟩
set_option maxRecDepth 100000 in
set_option maxHeartbeats 4000000 in
theorem round22 {A : Arena} {T : Tool} {chv chF : AV} (hcv : SlA 2 (T.ch.map chA) chF) (hz : ∀ X, frz (A ++ X) 4 (toolA T chv) = toolA T chF) {s : Option (Int × List Int)} (hs : sOk T s) {i : Nat} (hi : i < (ordersM T).length) :
    (hiOf s < 1 → ∃ d6 d7 d8 : AV, run (envOf GC fs22) 300 [.code lp22x0] (st22x0 (.ptr A.length 0 0) (.ptr (A.length + 1) 0 0) (.ptr (A.length + 2) 0 0) (bsV T s) (ordA (ordersM T)) (.int .i64 ((ordersM T).length : Int)) (.int .i64 (i : Int))) (R22 A T chv s) =
      some (.exit 0 [.undef, .ptr A.length 0 0, .ptr (A.length + 1) 0 0, .undef, .ptr (A.length + 2) 0 0, bsV T s, d6, d7, d8, .undef, .undef, ordA (ordersM T), .int .i64 ((ordersM T).length : Int), .int .i64 (i : Int), .bool true, .bool true, .bool true, .undef, .undef, .undef] (R22 A T chv s))) ∧
    (¬ hiOf s < 1 → run (envOf GC fs22) 300 [.code lp22x0] (st22x0 (.ptr A.length 0 0) (.ptr (A.length + 1) 0 0) (.ptr (A.length + 2) 0 0) (bsV T s) (ordA (ordersM T)) (.int .i64 ((ordersM T).length : Int)) (.int .i64 (i : Int))) (R22 A T chv s) =
      some (.normal (st22x0 (.ptr A.length 0 0) (.ptr (A.length + 1) 0 0) (.ptr (A.length + 2) 0 0) (bsV T (bstep T s (ordersM T)[i])) (ordA (ordersM T)) (.int .i64 ((ordersM T).length : Int)) (.int .i64 ((i + 1 : Nat) : Int))) (R22 A T chv (bstep T s (ordersM T)[i])))) := by
  obtain ⟨o, ho⟩ : ∃ o, o = (ordersM T)[i] := ⟨_, rfl⟩
  have hO : o ∈ ordersM T := by rw [ho]; exact List.getElem_mem hi
  obtain ⟨hv, hol, _, _⟩ := orders_mem hO
  have hhi : hiOf s ≤ 1000000 ∧ 0 ≤ hiOf s := by
    unfold hiOf
    cases s with
    | none => simp
    | some x => have := hs x rfl; simp only; omega
  have hb := slA_holds 1 ((ordersM T).map fun l => slA 1 (intsA l))
  rw [show slA 1 ((ordersM T).map fun l => slA 1 (intsA l)) = ordA (ordersM T) from rfl] at hb
  obtain ⟨q1, q2⟩ := slA_form o
  have he : ((ordersM T).map fun l => slA 1 (intsA l))[i]? = some (slA 1 (intsA o)) := by simp [hi, ho]
  have x1 := fun A => hb.index1 (A := A) he q1 q2 .i64
  have hos := slA_holds 1 (intsA o)
  have hlo := hos.len
  rw [intsA_len] at hlo
  have m19 := M19_eq (T := T) hcv (by have := hv.2.2.2.1; omega) hos
  rw [arcsM_some hO] at m19
  have m19 : M19 [toolA T chF, slA 1 (intsA o)] = some (.tup [arcsV (arcsL T o), .int .i64 0]) := m19
  have m23 : ∀ hi, Cy.M23 [.int .i64 (o.length : Int), arcsV (arcsL T o), .int .i64 1, .int .i64 hi] = some (smT (smM (o.length : Int) (arcsL T o) 1 hi)) := fun hi => by
    simp only [Cy.M23, arcsV_of hO, Option.map_some]
  have m23 := m23 (hiOf s)
  have hbs : bstep T s o = match smM (o.length : Int) (arcsL T o) 1 (hiOf s) with | some p => some (p, o) | none => s := rfl
  rw [← ho, hbs]
  have b0 := lt_nat i (ordersM T).length .i64
  rw [decide_eq_true hi] at b0
  have b1 := add1_nat i (by have := orders_len T; omega)
  have b2 := evGtrI (pOf s) 0
  have b3 : evBin .sub (.int .i64 (pOf s)) (.int .i64 1) = some (.int .i64 (pOf s - 1)) := evSubI (by
    unfold pOf
    cases s with
    | none => simp
    | some x => have := hs x rfl; simp only; omega)
  have hpp : (pOf s > 0 → hiOf s = pOf s - 1) ∧ (¬ pOf s > 0 → hiOf s = 1000000) := by
    unfold pOf hiOf
    cases s with
    | none => simp
    | some x => have := hs x rfl; simp only; exact ⟨fun _ => trivial, fun h => by omega⟩
  have b4 := evLssI (hiOf s) 1
  have ft : frz (R22 A T chv s) 4 (toolA T chv) = toolA T chF := hz _
  have fo : ∀ A n, frz A n (slA 1 (intsA o)) = slA 1 (intsA o) := fun A n => hos.frz n
  have fa : ∀ A n, frz A n (arcsV (arcsL T o)) = arcsV (arcsL T o) := fun A n => (slA_holds 4 _).frz n
  have na : noRefB 4 (arcsV (arcsL T o)) = true := (slA_holds 4 _).noRef 4
  have lt : evLoad true 5 (R22 A T chv s) (.ptr A.length 0 0) = some (toolA T chv) := by simp [evLoad, R22_0, toolA]
  have f0 : evFieldAddr 0 (R22 A T chv s) (.ptr (A.length + 2) 0 0) = some (.ptr (A.length + 2) 0 0) := by simp [evFieldAddr, R22_2]
  have l0 : evLoad false 1 (R22 A T chv s) (.ptr (A.length + 2) 0 0) = some (.int .i64 (pOf s)) := by
    cases s <;> simp [evLoad, R22_2, bsA, pOf, loadElem_part]
  have st : ∀ p, evStore 4 (R22 A T chv s) (.ptr (A.length + 2) 0 0) (.agg [.int .i64 p, slA 1 (intsA o), .nilS, .nilS]) = some (R22 A T chv (some (p, o))) := fun p => by
    rw [← R22_set A T chv s (some (p, o))]
    simp [R22_2, evStore, storeElem, bsA]
  have fl : ∀ p, fillA [.int .i64 0, .nilS, .nilS, .nilS] [(0, (1, .int .i64 p)), (1, (1, slA 1 (intsA o)))] = some [.int .i64 p, slA 1 (intsA o), .nilS, .nilS] := fun p => by
    have c1 : cellsOf (AV.int .i64 p) = [.int .i64 p] := rfl
    have c2 : (AV.int .i64 p).solid = true := rfl
    simp [fillA, q1, q2, c1, c2, -cellsOf, -AV.solid]
  have fl2 : ∀ x, fillA [.int .i64 0, .nilS, .nilS, .nilS] x = fillA [.int .i64 0, .nilS, .nilS, .nilS] x := fun _ => rfl
  obtain ⟨W, hW⟩ : ∃ W, W = slA 1 (intsA o) := ⟨_, rfl⟩
  rw [← hW] at x1 hlo m19 fo st fl
  have hbv : ∀ p, bsV T (some (p, o)) = arcsV (arcsL T o) := fun _ => rfl
  obtain ⟨sm, hsm⟩ : ∃ sm, sm = smM (o.length : Int) (arcsL T o) 1 (hiOf s) := ⟨_, rfl⟩
  rw [← hsm] at m23 ⊢
  obtain ⟨V, hV⟩ : ∃ V, V = arcsV (arcsL T o) := ⟨_, rfl⟩
  rw [← hV] at m19 m23 fa na
  simp only [← hV] at hbv
  obtain ⟨tF, htF⟩ : ∃ t, t = toolA T chF := ⟨_, rfl⟩
  rw [← htF] at m19 ft
  obtain ⟨t, ht⟩ : ∃ t, t = toolA T chv := ⟨_, rfl⟩
  rw [← ht] at ft lt
  obtain ⟨h, hh⟩ : ∃ h, h = hiOf s := ⟨_, rfl⟩
  rw [← hh] at m23 b4 hpp ⊢
  obtain ⟨p, hp⟩ : ∃ h, h = pOf s := ⟨_, rfl⟩
  rw [← hp] at b2 b3 hpp l0
  obtain ⟨i1, hi1⟩ : ∃ n, n = i + 1 := ⟨_, rfl⟩
  rw [← hi1] at b1 ⊢
  obtain ⟨Q, hQ⟩ : ∃ Q, Q = ordA (ordersM T) := ⟨_, rfl⟩
  rw [← hQ] at x1 ⊢
  obtain ⟨A0, hA0⟩ : ∃ X, X = R22 A T chv s := ⟨_, rfl⟩
  rw [← hA0] at lt f0 l0 st ft ⊢
  obtain ⟨n0, hn0⟩ : ∃ n, n = A.length := ⟨_, rfl⟩
  obtain ⟨n1, hn1⟩ : ∃ n, n = A.length + 1 := ⟨_, rfl⟩
  obtain ⟨n2, hn2⟩ : ∃ n, n = A.length + 2 := ⟨_, rfl⟩
  rw [← hn2] at f0 l0 st
  rw [← hn0] at lt
  rw [← hn1, ← hn2, ← hn0]
  obtain ⟨U, hU⟩ : ∃ U, U = bsV T s := ⟨_, rfl⟩
  rw [← hU]
  refine ⟨fun h1 => ⟨W, V, .int .i64 h, ?_⟩, fun h1 => ?_⟩
  · have hp0 : p > 0 := by
      by_cases hp0 : p > 0
      · exact hp0
      · have := hpp.2 hp0; omega
    rw [decide_eq_true hp0] at b2
    rw [← hpp.1 hp0] at b3
    rw [decide_eq_true h1] at b4
    simp [lp22x0, x1, lt, ft, fo, m19, f0, l0, b0, b2, b3, b4, -evBin, -evLoad, -evFieldAddr, -evIndexSl, -frz]
  · rw [decide_eq_false h1] at b4
    by_cases hp0 : p > 0
    · rw [decide_eq_true hp0] at b2
      rw [← hpp.1 hp0] at b3
      cases sm with
      | none =>
        simp only [← hU, ← hA0]
        simp [lp22x0, x1, lt, ft, fo, fa, frz_i, na, smT, m19, m23, hlo, f0, l0, b0, b1, b2, b3, b4, -evBin, -evLoad, -evFieldAddr, -evIndexSl, -evLenSl, -frz]
      | some r => simp [lp22x0, x1, lt, ft, fo, fa, frz_i, na, smT, m19, m23, hlo, f0, l0, b0, b1, b2, b3, b4, st, fl, hbv, -evBin, -evLoad, -evStore, -evFieldAddr, -evIndexSl, -evLenSl, -frz, -fillA]
    · rw [decide_eq_false hp0] at b2
      obtain rfl := hpp.2 hp0
      cases sm with
      | none =>
        simp only [← hU, ← hA0]
        simp [lp22x0, x1, lt, ft, fo, fa, frz_i, na, smT, m19, m23, hlo, f0, l0, b0, b1, b2, b4, -evBin, -evLoad, -evFieldAddr, -evIndexSl, -evLenSl, -frz]
      | some r => simp [lp22x0, x1, lt, ft, fo, fa, frz_i, na, smT, m19, m23, hlo, f0, l0, b0, b1, b2, b4, st, fl, hbv, -evBin, -evLoad, -evStore, -evFieldAddr, -evIndexSl, -evLenSl, -frz, -fillA]
end Go.Proofs.Ytemklhljjaniaaa
/-
  Cluster: Best as a whole; Check.
-/
namespace Go.Proofs.Ytemklhljjaniaaa
open Go
open Cy (GC geq0 idxZ idxZ_some idxZ_none idxZ_any frz_i frz_b intsA_len CArc arcA arcsOf isPer ValidA okA smM smT lvM lvT arcsOf_slA VerOk RefOk Ready slA_cases)

theorem loop22 {A : Arena} {T : Tool} {chv chF : AV} (hcv : SlA 2 (T.ch.map chA) chF) (hz : ∀ X, frz (A ++ X) 4 (toolA T chv) = toolA T chF) : ∀ (c i : Nat) (s : Option (Int × List Int)) (m : Nat), i + c = (ordersM T).length → sOk T s → c < m →
    ∃ d6 d7 d8 d13 d14 d15 d16 : AV, iter (evC (envOf GC fs22) 300 lp22x0) mask22x0 m (st22x0 (.ptr A.length 0 0) (.ptr (A.length + 1) 0 0) (.ptr (A.length + 2) 0 0) (bsV T s) (ordA (ordersM T)) (.int .i64 ((ordersM T).length : Int)) (.int .i64 (i : Int))) (R22 A T chv s) =
      some (.exit 0 [.undef, .ptr A.length 0 0, .ptr (A.length + 1) 0 0, .undef, .ptr (A.length + 2) 0 0, bsV T (((ordersM T).drop i).foldl (bstep T) s), d6, d7, d8, .undef, .undef, ordA (ordersM T), .int .i64 ((ordersM T).length : Int), d13, d14, d15, d16, .undef, .undef, .undef] (R22 A T chv (((ordersM T).drop i).foldl (bstep T) s))) := by
  intro c
  induction c with
  | zero =>
    intro i s m hi hs hm
    obtain ⟨m, rfl⟩ : ∃ j, m = j + 1 := ⟨m - 1, by omega⟩
    obtain rfl : i = (ordersM T).length := by omega
    rw [List.drop_length]
    refine ⟨.undef, .undef, .undef, .int .i64 ((ordersM T).length : Int), .bool false, .undef, .undef, ?_⟩
    have b0 := lt_nat (ordersM T).length (ordersM T).length .i64
    rw [decide_eq_false (by omega)] at b0
    rw [iter_succ, cl22x0]
    simp [lp22x0, b0, -evBin]
  | succ c ih =>
    intro i s m hi hs hm
    obtain ⟨m, rfl⟩ : ∃ j, m = j + 1 := ⟨m - 1, by omega⟩
    have hil : i < (ordersM T).length := by omega
    obtain ⟨r1, r2⟩ := round22 hcv hz hs hil
    rw [List.drop_eq_getElem_cons hil, List.foldl_cons]
    by_cases h1 : hiOf s < 1
    · obtain ⟨d6, d7, d8, hr⟩ := r1 h1
      have hone : ∃ o, s = some (1, o) := by
        cases s with
        | none => unfold hiOf at h1; simp at h1
        | some x =>
          have := hs x rfl
          unfold hiOf at h1
          simp only at h1
          obtain ⟨p, o⟩ := x
          exact ⟨o, by simp only at this h1; rw [show p = 1 by omega]⟩
      obtain ⟨o, rfl⟩ := hone
      rw [bstep_one, fold_one]
      refine ⟨d6, d7, d8, .int .i64 (i : Int), .bool true, .bool true, .bool true, ?_⟩
      rw [iter_succ, cl22x0, hr]
    · have hr := r2 h1
      obtain ⟨d6, d7, d8, d13, d14, d15, d16, h2⟩ := ih (i + 1) _ m (by omega) (bstep_ok hs (List.getElem_mem hil)) (by omega)
      refine ⟨d6, d7, d8, d13, d14, d15, d16, ?_⟩
      rw [iter_succ, cl22x0, hr]
      exact h2

theorem best_ok (T : Tool) : sOk T (bestF T) := fold_ok _ _ (fun _ h => h) (fun x h => by cases h)
/-- Best's own rows behind it -/
def E22 (A : Arena) (T : Tool) (chv : AV) (r : Option Sched) : Arena := A ++ [.row 5 false [toolA T chv], .row 4 false [match r with | none => zA | some s => schA s], .row 4 false [match r with | none => zA | some s => schA s]]
noncomputable def H22 : HModel := fun _ => evFun (envOf GC fs22) 300 mf22
theorem spec22H : FnSpecY Try.prog GC 22 H22 := (evFun_sound (envOf_sound sound22) rfl at22 comp22 PureIn.nil).y
set_option maxRecDepth 100000 in
set_option maxHeartbeats 4000000 in
theorem H22_eq (h : Handler) {A : Arena} {T : Tool} {chv chF : AV} (hcv : SlA 2 (T.ch.map chA) chF) (hz : ∀ X, frz (A ++ X) 4 (toolA T chv) = toolA T chF) (hl : T.ch.length ≤ 200) : H22 h [toolA T chv] A = some (bestT (bestM T), E22 A T chv (bestM T)) := by
  have m14 := M14_eq hcv hl
  have hlen : evLenSl (ordA (ordersM T)) = some (.int .i64 ((ordersM T).length : Int)) := by
    have := (slA_holds 1 ((ordersM T).map fun l => slA 1 (intsA l))).len
    rwa [List.length_map] at this
  obtain ⟨d6, d7, d8, d13, d14, d15, d16, lp⟩ := loop22 hcv hz (ordersM T).length 0 none 300 (by omega) (fun x h => by cases h) (by have := orders_len T; omega)
  rw [List.drop_zero, show (ordersM T).foldl (bstep T) none = bestF T from rfl] at lp
  have hok := best_ok T
  obtain ⟨A0, hA0⟩ : ∃ X, X = A ++ [.row 5 false [toolA T chv], .row 4 false [zA], .row 4 false [zA]] := ⟨_, rfl⟩
  rw [show R22 A T chv none = A0 from hA0.symm, show bsV T none = .nilS from rfl, show ((0 : Nat) : Int) = 0 from rfl] at lp
  have lt : evLoad true 5 A0 (.ptr A.length 0 0) = some (toolA T chv) := by rw [hA0]; simp [evLoad, toolA]
  have ft : frz A0 4 (toolA T chv) = toolA T chF := by rw [hA0]; exact hz _
  have bx0 : evBox 5 (toolA T chv) A = some (.ptr A.length 0 0, A ++ [.row 5 false [toolA T chv]]) := rfl
  have ct : (cellsOf (toolA T chv)).length = 5 := rfl
  have bx1 : evBox 4 (.agg [.int .i64 0, .nilS, .nilS, .nilS]) (A ++ [.row 5 false [toolA T chv]]) = some (.ptr (A.length + 1) 0 0, A ++ [.row 5 false [toolA T chv], .row 4 false [zA]]) := by simp [evBox, zA]
  have bx2 : evBox 4 (.agg [.int .i64 0, .nilS, .nilS, .nilS]) (A ++ [.row 5 false [toolA T chv], .row 4 false [zA]]) = some (.ptr (A.length + 2) 0 0, A0) := by rw [hA0]; simp [evBox, zA]
  have hbm : bestM T = (bestF T).map (schOf T) := rfl
  rw [hbm]
  obtain ⟨s, hs⟩ : ∃ s, s = bestF T := ⟨_, rfl⟩
  rw [← hs] at lp hok ⊢
  obtain ⟨X1, hX1⟩ : ∃ X, X = A ++ [Ent.row 5 false [toolA T chv]] := ⟨_, rfl⟩
  obtain ⟨X2, hX2⟩ : ∃ X, X = A ++ [Ent.row 5 false [toolA T chv], .row 4 false [zA]] := ⟨_, rfl⟩
  rw [← hX1] at bx0 bx1
  rw [← hX2] at bx1 bx2
  obtain ⟨t, ht⟩ : ∃ t, t = toolA T chv := ⟨_, rfl⟩
  obtain ⟨tF, htF⟩ : ∃ t, t = toolA T chF := ⟨_, rfl⟩
  obtain ⟨Q, hQ⟩ : ∃ Q, Q = ordA (ordersM T) := ⟨_, rfl⟩
  obtain ⟨L, hL⟩ : ∃ Q, Q = ((ordersM T).length : Int) := ⟨_, rfl⟩
  have f0 : evFieldAddr 0 (R22 A T chv s) (.ptr (A.length + 2) 0 0) = some (.ptr (A.length + 2) 0 0) := by simp [evFieldAddr, R22_2]
  have l0 : evLoad false 1 (R22 A T chv s) (.ptr (A.length + 2) 0 0) = some (.int .i64 (pOf s)) := by cases s <;> simp [evLoad, R22_2, bsA, pOf, loadElem_part]
  rw [← htF] at m14 ft
  rw [← ht] at lt bx0 ct ft ⊢
  rw [← hQ] at m14 hlen lp
  rw [← hL] at hlen lp
  unfold H22
  rw [evFun_run _ _ rfl]
  cases s with
  | none =>
    have b1 := evEqlI 0 0
    rw [decide_eq_true rfl] at b1
    have e1 : E22 A T chv none = R22 A T chv none := rfl
    have st : evStore 4 (R22 A T chv none) (.ptr (A.length + 1) 0 0) (.agg [.int .i64 0, .nilS, .nilS, .nilS]) = some (R22 A T chv none) := by
      have : (R22 A T chv none).set (A.length + 1) (.row 4 false [zA]) = R22 A T chv none := by
        unfold R22
        rw [List.set_append_right _ _ (by omega), show A.length + 1 - A.length = 1 by omega]
        rfl
      conv => rhs; rw [← this]
      simp [evStore, R22_1, storeElem, zA]
    have l4 : evLoad true 4 (R22 A T chv none) (.ptr (A.length + 1) 0 0) = some (.agg [.int .i64 0, .nilS, .nilS, .nilS]) := by simp [evLoad, R22_1, zA]
    rw [show (Option.map (schOf T) none) = none from rfl, e1]
    rw [show bestT none = .tup [.agg [.int .i64 0, .nilS, .nilS, .nilS], .int .i64 130] from rfl]
    obtain ⟨A1, hA1⟩ : ∃ X, X = R22 A T chv none := ⟨_, rfl⟩
    rw [← hA1] at lp f0 l0 st l4 ⊢
    have l0 : evLoad false 1 A1 (.ptr (A.length + 2) 0 0) = some (.int .i64 0) := l0
    obtain ⟨n0, hn0⟩ : ∃ n, n = A.length := ⟨_, rfl⟩
    obtain ⟨n1, hn1⟩ : ∃ n, n = A.length + 1 := ⟨_, rfl⟩
    obtain ⟨n2, hn2⟩ : ∃ n, n = A.length + 2 := ⟨_, rfl⟩
    rw [← hn2] at lp f0 l0 bx2
    rw [← hn1] at lp st l4 bx1
    rw [← hn0] at lp lt bx0
    simp [mf22, bx0, bx1, bx2, ct, lt, m14, ft, hlen, go22x0 lp, f0, l0, b1, st, l4, -evBox, -evLoad, -evStore, -evFieldAddr, -evLenSl, -frz, -cellsOf, -evBin]
  | some x =>
    obtain ⟨p, o⟩ := x
    obtain ⟨hp1, hp2, hO⟩ := hok _ rfl
    simp only at hp1 hp2 hO
    have hos := slA_holds 1 (intsA o)
    have hlo := hos.len
    rw [intsA_len] at hlo
    obtain ⟨q1, q2⟩ := slA_form o
    have hv := arcsV_of hO
    have h14 := fun A => Cy.H14_eq (fun _ _ _ => none) (A := A) (show frz A 4 (arcsV (arcsL T o)) = arcsV (arcsL T o) from (slA_holds 4 ((arcsL T o).map arcA)).frz 4) hv (o.length : Int)
    obtain ⟨st, hst⟩ : ∃ st, st = (lvM (o.length : Int) (arcsL T o) p).1 := ⟨_, rfl⟩
    have hl1 : lvT (lvM (o.length : Int) (arcsL T o) p) = .tup [slA 1 (intsA st), slA 1 (intsA (lvM (o.length : Int) (arcsL T o) p).2.1), .bool (lvM (o.length : Int) (arcsL T o) p).2.2] := by rw [hst]; rfl
    obtain ⟨s1, s2⟩ := slA_form st
    obtain ⟨RA, hRA⟩ : ∃ R : List Int → List Int → Arena, ∀ a b, R a b = A ++ [.row 5 false [toolA T chv], .row 4 false [zA], .row 4 false [.agg [.int .i64 p, slA 1 (intsA o), slA 1 (intsA a), slA 1 (intsA b)]]] := ⟨_, fun _ _ => rfl⟩
    have hR0 : R22 A T chv (some (p, o)) = RA [] [] := by rw [hRA]; rfl
    rw [hR0] at lp f0 l0
    have l0 : evLoad false 1 (RA [] []) (.ptr (A.length + 2) 0 0) = some (.int .i64 p) := l0
    have ra1 : ∀ a b, (RA a b)[A.length + 1]? = some (.row 4 false [zA]) := fun a b => by rw [hRA]; simp
    have ra2 : ∀ a b, (RA a b)[A.length + 2]? = some (.row 4 false [.agg [.int .i64 p, slA 1 (intsA o), slA 1 (intsA a), slA 1 (intsA b)]]) := fun a b => by rw [hRA]; simp
    have fa : ∀ j a b, j < 4 → evFieldAddr j (RA a b) (.ptr (A.length + 2) 0 0) = some (.ptr (A.length + 2) 0 j) := fun j a b hj => by simp [evFieldAddr, ra2, hj]
    have la0 : ∀ a b, evLoad false 1 (RA a b) (.ptr (A.length + 2) 0 0) = some (.int .i64 p) := fun a b => by simp [evLoad, ra2, loadElem_part]
    have la1 : ∀ a b, evLoad false 1 (RA a b) (.ptr (A.length + 2) 0 1) = some (slA 1 (intsA o)) := fun a b => by simp [evLoad, ra2, loadElem_part]
    have lall : ∀ a b, evLoad true 4 (RA a b) (.ptr (A.length + 2) 0 0) = some (.agg [.int .i64 p, slA 1 (intsA o), slA 1 (intsA a), slA 1 (intsA b)]) := fun a b => by simp [evLoad, ra2]
    have rset : ∀ a b a' b', (RA a b).set (A.length + 2) (.row 4 false [.agg [.int .i64 p, slA 1 (intsA o), slA 1 (intsA a'), slA 1 (intsA b')]]) = RA a' b' := fun a b a' b' => by
      rw [hRA, hRA, List.set_append_right _ _ (by omega), show A.length + 2 - A.length = 2 by omega]
      rfl
    have st2 : ∀ a, evStore 1 (RA [] []) (.ptr (A.length + 2) 0 2) (slA 1 (intsA a)) = some (RA a []) := fun a => by
      obtain ⟨z1, z2⟩ := slA_form a
      rw [← rset [] [] a []]
      simp [evStore, ra2, storeElem, z1, z2, -cellsOf, -AV.solid]
    have st3 : ∀ a b, evStore 1 (RA a []) (.ptr (A.length + 2) 0 3) (slA 1 (intsA b)) = some (RA a b) := fun a b => by
      obtain ⟨z1, z2⟩ := slA_form b
      rw [← rset a [] a b]
      simp [evStore, ra2, storeElem, z1, z2, -cellsOf, -AV.solid]
    obtain ⟨RB, hRB⟩ : ∃ R : List Int → List Int → Arena, ∀ a b, R a b = E22 A T chv (some ⟨p, o, a, b⟩) := ⟨_, fun _ _ => rfl⟩
    have stB : ∀ a b, evStore 4 (RA a b) (.ptr (A.length + 1) 0 0) (.agg [.int .i64 p, slA 1 (intsA o), slA 1 (intsA a), slA 1 (intsA b)]) = some (RB a b) := fun a b => by
      have : (RA a b).set (A.length + 1) (.row 4 false [.agg [.int .i64 p, slA 1 (intsA o), slA 1 (intsA a), slA 1 (intsA b)]]) = RB a b := by
        rw [hRA, hRB, List.set_append_right _ _ (by omega), show A.length + 1 - A.length = 1 by omega]
        rfl
      rw [← this]
      simp [evStore, ra1, storeElem, zA]
    have lB : ∀ a b, evLoad true 4 (RB a b) (.ptr (A.length + 1) 0 0) = some (.agg [.int .i64 p, slA 1 (intsA o), slA 1 (intsA a), slA 1 (intsA b)]) := fun a b => by
      have : (RB a b)[A.length + 1]? = some (.row 4 false [.agg [.int .i64 p, slA 1 (intsA o), slA 1 (intsA a), slA 1 (intsA b)]]) := by rw [hRB]; simp [E22, schA]
      simp [evLoad, this]
    have b1 := evEqlI p 0
    rw [decide_eq_false (by omega)] at b1
    have b2 := evGtrI p 1
    have b3 : evBin .sub (.int .i64 p) (.int .i64 1) = some (.int .i64 (p - 1)) := evSubI (by omega)
    have hsb : ∀ pr, schOf T (p, o) = ⟨p, o, st, pr⟩ ↔ pr = (if p > 1 then (lvM (o.length : Int) (arcsL T o) (p - 1)).2.1 else []) := fun pr => by
      unfold schOf
      simp only [← hst]
      constructor
      · intro h; injection h with _ _ _ h; exact h.symm
      · intro h; rw [h]
    have lp : iter (evC (envOf GC fs22) 300 lp22x0) mask22x0 300 (st22x0 (.ptr A.length 0 0) (.ptr (A.length + 1) 0 0) (.ptr (A.length + 2) 0 0) .nilS Q (.int .i64 L) (.int .i64 0)) A0 =
        some (.exit 0 [.undef, .ptr A.length 0 0, .ptr (A.length + 1) 0 0, .undef, .ptr (A.length + 2) 0 0, arcsV (arcsL T o), d6, d7, d8, .undef, .undef, Q, .int .i64 L, d13, d14, d15, d16, .undef, .undef, .undef] (RA [] [])) := lp
    have h1 := h14 (RA [] []) p
    rw [hl1] at h1
    have h2 := h14 (RA st []) (p - 1)
    obtain ⟨pr, hpr⟩ : ∃ pr, pr = (lvM (o.length : Int) (arcsL T o) (p - 1)).2.1 := ⟨_, rfl⟩
    rw [show lvT (lvM (o.length : Int) (arcsL T o) (p - 1)) = .tup [slA 1 (intsA (lvM (o.length : Int) (arcsL T o) (p - 1)).1), slA 1 (intsA pr), .bool (lvM (o.length : Int) (arcsL T o) (p - 1)).2.2] by rw [hpr]; rfl] at h2
    have k5 := st2 st
    have k7 := la0 st []
    have k8 := la1 st []
    have k9 := la1 [] []
    have f1 := fun j => fa j [] []
    have f2 := fun j => fa j st []
    obtain ⟨n0, hn0⟩ : ∃ n, n = A.length := ⟨_, rfl⟩
    obtain ⟨n1, hn1⟩ : ∃ n, n = A.length + 1 := ⟨_, rfl⟩
    obtain ⟨n2, hn2⟩ : ∃ n, n = A.length + 2 := ⟨_, rfl⟩
    rw [← hn2] at lp f0 l0 bx2 k5 k7 k8 k9
    simp only [← hn2] at f1 f2
    rw [← hn1] at lp bx1
    rw [← hn0] at lp lt bx0
    obtain ⟨W, hW⟩ : ∃ W, W = slA 1 (intsA o) := ⟨_, rfl⟩
    obtain ⟨V, hV⟩ : ∃ V, V = arcsV (arcsL T o) := ⟨_, rfl⟩
    rw [← hV] at lp h1 h2
    obtain ⟨B0, hB0⟩ : ∃ A, A = RA [] [] := ⟨_, rfl⟩
    rw [← hB0] at lp f0 l0 k5 k9 h1
    simp only [← hB0] at f1
    obtain ⟨S1, hS1⟩ : ∃ W, W = slA 1 (intsA st) := ⟨_, rfl⟩
    by_cases hp : p > 1
    · rw [decide_eq_true hp] at b2
      have hsc : (Option.map (schOf T) (some (p, o))) = some ⟨p, o, st, pr⟩ := by
        rw [Option.map_some, (hsb pr).2 (by rw [if_pos hp]; exact hpr)]
      rw [hsc, ← hRB]
      rw [show bestT (some ⟨p, o, st, pr⟩) = .tup [.agg [.int .i64 p, slA 1 (intsA o), slA 1 (intsA st), slA 1 (intsA pr)], .int .i64 0] from rfl]
      have k1 := lall st pr
      have k2 := stB st pr
      have k3 := lB st pr
      have k6 := st3 st pr
      rw [← hn2] at k1 k6
      rw [← hn1] at k2 k3
      obtain ⟨B1, hB1⟩ : ∃ A, A = RA st [] := ⟨_, rfl⟩
      rw [← hB1] at k5 k6 k7 k8 h2
      simp only [← hB1] at f2
      obtain ⟨B2, hB2⟩ : ∃ A, A = RA st pr := ⟨_, rfl⟩
      rw [← hB2] at k1 k2 k6
      obtain ⟨B3, hB3⟩ : ∃ A, A = RB st pr := ⟨_, rfl⟩
      rw [← hB3] at k2 k3 ⊢
      obtain ⟨S2, hS2⟩ : ∃ W, W = slA 1 (intsA pr) := ⟨_, rfl⟩
      rw [← hW] at k1 k2 k3 k8 k9 hlo ⊢
      rw [← hS1] at h1 k1 k2 k3 k5 ⊢
      rw [← hS2] at h2 k1 k2 k3 k6 ⊢
      obtain ⟨p1, hp1⟩ : ∃ q, q = p - 1 := ⟨_, rfl⟩
      rw [← hp1] at h2 b3
      simp [mf22, bx0, bx1, bx2, ct, lt, m14, ft, hlen, go22x0 lp, f0, f1, f2, l0, b1, b2, b3, hlo, h1, h2, k1, k2, k3, k5, k6, k7, k8, k9, -evBox, -evLoad, -evStore, -evFieldAddr, -evLenSl, -frz, -cellsOf, -evBin]
    · rw [decide_eq_false hp] at b2
      have hsc : (Option.map (schOf T) (some (p, o))) = some ⟨p, o, st, []⟩ := by
        rw [Option.map_some, (hsb []).2 (by rw [if_neg hp])]
      rw [hsc, ← hRB]
      rw [show bestT (some ⟨p, o, st, []⟩) = .tup [.agg [.int .i64 p, slA 1 (intsA o), slA 1 (intsA st), slA 1 (intsA [])], .int .i64 0] from rfl]
      have k1 := lall st []
      have k2 := stB st []
      have k3 := lB st []
      rw [← hn2] at k1
      rw [← hn1] at k2 k3
      obtain ⟨B1, hB1⟩ : ∃ A, A = RA st [] := ⟨_, rfl⟩
      rw [← hB1] at k1 k2 k5 k7
      simp only [← hB1] at f2
      obtain ⟨B3, hB3⟩ : ∃ A, A = RB st [] := ⟨_, rfl⟩
      rw [← hB3] at k2 k3 ⊢
      obtain ⟨S2, hS2⟩ : ∃ W, W = slA 1 (intsA []) := ⟨_, rfl⟩
      rw [← hW] at k1 k2 k3 k9 hlo ⊢
      rw [← hS1] at h1 k1 k2 k3 k5 ⊢
      rw [← hS2] at k1 k2 k3 ⊢
      simp [mf22, bx0, bx1, bx2, ct, lt, m14, ft, hlen, go22x0 lp, f0, f1, f2, l0, b1, b2, hlo, h1, k1, k2, k3, k5, k7, k9, -evBox, -evLoad, -evStore, -evFieldAddr, -evLenSl, -frz, -cellsOf, -evBin]
/-- of a tool that nobody writes -/
noncomputable def M22 : PModel := fun args => evP (envOf GC fs22) 300 mf22 4 args
theorem spec22 : PureSpec Try.prog GC 22 M22 := PureSpec.of_ev (E := envOf GC fs22) (envOf_sound sound22) rfl at22 comp22 4 fun _ _ h => ⟨300, h⟩
theorem M22_eq {T : Tool} {chv : AV} (hcv : SlA 2 (T.ch.map chA) chv) (hl : T.ch.length ≤ 200) : M22 [toolA T chv] = some (bestT (bestM T)) := by
  have h := H22_eq (fun _ _ _ => none) (A := []) hcv (fun X => toolA_frz (T := T) (fun A n => hcv.frz (A := A) n) _ 3) hl
  unfold H22 at h
  unfold M22 evP
  rw [h, Option.map_some]
  congr 1
  have k1 := fun A o => (slA_holds 1 (intsA o)).frz (A := A) 2
  unfold bestT
  simp only
  simp [frz, schA, k1]
end Go.Proofs.Ytemklhljjaniaaa
/-
  Cluster: Check.
-/
namespace Go.Proofs.Ytemklhljjaniaaa
open Go
open Cy (GC geq0 idxZ idxZ_some idxZ_none idxZ_any frz_i frz_b intsA_len CArc arcA arcsOf isPer ValidA okA smM smT lvM lvT arcsOf_slA VerOk RefOk Ready slA_cases)

/-- a schedule that is given -/
structure SchV (s : Sched) (ov sv pv : AV) : Prop where
  o : SlA 1 (intsA s.order) ov
  st : SlA 1 (intsA s.starts) sv
  pr : SlA 1 (intsA s.proof) pv
  per : inI s.period
  ol : s.order.length ≤ 9223372036854775807
  stl : s.starts.length ≤ 9223372036854775807
  sti : ∀ z ∈ s.starts, inI z
  prl : s.proof.length ≤ 9223372036854775807
  pri : ∀ z ∈ s.proof, inI z
def Chk (T : Tool) (s : Sched) : Prop := s.order ∈ ordersM T ∧ (1 ≤ s.period ∧ s.period ≤ 1000000) ∧ VerOk (s.order.length : Int) (arcsL T s.order) s.period s.starts ∧
  (if s.period = 1 then s.proof = [] else RefOk (s.order.length : Int) (arcsL T s.order) (s.period - 1) s.proof)
noncomputable def fs26 : List (FuncId × HModel) := [(19, pureFH 4 M19), (32, pureH 4 Cy.M19), (51, pureH 4 Cy.M21)]
@[simp] theorem fs26_19 : lookM fs26 19 = some (pureFH 4 M19) := rfl
@[simp] theorem fs26_32 : lookM fs26 32 = some (pureH 4 Cy.M19) := rfl
@[simp] theorem fs26_51 : lookM fs26 51 = some (pureH 4 Cy.M21) := rfl
theorem sound26 : ∀ f M, lookM fs26 f = some M → FnSpecY Try.prog GC f M := lookM_cons (FnSpecY.of_pureF spec19 4) (lookM_cons (FnSpecY.of_pure Cy.spec19 4) (lookM_cons (FnSpecY.of_pure Cy.spec21 4) lookM_nil))
noncomputable def M26 : PModel := fun args => evP (envOf GC fs26) 0 mf26 4 args
theorem spec26 : PureSpec Try.prog GC 26 M26 := PureSpec.of_ev (E := envOf GC fs26) (envOf_sound sound26) rfl at26 comp26 4 fun _ _ h => ⟨0, h⟩
open Classical in
set_option maxRecDepth 100000 in
set_option maxHeartbeats 4000000 in
theorem M26_eq {T : Tool} {chv : AV} (hcv : SlA 2 (T.ch.map chA) chv) (hl : T.ch.length ≤ 200) {s : Sched} {ov sv pv : AV} (hs : SchV s ov sv pv) :
    M26 [toolA T chv, .agg [.int .i64 s.period, ov, sv, pv]] = some (.bool (decide (Chk T s))) := by
  have m19 := M19_eq hcv hl hs.o
  have ft := fun A => toolA_frz (T := T) (fun A n => hcv.frz (A := A) n) A 3
  have fo : ∀ A n, frz A n ov = ov := fun A n => hs.o.frz n
  have fs : ∀ A n, frz A n sv = sv := fun A n => hs.st.frz n
  have fp : ∀ A n, frz A n pv = pv := fun A n => hs.pr.frz n
  have hlo := hs.o.len
  rw [intsA_len] at hlo
  have hlp := hs.pr.len
  rw [intsA_len] at hlp
  have iv1 : intsOf sv = some s.starts := intsOf_of hs.st hs.stl hs.sti
  have iv2 : intsOf pv = some s.proof := intsOf_of hs.pr hs.prl hs.pri
  obtain ⟨p, o, st, pr⟩ := s
  simp only at m19 hlo hlp iv1 iv2
  have hper := hs.per
  simp only [inI] at hper
  have q1 : ov.solid = true ∧ cellsOf ov = [ov] := by rcases hs.o with ⟨rfl, _⟩ | rfl <;> exact ⟨rfl, rfl⟩
  have q2 : sv.solid = true ∧ cellsOf sv = [sv] := by rcases hs.st with ⟨rfl, _⟩ | rfl <;> exact ⟨rfl, rfl⟩
  have q3 : pv.solid = true ∧ cellsOf pv = [pv] := by rcases hs.pr with ⟨rfl, _⟩ | rfl <;> exact ⟨rfl, rfl⟩
  have bx0 : evBox 5 (toolA T chv) [] = some (.ptr 0 0 0, [.row 5 false [toolA T chv]]) := rfl
  have bx1 : ∀ t, evBox 4 (.agg [.int .i64 p, ov, sv, pv]) [.row 5 false [t]] = some (.ptr 1 0 0, [.row 5 false [t], .row 4 false [.agg [.int .i64 p, ov, sv, pv]]]) := fun t => rfl
  have ct : (cellsOf (toolA T chv)).length = 5 := rfl
  have ca : (cellsOf (.agg [.int .i64 p, ov, sv, pv])).length = 4 := rfl
  obtain ⟨A0, hA0⟩ : ∃ A : Arena, A = [.row 5 false [toolA T chv], .row 4 false [.agg [.int .i64 p, ov, sv, pv]]] := ⟨_, rfl⟩
  have lt : evLoad true 5 A0 (.ptr 0 0 0) = some (toolA T chv) := by rw [hA0]; rfl
  have fa : ∀ j, j < 4 → evFieldAddr j A0 (.ptr 1 0 0) = some (.ptr 1 0 j) := fun j hj => by rw [hA0]; simp [evFieldAddr, hj]
  have l0 : evLoad false 1 A0 (.ptr 1 0 0) = some (.int .i64 p) := by rw [hA0]; rfl
  have l1 : evLoad false 1 A0 (.ptr 1 0 1) = some ov := by rw [hA0]; rfl
  have l2 : evLoad false 1 A0 (.ptr 1 0 2) = some sv := by rw [hA0]; rfl
  have l3 : evLoad false 1 A0 (.ptr 1 0 3) = some pv := by rw [hA0]; rfl
  obtain ⟨t, ht⟩ : ∃ t, t = toolA T chv := ⟨_, rfl⟩
  rw [← ht] at m19 ft bx0 ct lt hA0 ⊢
  have bx1 := bx1 t
  rw [← hA0] at bx1
  unfold M26
  rw [evP_run _ _ rfl]
  by_cases hO : o ∈ ordersM T
  rotate_left
  · rw [decide_eq_false (fun h => hO h.1)]
    have e0 : arcsM T o = none := if_neg hO
    rw [e0] at m19
    have m19 : M19 [t, ov] = some (.tup [.nilS, .int .i64 130]) := m19
    have b1 := evNeqI 130 0
    rw [decide_eq_true (by omega)] at b1
    simp [mf26, bx0, bx1, ct, ca, lt, m19, ft, fo, hlo, fa, l1, b1, -evBox, -evLoad, -evFieldAddr, -evLenSl, -frz, -cellsOf, -evBin, frz_b]
  rw [arcsM_some hO] at m19
  have m19 : M19 [t, ov] = some (.tup [arcsV (arcsL T o), .int .i64 0]) := m19
  have b1 := evNeqI 0 0
  rw [decide_eq_false (by omega)] at b1
  have b2 := evLssI p 1
  by_cases hp1 : p < 1
  · rw [decide_eq_false (fun h => by have := h.2.1.1; simp only at this; omega)]
    rw [decide_eq_true hp1] at b2
    simp [mf26, bx0, bx1, ct, ca, lt, m19, ft, fo, hlo, fa, l0, l1, b1, b2, -evBox, -evLoad, -evFieldAddr, -evLenSl, -frz, -cellsOf, -evBin, frz_b]
  rw [decide_eq_false hp1] at b2
  have b3 := evGtrI p 1000000
  by_cases hp2 : p > 1000000
  · rw [decide_eq_false (fun h => by have := h.2.1.2; simp only at this; omega)]
    rw [decide_eq_true hp2] at b3
    simp [mf26, bx0, bx1, ct, ca, lt, m19, ft, fo, hlo, fa, l0, l1, b1, b2, b3, -evBox, -evLoad, -evFieldAddr, -evLenSl, -frz, -cellsOf, -evBin, frz_b]
  rw [decide_eq_false hp2] at b3
  have mv : Cy.M19 [.int .i64 (o.length : Int), arcsV (arcsL T o), .int .i64 p, sv] = some (.bool (decide (VerOk (o.length : Int) (arcsL T o) p st))) := by
    simp only [Cy.M19, arcsV_of hO, iv1]
  have mr : ∀ p, Cy.M21 [.int .i64 (o.length : Int), arcsV (arcsL T o), .int .i64 p, pv] = some (.bool (decide (RefOk (o.length : Int) (arcsL T o) p pr))) := fun p => by
    simp only [Cy.M21, arcsV_of hO, iv2]
  have fa' : ∀ A n, frz A n (arcsV (arcsL T o)) = arcsV (arcsL T o) := fun A n => (slA_holds 4 _).frz n
  obtain ⟨V, hV⟩ : ∃ V, V = arcsV (arcsL T o) := ⟨_, rfl⟩
  rw [← hV] at m19 mv fa'
  by_cases hver : VerOk (o.length : Int) (arcsL T o) p st
  rotate_left
  · rw [decide_eq_false hver] at mv
    rw [decide_eq_false (fun h => hver h.2.2.1)]
    simp [mf26, bx0, bx1, ct, ca, lt, m19, ft, fo, fs, fa', frz_i, mv, hlo, fa, l0, l1, l2, b1, b2, b3, -evBox, -evLoad, -evFieldAddr, -evLenSl, -frz, -cellsOf, -evBin, frz_b]
  rw [decide_eq_true hver] at mv
  have b4 := evEqlI p 1
  by_cases hp : p = 1
  · rw [decide_eq_true hp] at b4
    have b5 : evBin .eql (.int .i64 (pr.length : Int)) (.int .i64 0) = some (.bool (decide (pr = []))) := by
      rw [evEqlI]
      congr 2
      exact decide_eq_decide.2 ⟨fun h => List.length_eq_zero_iff.1 (by omega), fun h => by rw [h]; rfl⟩
    have hc : Chk T ⟨p, o, st, pr⟩ ↔ pr = [] := by
      constructor
      · intro h
        have := h.2.2.2
        simp only at this
        rwa [if_pos hp] at this
      · intro h
        refine ⟨hO, ⟨by simp only; omega, by simp only; omega⟩, hver, ?_⟩
        simp only
        rw [if_pos hp]; exact h
    rw [decide_eq_decide.2 hc]
    obtain ⟨d, hd⟩ : ∃ d, d = decide (pr = []) := ⟨_, rfl⟩
    rw [← hd] at b5 ⊢
    simp [mf26, bx0, bx1, ct, ca, lt, m19, ft, fo, fs, fa', frz_i, mv, hlo, hlp, fa, l0, l1, l2, l3, b1, b2, b3, b4, b5, frz_b, -evBox, -evLoad, -evFieldAddr, -evLenSl, -frz, -cellsOf, -evBin]
  · rw [decide_eq_false hp] at b4
    have b6 : evBin .sub (.int .i64 p) (.int .i64 1) = some (.int .i64 (p - 1)) := evSubI (by omega)
    have hc : Chk T ⟨p, o, st, pr⟩ ↔ RefOk (o.length : Int) (arcsL T o) (p - 1) pr := by
      constructor
      · intro h
        have := h.2.2.2
        simp only at this
        rwa [if_neg hp] at this
      · intro h
        refine ⟨hO, ⟨by simp only; omega, by simp only; omega⟩, hver, ?_⟩
        simp only
        rw [if_neg hp]; exact h
    rw [decide_eq_decide.2 hc]
    have mr := mr (p - 1)
    rw [← hV] at mr
    obtain ⟨d, hd⟩ : ∃ d, d = decide (RefOk (o.length : Int) (arcsL T o) (p - 1) pr) := ⟨_, rfl⟩
    rw [← hd] at mr ⊢
    obtain ⟨p1, hp1'⟩ : ∃ q, q = p - 1 := ⟨_, rfl⟩
    rw [← hp1'] at mr b6
    simp [mf26, bx0, bx1, ct, ca, lt, m19, ft, fo, fs, fp, fa', frz_i, mv, mr, hlo, fa, l0, l1, l2, l3, b1, b2, b3, b4, b6, frz_b, -evBox, -evLoad, -evFieldAddr, -evLenSl, -frz, -cellsOf, -evBin]
end Go.Proofs.Ytemklhljjaniaaa
/-
  Cluster: Make, pick; equality of arcs.
-/
namespace Go.Proofs.Ytemklhljjaniaaa
open Go
open Cy (GC geq0 idxZ idxZ_some idxZ_none idxZ_any frz_i frz_b intsA_len CArc arcA arcsOf isPer ValidA okA smM smT lvM lvT arcsOf_slA VerOk RefOk Ready slA_cases M12 M12_eq)

/-! ### pick -/
theorem ev33 (E : Env) (a n : Int) (ha : inI a) (hn : 0 < n) : evP E 0 mf33 1 [.int .i64 a, .int .i64 n] = some (.int .i64 (pick a n)) := by
  have h3 : n ≠ 0 := by omega
  rw [evP_run _ _ rfl]
  by_cases h : a < 0
  · have h1 : IntKind.i64.wrap (a + 1) = a + 1 := wrapI (by unfold inI at *; omega)
    have h2 : IntKind.i64.wrap (-(a + 1)) = -(a + 1) := wrapI (by unfold inI at *; omega)
    simp [mf33, h, h1, h2, h3, pick]
  · simp [mf33, h, h3, pick]
theorem spec33 : PureSpec Try.prog GC 33 M12 := by
  refine PureSpec.of_ev (E := envOf GC []) (envOf_sound lookM_nil) rfl at33 comp33 1 ?_
  intro args r h
  unfold M12 at h
  split at h
  · simp only [Option.ite_none_right_eq_some, Option.some.injEq] at h
    obtain ⟨⟨h1, h2⟩, rfl⟩ := h
    exact ⟨0, ev33 _ _ _ h1 h2⟩
  · cases h

/-! ### Make -/
structure X5 where
  a : Int
  b : Int
  c : Int
  d : Int
  e : Int
def x5A (x : X5) : AV := .agg [.int .i64 x.a, .int .i64 x.b, .int .i64 x.c, .int .i64 x.d, .int .i64 x.e]
def X5.inR (x : X5) : Prop := inI x.a ∧ inI x.b ∧ inI x.c ∧ inI x.d ∧ inI x.e
def yOf (x : X5) (ys : List (Int × Int)) (i : Nat) : Int × Int := if i < ys.length then ys.getD i (0, 0) else (x.e, x.e)
def chOf (x : X5) (ys : List (Int × Int)) (i : Nat) : Int × Int := (pick (yOf x ys i).1 60, pick (yOf x ys i).2 40)
def nOf (ys : List (Int × Int)) : Nat := max 1 (min ys.length 4)
def makeT (x : X5) (ys : List (Int × Int)) : Tool := ⟨(List.range (nOf ys)).map (chOf x ys), 1 + pick x.a 5, 1 + pick x.b 5, pick x.c 9, 1 + pick x.d 2⟩
theorem make_valid (x : X5) (ys : List (Int × Int)) : ValidC (makeT x ys) := by
  have h1 := pick_range x.a 5 (by omega)
  have h2 := pick_range x.b 5 (by omega)
  have h3 := pick_range x.c 9 (by omega)
  have h4 := pick_range x.d 2 (by omega)
  have hn : (makeT x ys).ch.length = nOf ys := by simp [makeT]
  refine ⟨fun c hc => ?_, ⟨⟨?_, ?_⟩, ⟨?_, ?_⟩, ?_, ?_⟩, ?_, ?_, ?_⟩
  · obtain ⟨i, _, rfl⟩ := List.mem_map.1 hc
    have k1 := pick_range (yOf x ys i).1 60 (by omega)
    have k2 := pick_range (yOf x ys i).2 40 (by omega)
    unfold okCh chOf
    simp only
    omega
  all_goals first | (rw [hn]; unfold nOf; omega) | (simp only [makeT]; omega)
/-- what Make has under way -/
def chsV (A : Arena) (v : AV) (xs : List (Int × Int)) : Prop := (v = .nilS ∧ xs = []) ∨ ∃ id gr, v = .sl id 0 xs.length ∧ xs ≠ [] ∧ 2 < id ∧ A[id]? = some (.row 2 gr (xs.map chA))
structure I13 (A : Arena) (x : X5) (xs : List (Int × Int)) (p q r s : Int) : Prop where
  x : A[0]? = some (.row 5 false [x5A x])
  o : A[1]? = some (.row 5 false [.agg [.nilS, .int .i64 0, .int .i64 0, .int .i64 0, .int .i64 0]])
  c : ∃ v, A[2]? = some (.row 5 false [.agg [v, .int .i64 p, .int .i64 q, .int .i64 r, .int .i64 s]]) ∧ chsV A v xs
noncomputable def fs13 : List (FuncId × HModel) := [(33, pureH 4 M12)]
@[simp] theorem fs13_33 : lookM fs13 33 = some (pureH 4 M12) := rfl
theorem sound13 : ∀ f M, lookM fs13 f = some M → FnSpecY Try.prog GC f M := lookM_cons (FnSpecY.of_pure spec33 4) lookM_nil
theorem evLoad_top {A : Arena} {id i : Nat} {k : Nat} {es : List AV} {x : AV} (h : A[id]? = some (.row k false [.agg es])) (hx : es[i]? = some x) : evLoad false 1 A (.ptr id 0 i) = some x := by
  simp [evLoad, h, loadElem_part, hx]
set_option maxRecDepth 100000 in
set_option maxHeartbeats 4000000 in
theorem round13 {A : Arena} {x : X5} (hx : x.inR) {ys : List (Int × Int)} (hys : ∀ y ∈ ys, inI y.1 ∧ inI y.2) {yv : AV} (hy : SlA 2 (ys.map chA) yv) {xs : List (Int × Int)} {p q r s : Int} (hI : I13 A x xs p q r s) {i : Nat} (hi : i < nOf ys) (hxl : xs.length ≤ 100) :
    ∃ B, run (envOf GC fs13) 300 [.code lp13x0] (st13x0 yv (.ptr 0 0 0) (.ptr 1 0 0) (.ptr 2 0 0) (.int .i64 (i : Int))) A = some (.normal (st13x0 yv (.ptr 0 0 0) (.ptr 1 0 0) (.ptr 2 0 0) (.int .i64 ((i + 1 : Nat) : Int))) B) ∧ I13 B x (xs ++ [chOf x ys i]) p q r s := by
  obtain ⟨h0, h1, v, h2, hv⟩ := hI
  have n0 := (List.getElem?_eq_some_iff.1 h0).1
  have n1 := (List.getElem?_eq_some_iff.1 h1).1
  have n2 := (List.getElem?_eq_some_iff.1 h2).1
  have hlen := hy.len
  rw [List.length_map] at hlen
  have hyl : ∀ a b : Nat, evMin2 false (.int .i64 (a : Int)) (.int .i64 (b : Int)) = some (.int .i64 ((min a b : Nat) : Int)) := fun a b => min2_nat a b _ _
  have b0 : evMinL false (.int .i64 (ys.length : Int)) [.int .i64 4] = some (.int .i64 ((min ys.length 4 : Nat) : Int)) := by
    have := min2_nat ys.length 4 .i64 .i64
    simp only [evMinL]
    rw [show (.int .i64 4 : AV) = .int .i64 ((4 : Nat) : Int) from rfl, this]
  have b1 : evMinL true (.int .i64 1) [.int .i64 ((min ys.length 4 : Nat) : Int)] = some (.int .i64 (nOf ys : Int)) := by
    have := max2_nat 1 (min ys.length 4) .i64 .i64
    simp only [evMinL]
    rw [show (.int .i64 1 : AV) = .int .i64 ((1 : Nat) : Int) from rfl, this]
    rfl
  have b2 := lt_nat i (nOf ys) .i64
  rw [decide_eq_true hi] at b2
  have b3 := lt_nat i ys.length .i64
  have b4 := add1_nat i (by unfold nOf at hi; omega)
  have xi : ∀ X, evIndexArr 5 1 (A ++ X) (.ptr 0 0 0) (.int .i64 4) = some (.ptr 0 0 4) := fun X => by
    have : (A ++ X)[0]? = some (.row 5 false [x5A x]) := by rw [List.getElem?_append_left n0]; exact h0
    simp [evIndexArr, this]
  have xi0 := xi []
  rw [List.append_nil] at xi0
  have xl : ∀ X, evLoad false 1 (A ++ X) (.ptr 0 0 4) = some (.int .i64 x.e) := fun X => evLoad_top (es := [.int .i64 x.a, .int .i64 x.b, .int .i64 x.c, .int .i64 x.d, .int .i64 x.e]) (k := 5) (by rw [List.getElem?_append_left n0]; exact h0) rfl
  have xl0 := xl []
  rw [List.append_nil] at xl0
  obtain ⟨y, hyo⟩ : ∃ y, y = yOf x ys i := ⟨_, rfl⟩
  have hyr : inI y.1 ∧ inI y.2 := by
    rw [hyo]; unfold yOf
    split
    · rename_i h
      rw [List.getD_eq_getElem?_getD, List.getElem?_eq_getElem h]
      exact hys _ (List.getElem_mem h)
    · exact ⟨hx.2.2.2.2, hx.2.2.2.2⟩
  have bx : ∀ z, evBox 2 (.agg [.int .i64 z, .int .i64 z]) A = some (.ptr A.length 0 0, A ++ [.row 2 false [.agg [.int .i64 z, .int .i64 z]]]) := fun z => rfl
  have s0 : ∀ a b c d, evStore 2 (A ++ [.row 2 false [.agg [.int .i64 a, .int .i64 b]]]) (.ptr A.length 0 0) (.agg [.int .i64 c, .int .i64 d]) = some (A ++ [.row 2 false [.agg [.int .i64 c, .int .i64 d]]]) := fun a b c d => by simp [evStore, storeElem]
  have i0 : ∀ a b : Int, evIndexArr 2 1 (A ++ [.row 2 false [.agg [.int .i64 a, .int .i64 b]]]) (.ptr A.length 0 0) (.int .i64 0) = some (.ptr A.length 0 0) := fun a b => by simp [evIndexArr]
  have i1 : ∀ a b : Int, evIndexArr 2 1 (A ++ [.row 2 false [.agg [.int .i64 a, .int .i64 b]]]) (.ptr A.length 0 0) (.int .i64 1) = some (.ptr A.length 0 1) := fun a b => by simp [evIndexArr]
  have l0 : ∀ a b : Int, evLoad false 1 (A ++ [.row 2 false [.agg [.int .i64 a, .int .i64 b]]]) (.ptr A.length 0 0) = some (.int .i64 a) := fun a b => top_ld (es := [.int .i64 a, .int .i64 b]) (k := 2) rfl rfl
  have l1 : ∀ a b : Int, evLoad false 1 (A ++ [.row 2 false [.agg [.int .i64 a, .int .i64 b]]]) (.ptr A.length 0 1) = some (.int .i64 b) := fun a b => top_ld (es := [.int .i64 a, .int .i64 b]) (k := 2) rfl rfl
  have c0 : ∀ X, evFieldAddr 0 (A ++ X) (.ptr 2 0 0) = some (.ptr 2 0 0) := fun X => by
    have : (A ++ X)[2]? = some (.row 5 false [.agg [v, .int .i64 p, .int .i64 q, .int .i64 r, .int .i64 s]]) := by rw [List.getElem?_append_left n2]; exact h2
    simp [evFieldAddr, this]
  have cl : ∀ X, evLoad false 1 (A ++ X) (.ptr 2 0 0) = some v := fun X => evLoad_top (es := [v, .int .i64 p, .int .i64 q, .int .i64 r, .int .i64 s]) (k := 5) (by rw [List.getElem?_append_left n2]; exact h2) rfl
  have m1 := M12_eq hyr.1 (n := 60) (by omega)
  have m2 := M12_eq hyr.2 (n := 40) (by omega)
  have hch : chOf x ys i = (pick y.1 60, pick y.2 40) := by rw [hyo]; rfl
  rw [hch]
  obtain ⟨P1, hP1⟩ : ∃ z, z = pick y.1 60 := ⟨_, rfl⟩
  obtain ⟨P2, hP2⟩ : ∃ z, z = pick y.2 40 := ⟨_, rfl⟩
  rw [← hP1] at m1 ⊢
  rw [← hP2] at m2 ⊢
  -- the append
  obtain ⟨A1, hA1⟩ : ∃ X, X = A ++ [Ent.row 2 false [.agg [.int .i64 y.1, .int .i64 y.2]]] := ⟨_, rfl⟩
  have hl1 : A1.length = A.length + 1 := by rw [hA1]; simp
  have hA1o : ∀ j, j < A.length → A1[j]? = A[j]? := fun j hj => by rw [hA1, List.getElem?_append_left hj]
  obtain ⟨v', A2, e1, e2, e3, e4, e5⟩ : ∃ v' A2, evAppend 2 16 A1 v (.fs 2 [.agg [.int .i64 P1, .int .i64 P2]]) = some (v', A2) ∧ chsV A2 v' (xs ++ [(P1, P2)]) ∧ (∀ j, j ≤ 2 → A2[j]? = A[j]?) ∧ (∃ a b, v' = .sl a 0 b ∧ 2 < a) ∧ 2 < A2.length := by
    rcases hv with ⟨rfl, rfl⟩ | ⟨id, gr, rfl, hne, hid, hrow⟩
    · refine ⟨.sl A1.length 0 1, A1 ++ [.row 2 false [chA (P1, P2)]], by simp [evAppend, chA], .inr ⟨A1.length, false, rfl, by simp, by omega, by simp⟩, fun j hj => ?_, ⟨_, _, rfl, by omega⟩, by simp; omega⟩
      rw [List.getElem?_append_left (by omega), hA1o j (by omega)]
    · have hidl := (List.getElem?_eq_some_iff.1 hrow).1
      have hz : xs.length ≠ 0 := fun e => hne (List.length_eq_zero_iff.1 e)
      have hb : (xs.length + 1) * 16 ≤ 140737488355328 := by omega
      have hrow1 : A1[id]? = some (.row 2 gr (xs.map chA)) := by rw [hA1o id hidl]; exact hrow
      refine ⟨.sl id 0 (xs.length + 1), A1.set id (.row 2 true (xs.map chA ++ [chA (P1, P2)])), by simp [evAppend, hrow1, hz, hb, chA], .inr ⟨id, true, by simp, by simp, hid, ?_⟩, fun j hj => ?_, ⟨_, _, rfl, hid⟩, by simp; omega⟩
      · rw [List.getElem?_set_self (by omega), List.map_append]; rfl
      · rw [List.getElem?_set_ne (by omega), hA1o j (by omega)]
  obtain ⟨ia, ib, rfl, hia⟩ := e4
  have c2 : evFieldAddr 0 A2 (.ptr 2 0 0) = some (.ptr 2 0 0) := by
    have := e3 2 (by omega)
    rw [h2] at this
    simp [evFieldAddr, this]
  have st : evStore 1 A2 (.ptr 2 0 0) (.sl ia 0 ib) = some (A2.set 2 (.row 5 false [.agg [.sl ia 0 ib, .int .i64 p, .int .i64 q, .int .i64 r, .int .i64 s]])) := by
    have := e3 2 (by omega)
    rw [h2] at this
    simp [evStore, this, storeElem]
  refine ⟨A2.set 2 (.row 5 false [.agg [.sl ia 0 ib, .int .i64 p, .int .i64 q, .int .i64 r, .int .i64 s]]), ?_, ⟨by rw [List.getElem?_set_ne (by omega), e3 0 (by omega)]; exact h0, by rw [List.getElem?_set_ne (by omega), e3 1 (by omega)]; exact h1, .sl ia 0 ib, by rw [List.getElem?_set_self e5], ?_⟩⟩
  rotate_left
  · rcases e2 with ⟨h, _⟩ | ⟨id, gr, e2, e6, e7, e8⟩
    · cases h
    · exact .inr ⟨id, gr, e2, e6, e7, by rw [List.getElem?_set_ne (by omega)]; exact e8⟩
  obtain ⟨B, hB⟩ : ∃ X, X = A2.set 2 (.row 5 false [.agg [.sl ia 0 ib, .int .i64 p, .int .i64 q, .int .i64 r, .int .i64 s]]) := ⟨_, rfl⟩
  rw [← hB] at st ⊢
  have c1 := c0 [Ent.row 2 false [.agg [.int .i64 y.1, .int .i64 y.2]]]
  have cl1 := cl [Ent.row 2 false [.agg [.int .i64 y.1, .int .i64 y.2]]]
  have hsl : evBuildF 2 [.agg [.int .i64 P1, .int .i64 P2]] = some (.fs 2 [.agg [.int .i64 P1, .int .i64 P2]]) := rfl
  obtain ⟨N, hN⟩ : ∃ n, n = A.length := ⟨_, rfl⟩
  obtain ⟨ii, hii⟩ : ∃ n, n = i + 1 := ⟨_, rfl⟩
  rw [← hii] at b4 ⊢
  obtain ⟨nn, hnn⟩ : ∃ n, n = nOf ys := ⟨_, rfl⟩
  rw [← hnn] at b1 b2
  obtain ⟨mm, hmm⟩ : ∃ n, n = min ys.length 4 := ⟨_, rfl⟩
  rw [← hmm] at b0 b1
  by_cases hc : i < ys.length
  · rw [decide_eq_true hc] at b3
    have hye : y = ys[i] := by
      rw [hyo, yOf, if_pos hc, List.getD_eq_getElem?_getD, List.getElem?_eq_getElem hc]; rfl
    have yx : ∀ A, evIndexSl 2 A yv (.int .i64 (i : Int)) = some (.fp [.int .i64 y.1, .int .i64 y.2]) := fun A => by
      rw [hye]
      exact hy.index (A := A) (x := chA ys[i]) (by simp [hc]) rfl (by omega) .i64
    have k1 := i0 y.1 y.2
    have k2 := i1 y.1 y.2
    have k3 := l0 y.1 y.2
    have k4 := l1 y.1 y.2
    have k5 := s0 x.e x.e y.1 y.2
    rw [← hA1] at c1 cl1 k1 k2 k3 k4 k5
    have bx := bx 0
    have k6 := s0 0 0 x.e x.e
    rw [← hN] at k1 k2 k3 k4 k5 k6 bx
    obtain ⟨A0, hA0⟩ : ∃ X, X = A ++ [Ent.row 2 false [.agg [.int .i64 0, .int .i64 0]]] := ⟨_, rfl⟩
    rw [← hA0] at bx k6
    obtain ⟨A3, hA3⟩ : ∃ X, X = A ++ [Ent.row 2 false [.agg [.int .i64 x.e, .int .i64 x.e]]] := ⟨_, rfl⟩
    rw [← hA3] at k5 k6
    simp [lp13x0, hlen, b0, b1, b2, b3, b4, xi0, xl0, bx, yx, k1, k2, k3, k4, k5, k6, m1, m2, hsl, c1, cl1, e1, c2, st, frz_i, -evMinL, -evMin2, -evBin, -evLoad, -evStore, -evFieldAddr, -evIndexSl, -evLenSl, -evBuildF, -evBox, -frz]
  · rw [decide_eq_false hc] at b3
    have hye : y = (x.e, x.e) := by rw [hyo, yOf, if_neg hc]
    have k1 := i0 y.1 y.2
    have k2 := i1 y.1 y.2
    have k3 := l0 y.1 y.2
    have k4 := l1 y.1 y.2
    rw [← hA1] at c1 cl1 k1 k2 k3 k4
    have bx := bx 0
    have k6 := s0 0 0 y.1 y.2
    rw [← hN] at k1 k2 k3 k4 k6 bx
    obtain ⟨A0, hA0⟩ : ∃ X, X = A ++ [Ent.row 2 false [.agg [.int .i64 0, .int .i64 0]]] := ⟨_, rfl⟩
    rw [← hA0] at bx k6
    rw [← hA1] at k6
    rw [hye] at k3 k4 k6 m1 m2
    simp only at k3 k4 k6 m1 m2
    simp [lp13x0, hlen, b0, b1, b2, b3, b4, xi0, xl0, bx, k1, k2, k3, k4, k6, m1, m2, hsl, c1, cl1, e1, c2, st, frz_i, -evMinL, -evMin2, -evBin, -evLoad, -evStore, -evFieldAddr, -evIndexSl, -evLenSl, -evBuildF, -evBox, -frz]

/-! ### Make as a whole -/
theorem loop13 {x : X5} (hx : x.inR) {ys : List (Int × Int)} (hys : ∀ y ∈ ys, inI y.1 ∧ inI y.2) {yv : AV} (hy : SlA 2 (ys.map chA) yv) {p q r s : Int} : ∀ (c i : Nat) (A : Arena) (m : Nat), i + c = nOf ys → I13 A x ((List.range i).map (chOf x ys)) p q r s → c < m →
    ∃ B, iter (evC (envOf GC fs13) 300 lp13x0) mask13x0 m (st13x0 yv (.ptr 0 0 0) (.ptr 1 0 0) (.ptr 2 0 0) (.int .i64 (i : Int))) A = some (.exit 0 ((st13x0 yv (.ptr 0 0 0) (.ptr 1 0 0) (.ptr 2 0 0) (.int .i64 (nOf ys : Int))).set 7 (.bool false)) B) ∧ I13 B x ((List.range (nOf ys)).map (chOf x ys)) p q r s := by
  have hn4 : nOf ys ≤ 4 := by unfold nOf; omega
  intro c
  induction c with
  | zero =>
    intro i A m hi hI hm
    obtain ⟨m, rfl⟩ : ∃ j, m = j + 1 := ⟨m - 1, by omega⟩
    obtain rfl : i = nOf ys := by omega
    refine ⟨A, ?_, hI⟩
    have hlen := hy.len
    rw [List.length_map] at hlen
    have b0 : evMinL false (.int .i64 (ys.length : Int)) [.int .i64 4] = some (.int .i64 ((min ys.length 4 : Nat) : Int)) := by
      have := min2_nat ys.length 4 .i64 .i64
      simp only [evMinL]
      rw [show (.int .i64 4 : AV) = .int .i64 ((4 : Nat) : Int) from rfl, this]
    have b1 : evMinL true (.int .i64 1) [.int .i64 ((min ys.length 4 : Nat) : Int)] = some (.int .i64 (nOf ys : Int)) := by
      have := max2_nat 1 (min ys.length 4) .i64 .i64
      simp only [evMinL]
      rw [show (.int .i64 1 : AV) = .int .i64 ((1 : Nat) : Int) from rfl, this]
      rfl
    have b2 := lt_nat (nOf ys) (nOf ys) .i64
    rw [decide_eq_false (by omega)] at b2
    obtain ⟨mm, hmm⟩ : ∃ n, n = min ys.length 4 := ⟨_, rfl⟩
    rw [← hmm] at b0 b1
    rw [iter_succ, cl13x0]
    simp [lp13x0, hlen, b0, b1, b2, -evBin, -evMinL, -evMin2, -evLenSl]
  | succ c ih =>
    intro i A m hi hI hm
    obtain ⟨m, rfl⟩ : ∃ j, m = j + 1 := ⟨m - 1, by omega⟩
    obtain ⟨B, h1, h2⟩ := round13 hx hys hy hI (i := i) (by omega) (by simp; omega)
    have e : (List.range i).map (chOf x ys) ++ [chOf x ys i] = (List.range (i + 1)).map (chOf x ys) := by rw [List.range_succ, List.map_append]; rfl
    rw [e] at h2
    obtain ⟨C, h3, h4⟩ := ih (i + 1) B m (by omega) h2 (by omega)
    refine ⟨C, ?_, h4⟩
    rw [iter_succ, cl13x0, h1]
    exact h3
noncomputable def M13 : PModel := fun args => evF (envOf GC fs13) 300 mf13 4 args
theorem spec13 : PureSpecF Try.prog GC 13 M13 := PureSpecF.of_ev (E := envOf GC fs13) (envOf_sound sound13) rfl at13 comp13 4 fun _ _ h => ⟨300, h⟩
theorem chsV_fin {A : Arena} {v : AV} {xs : List (Int × Int)} (h : chsV A v xs) (k : Nat) : frz A (k + 3) v = slA 2 (xs.map chA) ∧ freshB A (k + 3) v = true := by
  rcases h with ⟨rfl, rfl⟩ | ⟨id, gr, rfl, hne, _, hr⟩
  · exact ⟨rfl, rfl⟩
  · have e : ((xs.map chA).drop 0).take xs.length = xs.map chA := by
      rw [List.drop_zero]
      conv => lhs; rw [show xs.length = (xs.map chA).length by simp]
      rw [List.take_length]
    have hm : (xs.map chA).map (frz A (k + 2)) = xs.map chA := by
      rw [List.map_map]
      exact List.map_congr_left fun x _ => by simp [chA, frz]
    constructor
    · rw [show k + 3 = (k + 2) + 1 from rfl]
      simp only [frz, hr]
      rw [e, hm]
      cases xs with
      | nil => exact absurd rfl hne
      | cons x r => rfl
    · rw [show k + 3 = (k + 2) + 1 from rfl]
      simp only [freshB, hr]
      rw [e, List.all_eq_true]
      intro y hy
      obtain ⟨x, _, rfl⟩ := List.mem_map.1 hy
      simp [chA, freshB]
def mkA (x : X5) (ys : List (Int × Int)) : AV := toolA (makeT x ys) (slA 2 ((makeT x ys).ch.map chA))
set_option maxRecDepth 100000 in
set_option maxHeartbeats 1000000 in
theorem M13_eq {x : X5} (hx : x.inR) {ys : List (Int × Int)} (hys : ∀ y ∈ ys, inI y.1 ∧ inI y.2) {yv : AV} (hy : SlA 2 (ys.map chA) yv) : M13 [x5A x, yv] = some (mkA x ys) := by
  have p1 := pick_range x.a 5 (by omega)
  have p2 := pick_range x.b 5 (by omega)
  have p4 := pick_range x.d 2 (by omega)
  have m1 := M12_eq hx.1 (n := 5) (by omega)
  have m2 := M12_eq hx.2.1 (n := 5) (by omega)
  have m3 := M12_eq hx.2.2.1 (n := 9) (by omega)
  have m4 := M12_eq hx.2.2.2.1 (n := 2) (by omega)
  have b1 : evBin .add (.int .i64 1) (.int .i64 (pick x.a 5)) = some (.int .i64 (1 + pick x.a 5)) := evAddI (by omega)
  have b2 : evBin .add (.int .i64 1) (.int .i64 (pick x.b 5)) = some (.int .i64 (1 + pick x.b 5)) := evAddI (by omega)
  have b4 : evBin .add (.int .i64 1) (.int .i64 (pick x.d 2)) = some (.int .i64 (1 + pick x.d 2)) := evAddI (by omega)
  have hmk : mkA x ys = .agg [slA 2 (((List.range (nOf ys)).map (chOf x ys)).map chA), .int .i64 (1 + pick x.a 5), .int .i64 (1 + pick x.b 5), .int .i64 (pick x.c 9), .int .i64 (1 + pick x.d 2)] := rfl
  rw [hmk]
  obtain ⟨q1, h1⟩ : ∃ z, z = pick x.a 5 := ⟨_, rfl⟩
  obtain ⟨q2, h2⟩ : ∃ z, z = pick x.b 5 := ⟨_, rfl⟩
  obtain ⟨q3, h3⟩ : ∃ z, z = pick x.c 9 := ⟨_, rfl⟩
  obtain ⟨q4, h4⟩ : ∃ z, z = pick x.d 2 := ⟨_, rfl⟩
  rw [← h1] at m1 b1 ⊢
  rw [← h2] at m2 b2 ⊢
  rw [← h3] at m3 ⊢
  rw [← h4] at m4 b4 ⊢
  obtain ⟨r1, g1⟩ : ∃ z, z = 1 + q1 := ⟨_, rfl⟩
  obtain ⟨r2, g2⟩ : ∃ z, z = 1 + q2 := ⟨_, rfl⟩
  obtain ⟨r4, g4⟩ : ∃ z, z = 1 + q4 := ⟨_, rfl⟩
  rw [← g1] at b1 ⊢
  rw [← g2] at b2 ⊢
  rw [← g4] at b4 ⊢
  obtain ⟨B, lp, ⟨k0, k1, v, k2, k3⟩⟩ := loop13 hx hys hy (p := r1) (q := r2) (r := q3) (s := r4) (nOf ys) 0 [.row 5 false [x5A x], .row 5 false [.agg [.nilS, .int .i64 0, .int .i64 0, .int .i64 0, .int .i64 0]], .row 5 false [.agg [.nilS, .int .i64 r1, .int .i64 r2, .int .i64 q3, .int .i64 r4]]] 300 (by omega) ⟨rfl, rfl, .nilS, rfl, .inl ⟨rfl, rfl⟩⟩ (by unfold nOf; omega)
  rw [show ((0 : Nat) : Int) = 0 from rfl] at lp
  obtain ⟨f1, f2⟩ := chsV_fin k3 0
  have e1 : evLoad true 5 B (.ptr 2 0 0) = some (.agg [v, .int .i64 r1, .int .i64 r2, .int .i64 q3, .int .i64 r4]) := by simp [evLoad, k2]
  have kl := (List.getElem?_eq_some_iff.1 k1).1
  have st : evStore 5 B (.ptr 1 0 0) (.agg [v, .int .i64 r1, .int .i64 r2, .int .i64 q3, .int .i64 r4]) = some (B.set 1 (.row 5 false [.agg [v, .int .i64 r1, .int .i64 r2, .int .i64 q3, .int .i64 r4]])) := by simp [evStore, k1, storeElem]
  have k3' : chsV (B.set 1 (.row 5 false [.agg [v, .int .i64 r1, .int .i64 r2, .int .i64 q3, .int .i64 r4]])) v ((List.range (nOf ys)).map (chOf x ys)) := by
    rcases k3 with k3 | ⟨id, gr, a, b, c, d⟩
    · exact .inl k3
    · exact .inr ⟨id, gr, a, b, c, by rw [List.getElem?_set_ne (by omega)]; exact d⟩
  obtain ⟨f1, f2⟩ := chsV_fin k3' 0
  have e2 : evLoad true 5 (B.set 1 (.row 5 false [.agg [v, .int .i64 r1, .int .i64 r2, .int .i64 q3, .int .i64 r4]])) (.ptr 1 0 0) = some (.agg [v, .int .i64 r1, .int .i64 r2, .int .i64 q3, .int .i64 r4]) := by simp [evLoad, kl]
  obtain ⟨C, hC⟩ : ∃ X, X = B.set 1 (.row 5 false [.agg [v, .int .i64 r1, .int .i64 r2, .int .i64 q3, .int .i64 r4]]) := ⟨_, rfl⟩
  rw [← hC] at st e2 f1 f2
  have F1 : frz C 4 (.agg [v, .int .i64 r1, .int .i64 r2, .int .i64 q3, .int .i64 r4]) = .agg [slA 2 (((List.range (nOf ys)).map (chOf x ys)).map chA), .int .i64 r1, .int .i64 r2, .int .i64 q3, .int .i64 r4] := by
    rw [← f1]; rfl
  have F2 : freshB C 4 (.agg [v, .int .i64 r1, .int .i64 r2, .int .i64 q3, .int .i64 r4]) = true := by
    have f2 : freshB C 3 v = true := f2
    simp [freshB, f2]
  rw [hC] at F1 F2
  have k1g : B[1] = .row 5 false [.agg [.nilS, .int .i64 0, .int .i64 0, .int .i64 0, .int .i64 0]] := by
    rw [List.getElem?_eq_getElem kl] at k1; injection k1
  unfold x5A at lp
  unfold M13
  rw [evF_run _ _ rfl]
  simp [mf13, x5A, evIndexArr, m1, m2, m3, m4, b1, b2, b4, frz_i, go13x0 lp, k1g, k2, kl, F1, F2, -frz, -evBin]

/-! ### equality of arcs -/
noncomputable def M21 : PModel := fun args => evP (envOf GC []) 300 mf21 1 args
theorem spec21 : PureSpec Try.prog GC 21 M21 := PureSpec.of_ev (E := envOf GC []) (envOf_sound lookM_nil) rfl at21 comp21 1 fun _ _ h => ⟨300, h⟩
instance : DecidableEq CArc := fun a b => by
  obtain ⟨a1, a2, a3, a4⟩ := a
  obtain ⟨b1, b2, b3, b4⟩ := b
  exact decidable_of_iff (a1 = b1 ∧ a2 = b2 ∧ a3 = b3 ∧ a4 = b4) ⟨fun ⟨h1, h2, h3, h4⟩ => by rw [h1, h2, h3, h4], fun h => by injection h with h1 h2 h3 h4; exact ⟨h1, h2, h3, h4⟩⟩
set_option maxRecDepth 100000 in
theorem M21_eq {xs ys : List CArc} {a b : AV} (ha : SlA 4 (xs.map arcA) a) (hb : SlA 4 (ys.map arcA) b) (hl : xs.length ≤ 200) (hl2 : ys.length ≤ 200) : M21 [a, b] = some (.bool (decide (xs = ys))) := by
  have hla := ha.len
  have hlb := hb.len
  rw [List.length_map] at hla hlb
  have b0 : evBin .neq (.int .i64 (xs.length : Int)) (.int .i64 (ys.length : Int)) = some (.bool (decide (xs.length ≠ ys.length))) := by
    rw [evNeqI]
    congr 2
    exact decide_eq_decide.2 (by omega)
  by_cases h0 : xs.length ≠ ys.length
  · rw [decide_eq_true h0] at b0
    rw [decide_eq_false (fun h => h0 (by rw [h]))]
    unfold M21
    rw [evP_run _ _ rfl]
    simp [mf21, hla, hlb, b0, -evBin, -evLenSl]
  have h0 : xs.length = ys.length := Classical.not_not.1 h0
  rw [decide_eq_false (by omega)] at b0
  have round : ∀ (A : Arena) (i : Nat) (hi : i < xs.length), run (envOf GC []) 300 [.code lp21x0] (st21x0 a b (.int .i64 (i : Int))) A =
      if xs[i] = ys[i]'(by omega) then some (.normal (st21x0 a b (.int .i64 ((i + 1 : Nat) : Int))) A) else some (.ret [a, b, .bool false, .int .i64 (i : Int), .undef, .bool true, .bool true] A) := fun A i hi => by
    have x1 := ha.index (A := A) (x := arcA xs[i]) (i := i) (by simp [hi]) rfl (by omega) .i64
    have x2 := hb.index (A := A) (x := arcA (ys[i]'(by omega))) (i := i) (by simp [show i < ys.length by omega]) rfl (by omega) .i64
    obtain ⟨p, hp⟩ : ∃ p, p = xs[i] := ⟨_, rfl⟩
    obtain ⟨q, hq⟩ : ∃ q, q = ys[i]'(by omega) := ⟨_, rfl⟩
    rw [← hp] at x1 ⊢
    rw [← hq] at x2 ⊢
    have ea : evEqAgg true [(0, 1), (1, 1), (2, 1), (3, 1)] (arcA p) (arcA q) = some (.bool (decide (p ≠ q))) := by
      obtain ⟨a1, a2, a3, a4⟩ := p
      obtain ⟨c1, c2, c3, c4⟩ := q
      simp only [arcA, evEqAgg, eqOffs, eqK]
      by_cases e1 : a1 = c1 <;> by_cases e2 : a2 = c2 <;> by_cases e3 : a3 = c3 <;> by_cases e4 : a4 = c4 <;> simp [e1, e2, e3, e4]
    have b1 := lt_nat i xs.length .i64
    rw [decide_eq_true hi] at b1
    have b3 := add1_nat i (by omega)
    have l1 : ∀ z : CArc, evLoad true 4 A (.fp (cellsOf (arcA z))) = some (arcA z) := fun z => rfl
    obtain ⟨P, hP⟩ : ∃ P, P = cellsOf (arcA p) := ⟨_, rfl⟩
    obtain ⟨Q, hQ⟩ : ∃ P, P = cellsOf (arcA q) := ⟨_, rfl⟩
    have l2 := l1 p
    have l3 := l1 q
    rw [← hP] at x1 l2
    rw [← hQ] at x2 l3
    obtain ⟨i1, hi1⟩ : ∃ i1 : Nat, i1 = i + 1 := ⟨_, rfl⟩
    rw [← hi1] at b3 ⊢
    by_cases hd : p = q
    · rw [decide_eq_false (by simpa using hd)] at ea
      rw [if_pos hd]
      simp [lp21x0, hla, x1, x2, l2, l3, ea, b1, b3, -evBin, -evIndexSl, -evLenSl, -evLoad, -evEqAgg]
    · rw [decide_eq_true (by simpa using hd)] at ea
      rw [if_neg hd]
      simp [lp21x0, hla, x1, x2, l2, l3, ea, b1, -evBin, -evIndexSl, -evLenSl, -evLoad, -evEqAgg]
  have bE := lt_nat xs.length xs.length .i64
  rw [decide_eq_false (by omega)] at bE
  unfold M21
  rw [evP_run _ _ rfl]
  rcases iter_search (E := envOf GC []) (fuel := 300) (a := lp21x0) (mask := mask21x0) (fun i => st21x0 a b (.int .i64 (i : Int))) (fun _ => []) xs.length (fun i => ¬ ∀ (hi : i < xs.length), xs[i] = ys[i]'(by omega))
    (oF := fun i => .ret [a, b, .bool false, .int .i64 (i : Int), .undef, .bool true, .bool true] []) (oE := .exit 0 ((st21x0 a b (.int .i64 (xs.length : Int))).set 5 (.bool false)) [])
    (fun _ => cl21x0) (fun _ _ _ h => by cases h) (fun _ _ h => by cases h)
    (fun i hi hp => by
      rw [round [] i hi]
      exact if_pos (Classical.not_not.1 hp hi))
    (fun i hi hp => by
      rw [round [] i hi]
      exact if_neg fun h => hp fun _ => h)
    (by simp [lp21x0, hla, bE, -evBin, -evLenSl]) (show xs.length < 300 by omega) with ⟨i, hi, hp, hj, lp⟩ | ⟨hp, lp⟩
  · have lp : iter (evC (envOf GC []) 300 lp21x0) mask21x0 300 (st21x0 a b (.int .i64 0)) [] = _ := lp
    rw [decide_eq_false (fun h => hp (fun _ => by subst h; rfl))]
    simp [mf21, hla, hlb, b0, go21x0 lp, -evBin, -evLenSl]
  · have lp : iter (evC (envOf GC []) 300 lp21x0) mask21x0 300 (st21x0 a b (.int .i64 0)) [] = _ := lp
    rw [decide_eq_true (List.ext_getElem h0 fun i h1 h2 => Classical.not_not.1 (hp i h1) h1)]
    simp [mf21, hla, hlb, b0, go21x0 lp, -evBin, -evLenSl]
end Go.Proofs.Ytemklhljjaniaaa
/-
  Cluster, plain: starts or a cycle; what Best finds.
-/
namespace Go.Proofs.Ytemklhljjaniaaa
namespace Cy
open Go
theorem lv_ok {n : Int} {l : List CArc} {p : Int} (hr : Ready n l p) : (lvM n l p).2.2 = true ↔ ¬ Pos l p := by
  obtain ⟨m, rfl⟩ : ∃ m : Nat, n = (m : Int) := ⟨n.toNat, by have := hr.1.1; omega⟩
  rw [← lev_iff hr]
  unfold lvM
  rw [if_pos hr, Int.toNat_natCast]
  split
  · rename_i h; simp [h]
  · rename_i h; simp [h]
theorem lvT_form (n : Int) (l : List CArc) (p : Int) : lvT (lvM n l p) = .tup [slA 1 (intsA (lvM n l p).1), slA 1 (intsA (lvM n l p).2.1), .bool (lvM n l p).2.2] := rfl
theorem convex {l : List CArc} {p q r : Int} (hpq : p ≤ q) (hqr : q ≤ r) (h1 : ¬ Pos l p) (h2 : ¬ Pos l r) : ¬ Pos l q := by
  rintro ⟨u, xs, h3, h4⟩
  rcases Int.lt_or_le (tokN xs) 0 with h | h
  · refine h2 (pos_other h3 (p := q) ?_)
    have : (r - q) * tokN xs ≤ 0 := Int.mul_nonpos_of_nonneg_of_nonpos (by omega) (by omega)
    omega
  · refine h1 (pos_other h3 (p := q) ?_)
    have : (p - q) * tokN xs ≤ 0 := Int.mul_nonpos_of_nonpos_of_nonneg (by omega) h
    omega
/-- Levels, where it has starts -/
theorem lv_starts {n : Int} {l : List CArc} {p : Int} (hr : Ready n l p) (h : (lvM n l p).2.2 = true) : (lvM n l p).2.1 = [] ∧ VerOk n l p (lvM n l p).1 ∧ (∀ x ∈ (lvM n l p).1, x ≤ 100000000) ∧ ∀ x, VerOk n l p x → ∀ v : Nat, (v : Int) < n → (lvM n l p).1.getD v 0 ≤ x.getD v 0 := by
  obtain ⟨m, rfl⟩ : ∃ m : Nat, n = (m : Int) := ⟨n.toNat, by have := hr.1.1; omega⟩
  have hv := hr.1.2.2
  have hn := hr.1.1
  have e : lvM m l p = ((levels (lar p l) m).1, [], true) := by
    unfold lvM at h ⊢
    rw [if_pos hr, Int.toNat_natCast] at h ⊢
    split
    · rfl
    · rename_i h'
      rw [if_neg h'] at h; cases h
  have hlv : (levels (lar p l) m).2 = true := by
    have := (lv_ok hr).1 h
    exact (lev_iff hr).2 this
  obtain ⟨h1, h2, h3, h4, h5⟩ := levels_least (lar_ends (p := p) hv)
  rw [e]
  have key : ∀ x ∈ (levels (lar p l) m).1, 0 ≤ x ∧ x ≤ 100000000 := ?_
  · refine ⟨rfl, ⟨hr, by rw [h1], fun x hx => by have := key x hx; omega, h4 hlv⟩, fun x hx => (key x hx).2, fun x hx v hvm => ?_⟩
    refine h5 x hx.2.2.2 (fun w hw => ?_) v (by omega)
    have hwl : w < x.length := by have := hx.2.1; omega
    have hg : x.getD w 0 = x[w] := by rw [List.getD_eq_getElem?_getD, List.getElem?_eq_getElem hwl]; rfl
    rw [hg]
    exact (hx.2.2.1 _ (List.getElem_mem hwl)).1
  intro x hx'
  obtain ⟨v, hv', rfl⟩ := List.mem_iff_getElem.1 hx'
  have hvn : v < m := by rw [← h1]; exact hv'
  have hg : (levels (lar p l) m).1.getD v 0 = (levels (lar p l) m).1[v] := by rw [List.getD_eq_getElem?_getD, List.getElem?_eq_getElem hv']; rfl
  have h0 := h2 v
  rw [hg] at h0
  refine ⟨h0, ?_⟩
  obtain ⟨u, r, k1, k2, k3⟩ := h3 v hvn
  have hN := (levels_ok (lar_ends (p := p) hv)).1 hlv
  obtain ⟨r', j1, j2, j3⟩ := short (lar_ends (p := p) hv) hN _ r u v rfl k1 k2
  rw [hg] at k3
  have hbd : ∀ {r : List LArc} {u v : Nat}, isW (lar p l) u r v → lenW r ≤ 3000000 * r.length := by
    intro r
    induction r with
    | nil => intro _ _ _; simp [lenW]
    | cons a r ih =>
      rintro u v ⟨q1, _, q3⟩
      have := ih q3
      have := (lar_ok (show m ≤ 32 by omega) hr.2 hv a q1).2.2.2
      simp only [lenW, List.length_cons]
      omega
  have := hbd j1
  omega
/-- Levels, where it has a cycle -/
theorem lv_cycle {n : Int} {l : List CArc} {p : Int} (hr : Ready n l p) (h : (lvM n l p).2.2 = false) : (lvM n l p).1 = [] ∧ RefOk n l p (lvM n l p).2.1 ∧ (lvM n l p).2.1.length ≤ 32 ∧ ∀ z ∈ (lvM n l p).2.1, inI z := by
  obtain ⟨m, rfl⟩ : ∃ m : Nat, n = (m : Int) := ⟨n.toNat, by have := hr.1.1; omega⟩
  have hlv : ¬ (levels (lar p l) m).2 = true := fun h' => by
    have := (lv_ok hr).2 ((lev_iff hr).1 h')
    rw [h] at this; cases this
  obtain ⟨res, u, xs, k1, k2, k3, k4, k5, k6, k7⟩ := cyc_of hr hlv
  have e : lvM m l p = ([], res, false) := by
    unfold lvM
    rw [if_pos hr, Int.toNat_natCast, if_neg hlv, k1]; rfl
  rw [e]
  refine ⟨rfl, ⟨hr, _, _, k7, k6⟩, by rw [k2]; simpa using k5, fun z hz => ?_⟩
  unfold exM at k7
  simp only [Option.ite_none_right_eq_some] at k7
  have := k7.1.2 z hz
  have := hr.1.2.1
  unfold inI; omega
theorem intsOf_sl {xs : List Int} (hl : xs.length ≤ 1000) (h : ∀ z ∈ xs, inI z) : intsOf (slA 1 (intsA xs)) = some xs := intsOf_slA (by omega) h
theorem ver_in {n : Int} {l : List CArc} {p : Int} {s : List Int} (h : VerOk n l p s) : s.length ≤ 32 ∧ ∀ z ∈ s, inI z := by
  obtain ⟨h1, h2, h3, _⟩ := h
  have := h1.1.1
  refine ⟨by omega, fun z hz => ?_⟩
  have := h3 z hz
  unfold inI; omega
/-- what is refuted has no starts -/
theorem ver_pos {n : Int} {l : List CArc} {p : Int} {s : List Int} (h : VerOk n l p s) : ¬ Pos l p := keeps_noP h.1.1.2.2 h.2.2.2
theorem ref_pos {n : Int} {l : List CArc} {p : Int} {c : List Int} (h : RefOk n l p c) : Pos l p := by
  obtain ⟨_, s, t, h1, h2⟩ := h
  obtain ⟨u, xs, k1, k2, k3, k4, k5, k6⟩ := exM_some h1
  exact ⟨u, xs, k2, by omega⟩
open Classical in
theorem m19 {n : Int} {a b : AV} {l : List CArc} {p : Int} {s : List Int} (ha : arcsOf a = some l) (hb : intsOf b = some s) : M19 [.int .i64 n, a, .int .i64 p, b] = some (.bool (decide (VerOk n l p s))) := by simp only [M19, ha, hb]
open Classical in
theorem m21 {n : Int} {a b : AV} {l : List CArc} {p : Int} {s : List Int} (ha : arcsOf a = some l) (hb : intsOf b = some s) : M21 [.int .i64 n, a, .int .i64 p, b] = some (.bool (decide (RefOk n l p s))) := by simp only [M21, ha, hb]

/-- fewer arcs: the same starts keep them -/
theorem ver_sub {n : Int} {l l' : List CArc} {p : Int} {s : List Int} (hR : Ready n l p) (hsub : ∀ a ∈ l, a ∈ l') (h : VerOk n l' p s) : VerOk n l p s := by
  obtain ⟨h1, h2, h3, h4⟩ := h
  refine ⟨hR, h2, h3, fun a ha => ?_⟩
  obtain ⟨c, hc, rfl⟩ := List.mem_map.1 ha
  exact h4 _ (List.mem_map.2 ⟨c, hsub c hc, rfl⟩)
theorem lv_sub {n : Int} {l l' : List CArc} {p : Int} (hR : Ready n l p) (hR' : Ready n l' p) (hsub : ∀ a ∈ l, a ∈ l') (h : (lvM n l' p).2.2 = true) : (lvM n l p).2.2 = true ∧ ∀ v : Nat, (v : Int) < n → (lvM n l p).1.getD v 0 ≤ (lvM n l' p).1.getD v 0 := by
  have h1 := (lv_starts hR' h).2.1
  have h2 := ver_sub hR hsub h1
  have h3 := (lv_ok hR).2 (ver_pos h2)
  exact ⟨h3, fun v hv => (lv_starts hR h3).2.2.2 _ h2 v hv⟩
theorem lv_same {n : Int} {l l' : List CArc} {p : Int} (hR : Ready n l p) (hR' : Ready n l' p) (h1 : ∀ a ∈ l, a ∈ l') (h2 : ∀ a ∈ l', a ∈ l) : (lvM n l p).2.2 = (lvM n l' p).2.2 ∧ (lvM n l p).1 = (lvM n l' p).1 := by
  cases h : (lvM n l p).2.2 with
  | true =>
    obtain ⟨k1, k2⟩ := lv_sub hR' hR h2 h
    obtain ⟨k3, k4⟩ := lv_sub hR hR' h1 k1
    refine ⟨k1.symm, ?_⟩
    have g1 := (lv_starts hR h).2.1.2.1
    have g2 := (lv_starts hR' k1).2.1.2.1
    refine List.ext_getElem (by omega) fun i i1 i2 => ?_
    have a1 := k2 i (by omega)
    have a2 := k4 i (by omega)
    have e1 : (lvM n l p).1.getD i 0 = (lvM n l p).1[i] := by rw [List.getD_eq_getElem?_getD, List.getElem?_eq_getElem i1]; rfl
    have e2 : (lvM n l' p).1.getD i 0 = (lvM n l' p).1[i] := by rw [List.getD_eq_getElem?_getD, List.getElem?_eq_getElem i2]; rfl
    omega
  | false =>
    have h' : (lvM n l' p).2.2 = false := by
      cases h3 : (lvM n l' p).2.2 with
      | false => rfl
      | true =>
        have := (lv_sub hR hR' h1 h3).1
        rw [h] at this; cases this
    exact ⟨h'.symm, by rw [(lv_cycle hR h).1, (lv_cycle hR' h').1]⟩
end Cy
open Go
open Cy (GC CArc arcA arcsOf isPer ValidA okA smM smT lvM lvT VerOk RefOk Ready Pos lv_ok lv_starts lv_cycle ver_pos ref_pos)

theorem hiOf_per {T : Tool} {s : Option (Int × List Int)} (h : sOk T s) : isPer (hiOf s) := by
  unfold hiOf isPer
  cases s with
  | none => simp
  | some x => have := h x rfl; simp only; omega
/-- what holds of the best one so far, of these orders -/
structure BInv (T : Tool) (s : Option (Int × List Int)) (l : List (List Int)) : Prop where
  ok : sOk T s
  no : ∀ x, s = some x → ¬ Pos (arcsL T x.2) x.1 ∧ ∃ l1 l2, l = l1 ++ x.2 :: l2 ∧ ∀ o ∈ l1, Pos (arcsL T o) x.1
  pos : ∀ o ∈ l, ∀ q, 1 ≤ q → q ≤ hiOf s → Pos (arcsL T o) q
theorem BInv.step {T : Tool} {s : Option (Int × List Int)} {l : List (List Int)} (h : BInv T s l) {o : List Int} (hO : o ∈ ordersM T) : BInv T (bstep T s o) (l ++ [o]) := by
  have hper := hiOf_per h.ok
  have hok := bstep_ok h.ok hO
  have hv := (arcs_ok hO).1
  unfold bstep at hok ⊢
  cases hm : smM (o.length : Int) (arcsL T o) 1 (hiOf s) with
  | none =>
    rw [hm] at hok
    have hn := sm_none hper hv hm
    refine ⟨h.ok, fun x hx => ?_, fun o' ho' q h1 h2 => ?_⟩
    · obtain ⟨k1, l1, l2, k2, k3⟩ := h.no x hx
      exact ⟨k1, l1, l2 ++ [o], by rw [k2]; simp, k3⟩
    · rcases List.mem_append.1 ho' with h3 | h3
      · exact h.pos o' h3 q h1 h2
      · rw [List.mem_singleton] at h3
        subst h3
        exact hn q h1 h2
  | some p =>
    rw [hm] at hok
    obtain ⟨k1, k2, k3, k4, k5⟩ := sm_some hper hm
    refine ⟨hok, fun x hx => ?_, fun o' ho' q h1 h2 => ?_⟩
    · injection hx with hx
      subst hx
      exact ⟨k4, l, [], rfl, fun o' ho' => h.pos o' ho' p k1 k2⟩
    · have h2 : q ≤ p - 1 := h2
      rcases List.mem_append.1 ho' with h3 | h3
      · exact h.pos o' h3 q h1 (by omega)
      · rw [List.mem_singleton] at h3
        subst h3
        exact k5 q h1 (by omega)
theorem BInv.fold {T : Tool} : ∀ (r : List (List Int)) {s : Option (Int × List Int)} {l : List (List Int)}, BInv T s l → (∀ o ∈ r, o ∈ ordersM T) → BInv T (r.foldl (bstep T) s) (l ++ r)
  | [], s, l, h, _ => by simpa using h
  | o :: r, s, l, h, hr => by
    have := BInv.fold r (h.step (hr o (by simp))) (fun o' ho' => hr o' (by simp [ho']))
    rw [List.append_assoc] at this
    exact this
theorem best_inv (T : Tool) : BInv T (bestF T) (ordersM T) := by
  have := BInv.fold (T := T) (ordersM T) (s := none) (l := []) ⟨fun x h => (by cases h), fun x h => (by cases h), fun o h => (by cases h)⟩ (fun _ h => h)
  rwa [List.nil_append] at this
theorem ready_of {T : Tool} {o : List Int} (hO : o ∈ ordersM T) {p : Int} (h1 : -1000000 ≤ p) (h2 : p ≤ 1000000) : Ready (o.length : Int) (arcsL T o) p := ⟨(arcs_ok hO).1, h1, h2⟩
/-- Check accepts it -/
theorem chk_of {T : Tool} {o : List Int} (hO : o ∈ ordersM T) {p : Int} (h1 : 1 ≤ p) (h2 : p ≤ 1000000) (hp : ¬ Pos (arcsL T o) p) (hq : 1 < p → Pos (arcsL T o) (p - 1)) : Chk T (schOf T (p, o)) := by
  have hR := ready_of hO (p := p) (by omega) h2
  have k1 := lv_starts hR ((lv_ok hR).2 hp)
  refine ⟨hO, ⟨h1, h2⟩, k1.2.1, ?_⟩
  show if p = 1 then (if p > 1 then (lvM (o.length : Int) (arcsL T o) (p - 1)).2.1 else []) = [] else _
  by_cases e : p = 1
  · rw [if_pos e, if_neg (by omega)]
  · rw [if_neg e]
    have hR' := ready_of hO (p := p - 1) (by omega) (by omega)
    have hf : (lvM (o.length : Int) (arcsL T o) (p - 1)).2.2 = false := by
      cases h : (lvM (o.length : Int) (arcsL T o) (p - 1)).2.2 with
      | false => rfl
      | true => exact absurd (hq (by omega)) ((lv_ok hR').1 h)
    have := (lv_cycle hR' hf).2.1
    show RefOk (o.length : Int) (arcsL T o) (p - 1) (if p > 1 then (lvM (o.length : Int) (arcsL T o) (p - 1)).2.1 else [])
    rw [if_pos (by omega)]
    exact this
theorem best_chk {T : Tool} {s : Sched} (h : bestM T = some s) : Chk T s := by
  unfold bestM at h
  rw [Option.map_eq_some_iff] at h
  obtain ⟨⟨p, o⟩, h, rfl⟩ := h
  have hB := best_inv T
  rw [h] at hB
  obtain ⟨h1, h2, h3⟩ := hB.ok _ rfl
  exact chk_of h3 h1 h2 (hB.no _ rfl).1 fun hp => hB.pos o h3 (p - 1) (by simp only at h1; omega) (Int.le_refl _)
theorem best_some {T : Tool} {s : Sched} (h : bestM T = some s) : bestF T = some (s.period, s.order) ∧ s = schOf T (s.period, s.order) := by
  unfold bestM at h
  rw [Option.map_eq_some_iff] at h
  obtain ⟨⟨p, o⟩, h, rfl⟩ := h
  exact ⟨h, rfl⟩
theorem best_eq {T : Tool} {p : Int} {o : List Int} (hO : o ∈ ordersM T) (h1 : 1 ≤ p) (h2 : p ≤ 1000000) (hp : ¬ Pos (arcsL T o) p) (hb : ∀ o' ∈ ordersM T, ∀ q, 1 ≤ q → q < p → Pos (arcsL T o') q) : ∃ o', o' ∈ ordersM T ∧ ¬ Pos (arcsL T o') p ∧ bestF T = some (p, o') := by
  have hB := best_inv T
  cases hs : bestF T with
  | none =>
    rw [hs] at hB
    exact absurd (hB.pos o hO p h1 h2) hp
  | some x =>
    obtain ⟨r, o'⟩ := x
    rw [hs] at hB
    obtain ⟨k1, k2, k3⟩ := hB.ok _ rfl
    have k4 := (hB.no _ rfl).1
    simp only at k1 k2 k3 k4
    have : r = p := by
      rcases Int.lt_trichotomy r p with h | h | h
      · exact absurd (hb o' k3 r k1 h) k4
      · exact h
      · exact absurd (hB.pos o hO p h1 (by show p ≤ r - 1; omega)) hp
    subst this
    exact ⟨o', k3, k4, rfl⟩
theorem best_no {T : Tool} (hb : ∀ o' ∈ ordersM T, ∀ q, 1 ≤ q → q ≤ 1000000 → Pos (arcsL T o') q) : bestF T = none := by
  have hB := best_inv T
  cases hs : bestF T with
  | none => rfl
  | some x =>
    obtain ⟨r, o'⟩ := x
    rw [hs] at hB
    obtain ⟨k1, k2, k3⟩ := hB.ok _ rfl
    exact absurd (hb o' k3 r k1 k2) (hB.no _ rfl).1
/-- a closed way of these arcs -/
theorem pos_of {l : List CArc} {q : Int} (xs : List Nat) (u : Int) (_h : ∀ i ∈ xs, i < l.length) (hw : Cy.isNW l u (xs.map fun i => (l.getD i ⟨0, 0, 0, 0⟩, i)) u) (hl : 0 < Cy.lenN q (xs.map fun i => (l.getD i ⟨0, 0, 0, 0⟩, i))) : Pos l q := ⟨u, _, hw, hl⟩
end Go.Proofs.Ytemklhljjaniaaa
/-
  Cluster: the fixed examples, plain.
-/
namespace Go.Proofs.Ytemklhljjaniaaa
open Go
open Cy (GC CArc arcA arcsOf isPer ValidA okA smM smT lvM lvT VerOk RefOk Ready Pos lv_ok lv_starts lv_cycle ver_pos ref_pos lar levels lev_iff)

def t1 : Tool := ⟨[(20, 12), (30, 12)], 1, 1, 2, 1⟩
def t2 : Tool := ⟨[(20, 12), (30, 12)], 1, 1, 2, 2⟩
def t3 : Tool := ⟨[(20, 9), (30, 9)], 1, 1, 2, 2⟩
theorem ord1 : ordersM t1 = [[0, 1, 2], [0, 2, 1]] := by decide +kernel
theorem ord2 : ordersM t2 = [[0, 1, 2]] := by decide +kernel
theorem ord3 : ordersM t3 = [[0, 1, 2]] := by decide +kernel
def ar1 : List CArc := [⟨0, 2, 6, 0⟩, ⟨2, 1, 6, 0⟩, ⟨1, 0, 6, 1⟩, ⟨0, 1, 24, 0⟩, ⟨1, 0, -36, 0⟩, ⟨1, 2, 34, 1⟩, ⟨2, 1, -46, -1⟩]
def ar0 : List CArc := [⟨0, 1, 4, 0⟩, ⟨1, 2, 4, 0⟩, ⟨2, 0, 6, 1⟩, ⟨0, 1, 24, 0⟩, ⟨1, 0, -36, 0⟩, ⟨1, 2, 34, 0⟩, ⟨2, 1, -46, 0⟩]
def ar2 : List CArc := [⟨0, 1, 4, 0⟩, ⟨1, 2, 4, 0⟩, ⟨2, 0, 4, 1⟩, ⟨1, 1, 22, 1⟩, ⟨1, 1, -34, -1⟩, ⟨2, 2, 32, 1⟩, ⟨2, 2, -44, -1⟩]
def ar3 : List CArc := [⟨0, 1, 4, 0⟩, ⟨1, 2, 4, 0⟩, ⟨2, 0, 4, 1⟩, ⟨1, 1, 22, 1⟩, ⟨1, 1, -31, -1⟩, ⟨2, 2, 32, 1⟩, ⟨2, 2, -41, -1⟩]
theorem arcs1 : arcsL t1 [0, 2, 1] = ar1 := by decide +kernel
theorem arcs0 : arcsL t1 [0, 1, 2] = ar0 := by decide +kernel
theorem arcs2 : arcsL t2 [0, 1, 2] = ar2 := by decide +kernel
theorem arcs3 : arcsL t3 [0, 1, 2] = ar3 := by decide +kernel
theorem pos_cyc {l : List CArc} {q : Int} (c : List (CArc × Nat)) (u : Int) (hw : Cy.isNW l u c u) (hl : 0 < Cy.lenN q c) : Pos l q := ⟨u, c, hw, hl⟩
theorem mem_num {l : List CArc} {x : CArc} {i : Nat} (h : l[i]? = some x) : (x, i) ∈ Cy.num l := by
  obtain ⟨hi, rfl⟩ := List.getElem?_eq_some_iff.1 h
  exact List.mem_of_getElem? (Cy.num_get l i hi)
theorem pos1 {q : Int} (h : q < 40) : Pos ar1 q := pos_cyc [(⟨2, 1, 6, 0⟩, 1), (⟨1, 2, 34, 1⟩, 5)] 2 ⟨mem_num rfl, rfl, mem_num rfl, rfl, rfl⟩ (by simp [Cy.lenN, CArc.len]; omega)
theorem pos0 {q : Int} (h : q < 64) : Pos ar0 q := pos_cyc [(⟨0, 1, 24, 0⟩, 3), (⟨1, 2, 34, 0⟩, 5), (⟨2, 0, 6, 1⟩, 2)] 0 ⟨mem_num rfl, rfl, mem_num rfl, rfl, mem_num rfl, rfl, rfl⟩ (by simp [Cy.lenN, CArc.len]; omega)
theorem pos2 {q : Int} (h : q < 32) : Pos ar2 q := pos_cyc [(⟨2, 2, 32, 1⟩, 5)] 2 ⟨mem_num rfl, rfl, rfl⟩ (by simp [Cy.lenN, CArc.len]; omega)
theorem pos3 (q : Int) : Pos ar3 q := by
  by_cases h : q < 32
  · exact pos_cyc [(⟨2, 2, 32, 1⟩, 5)] 2 ⟨mem_num rfl, rfl, rfl⟩ (by simp [Cy.lenN, CArc.len]; omega)
  · exact pos_cyc [(⟨1, 1, -31, -1⟩, 4)] 1 ⟨mem_num rfl, rfl, rfl⟩ (by simp [Cy.lenN, CArc.len]; omega)
theorem in1 : [0, 2, 1] ∈ ordersM t1 := by rw [ord1]; decide
theorem in2 : [0, 1, 2] ∈ ordersM t2 := by rw [ord2]; decide
theorem npos1 : ¬ Pos (arcsL t1 [0, 2, 1]) 40 := (lev_iff (n := 3) (ready_of in1 (by omega) (by omega))).1 (by rw [arcs1]; decide +kernel)
theorem npos2 : ¬ Pos (arcsL t2 [0, 1, 2]) 32 := (lev_iff (n := 3) (ready_of in2 (by omega) (by omega))).1 (by rw [arcs2]; decide +kernel)
theorem best1 : bestF t1 = some (40, [0, 2, 1]) := by
  obtain ⟨o, h1, h2, h3⟩ := best_eq in1 (by omega) (by omega) npos1 (fun o ho q h1 h2 => by
    rw [ord1] at ho
    rcases List.mem_cons.1 ho with rfl | ho
    · rw [arcs0]; exact pos0 (by omega)
    · rcases List.mem_cons.1 ho with rfl | ho
      · rw [arcs1]; exact pos1 h2
      · cases ho)
  rw [ord1] at h1
  rcases List.mem_cons.1 h1 with rfl | h1
  · rw [arcs0] at h2; exact absurd (pos0 (by omega)) h2
  · rcases List.mem_cons.1 h1 with rfl | h1
    · exact h3
    · cases h1
theorem best2 : bestF t2 = some (32, [0, 1, 2]) := by
  obtain ⟨o, h1, h2, h3⟩ := best_eq in2 (by omega) (by omega) npos2 (fun o ho q h1 h2 => by
    rw [ord2] at ho
    rcases List.mem_cons.1 ho with rfl | ho
    · rw [arcs2]; exact pos2 h2
    · cases ho)
  rw [ord2] at h1
  rcases List.mem_cons.1 h1 with rfl | h1
  · exact h3
  · cases h1
theorem best3 : bestF t3 = none := best_no fun o ho q _ _ => by
  rw [ord3] at ho
  rcases List.mem_cons.1 ho with rfl | ho
  · rw [arcs3]; exact pos3 q
  · cases ho
theorem lv1 : (lvM 3 (arcsL t1 [0, 2, 1]) 40).1 = [0, 24, 18] := by
  have hr : Ready 3 (arcsL t1 [0, 2, 1]) 40 := ready_of in1 (by omega) (by omega)
  have h1 : levels (lar 40 (arcsL t1 [0, 2, 1])) 3 = ([0, 24, 18], true) := by rw [arcs1]; decide +kernel
  unfold lvM
  rw [if_pos hr, show (3 : Int).toNat = 3 from rfl, h1, if_pos rfl]
theorem lv2 : (lvM 3 (arcsL t2 [0, 1, 2]) 32).1 = [0, 4, 8] := by
  have hr : Ready 3 (arcsL t2 [0, 1, 2]) 32 := ready_of in2 (by omega) (by omega)
  have h1 : levels (lar 32 (arcsL t2 [0, 1, 2])) 3 = ([0, 4, 8], true) := by rw [arcs2]; decide +kernel
  unfold lvM
  rw [if_pos hr, show (3 : Int).toNat = 3 from rfl, h1, if_pos rfl]
theorem bm1 : ∃ pr, bestM t1 = some ⟨40, [0, 2, 1], [0, 24, 18], pr⟩ := by
  refine ⟨(lvM 3 (arcsL t1 [0, 2, 1]) 39).2.1, ?_⟩
  unfold bestM
  rw [best1, Option.map_some]
  show some (Sched.mk 40 [0, 2, 1] (lvM 3 (arcsL t1 [0, 2, 1]) 40).1 _) = _
  rw [lv1]
  rfl
theorem bm2 : ∃ pr, bestM t2 = some ⟨32, [0, 1, 2], [0, 4, 8], pr⟩ := by
  refine ⟨(lvM 3 (arcsL t2 [0, 1, 2]) 31).2.1, ?_⟩
  unfold bestM
  rw [best2, Option.map_some]
  show some (Sched.mk 32 [0, 1, 2] (lvM 3 (arcsL t2 [0, 1, 2]) 32).1 _) = _
  rw [lv2]
  rfl
theorem bm3 : bestM t3 = none := by unfold bestM; rw [best3]; rfl
/-- what is in a schedule that Check accepts, or that Best returns -/
theorem sched_in {T : Tool} {s : Sched} (h : Chk T s) : (s.order.length ≤ 5 ∧ ∀ z ∈ s.order, inI z) ∧ (s.starts.length ≤ 32 ∧ ∀ z ∈ s.starts, inI z) ∧ (s.proof.length ≤ 200 ∧ ∀ z ∈ s.proof, inI z) := by
  obtain ⟨h1, h2, h3, h4⟩ := h
  have k := orders_mem h1
  have kb := orders_bd h1
  refine ⟨⟨by have := k.1.2.2.2.1; omega, fun z hz => by have := kb z hz; have := k.1.2.2.2.1; unfold inI; omega⟩, Cy.ver_in h3, ?_⟩
  split at h4
  · rw [h4]; simp
  · obtain ⟨hR, a, b, h5, _⟩ := h4
    unfold Cy.exM at h5
    simp only [Option.ite_none_right_eq_some] at h5
    refine ⟨h5.1.1.2, fun z hz => ?_⟩
    have := h5.1.2 z hz
    have := hR.1.2.1
    unfold inI; omega
theorem schV_of {T : Tool} {s : Sched} (h : Chk T s) : SchV s (slA 1 (intsA s.order)) (slA 1 (intsA s.starts)) (slA 1 (intsA s.proof)) := by
  obtain ⟨⟨h1, h2⟩, ⟨h3, h4⟩, h5, h6⟩ := sched_in h
  exact ⟨slA_holds _ _, slA_holds _ _, slA_holds _ _, by have := h.2.1; unfold inI; omega, by omega, by omega, h4, by omega, h6⟩
end Go.Proofs.Ytemklhljjaniaaa
/-
  Cluster: the fixed examples, run.
-/
namespace Go.Proofs.Ytemklhljjaniaaa
open Go
open Cy (GC CArc arcA arcsOf isPer ValidA okA smM smT lvM lvT VerOk RefOk Ready Pos frz_i frz_b intsA_len)

noncomputable def fs11 : List (FuncId × HModel) := [(14, pureFH 4 M14), (19, pureFH 4 M19), (22, H22), (18, pureH 4 Cy.M18), (21, pureH 4 M21), (26, pureH 4 M26), (16, pureH 4 M16)]
@[simp] theorem fs11_14 : lookM fs11 14 = some (pureFH 4 M14) := rfl
@[simp] theorem fs11_19 : lookM fs11 19 = some (pureFH 4 M19) := rfl
@[simp] theorem fs11_22 : lookM fs11 22 = some H22 := rfl
@[simp] theorem fs11_18 : lookM fs11 18 = some (pureH 4 Cy.M18) := rfl
@[simp] theorem fs11_21 : lookM fs11 21 = some (pureH 4 M21) := rfl
@[simp] theorem fs11_26 : lookM fs11 26 = some (pureH 4 M26) := rfl
@[simp] theorem fs11_16 : lookM fs11 16 = some (pureH 4 M16) := rfl
theorem sound11 : ∀ f M, lookM fs11 f = some M → FnSpecY Try.prog GC f M := lookM_cons (FnSpecY.of_pureF spec14 4) (lookM_cons (FnSpecY.of_pureF spec19 4) (lookM_cons spec22H (lookM_cons (FnSpecY.of_pure Cy.spec18 4) (lookM_cons (FnSpecY.of_pure spec21 4) (lookM_cons (FnSpecY.of_pure spec26 4) (lookM_cons (FnSpecY.of_pure spec16 4) lookM_nil))))))
def M11 : PModel := fun args => match args with
  | [] => some (.bool true)
  | _ => none
abbrev ca : AV := .agg [.int .i64 20, .int .i64 12]
abbrev cb : AV := .agg [.int .i64 30, .int .i64 12]
abbrev cc : AV := .agg [.int .i64 20, .int .i64 9]
abbrev cd : AV := .agg [.int .i64 30, .int .i64 9]
abbrev T1 (v : AV) : AV := .agg [v, .int .i64 1, .int .i64 1, .int .i64 2, .int .i64 1]
abbrev T2 (v : AV) : AV := .agg [v, .int .i64 1, .int .i64 1, .int .i64 2, .int .i64 2]
abbrev i3 (a b c : Int) : AV := .fs 1 [.int .i64 a, .int .i64 b, .int .i64 c]
theorem ints3 (a b c : Int) (ha : 0 ≤ a ∧ a ≤ 100) (hb : 0 ≤ b ∧ b ≤ 100) (hc : 0 ≤ c ∧ c ≤ 100) : intsOf (i3 a b c) = some [a, b, c] := intsOf_of (xs := [a, b, c]) (.inr rfl) (by simp) (by intro x hx; simp at hx; rcases hx with rfl | rfl | rfl <;> (unfold inI; omega))
open Classical in
set_option maxRecDepth 100000 in
set_option maxHeartbeats 8000000 in
theorem spec11 : PureSpec Try.prog GC 11 M11 := by
  refine PureSpec.of_ev (E := envOf GC fs11) (envOf_sound sound11) rfl at11 comp11 1 ?_
  intro args r h
  unfold M11 at h
  split at h
  rotate_left
  · cases h
  injection h with h; subst h
  refine ⟨0, ?_⟩
  obtain ⟨p1, hb1⟩ := bm1
  obtain ⟨p2, hb2⟩ := bm2
  have hb3 := bm3
  have s1 := schV_of (best_chk hb1)
  have s2 := schV_of (best_chk hb2)
  have h12 : SlA 2 (t1.ch.map chA) (.fs 2 [ca, cb]) := .inr rfl
  have h22 : SlA 2 (t2.ch.map chA) (.fs 2 [ca, cb]) := .inr rfl
  have h32 : SlA 2 (t3.ch.map chA) (.fs 2 [cc, cd]) := .inr rfl
  have m1 := M14_eq h12 (by decide)
  rw [ord1] at m1
  have m1 : M14 [T1 (.fs 2 [ca, cb])] = some (.fs 1 [i3 0 1 2, i3 0 2 1]) := m1
  have m2 := M19_eq (o := [0, 2, 1]) h12 (by decide) (ov := i3 0 2 1) (.inr rfl)
  rw [arcsM_some in1, arcs1] at m2
  obtain ⟨W, hW⟩ : ∃ W, W = slA 4 (ar1.map arcA) := ⟨_, rfl⟩
  have m2 : M19 [T1 (.fs 2 [ca, cb]), i3 0 2 1] = some (.tup [W, .int .i64 0]) := by rw [hW]; exact m2
  have m3 := M19_eq (o := [0, 1]) h12 (by decide) (ov := .fs 1 [.int .i64 0, .int .i64 1]) (.inr rfl)
  have n3 : arcsM t1 [0, 1] = none := if_neg (by rw [ord1]; decide)
  rw [n3] at m3
  have m3 : M19 [T1 (.fs 2 [ca, cb]), .fs 1 [.int .i64 0, .int .i64 1]] = some (.tup [.nilS, .int .i64 130]) := m3
  obtain ⟨P1, hP1⟩ : ∃ P, P = slA 1 (intsA p1) := ⟨_, rfl⟩
  obtain ⟨P2, hP2⟩ : ∃ P, P = slA 1 (intsA p2) := ⟨_, rfl⟩
  have fP1 : ∀ A n, frz A n P1 = P1 := fun A n => by rw [hP1]; exact (slA_holds 1 _).frz n
  have fP2 : ∀ A n, frz A n P2 = P2 := fun A n => by rw [hP2]; exact (slA_holds 1 _).frz n
  have fW : ∀ A n, frz A n W = W := fun A n => by rw [hW]; exact (slA_holds 4 _).frz n
  obtain ⟨z1, z2⟩ := slA_form p1
  rw [← hP1] at z1 z2
  obtain ⟨y1, y2⟩ := slA_form p2
  rw [← hP2] at y1 y2
  -- Best
  obtain ⟨S1, hS1⟩ : ∃ S, S = AV.agg [.int .i64 40, i3 0 2 1, i3 0 24 18, P1] := ⟨_, rfl⟩
  obtain ⟨S2, hS2⟩ : ∃ S, S = AV.agg [.int .i64 32, i3 0 1 2, i3 0 4 8, P2] := ⟨_, rfl⟩
  have c1 := fun h => H22_eq h (A := [.row 2 false [ca, cb], .row 5 false [T1 (.sl 0 0 2)]]) (chv := .sl 0 0 2) h12 (fun X => rfl) (by decide)
  rw [hb1] at c1
  have c1 : ∀ h, H22 h [T1 (.sl 0 0 2)] [.row 2 false [ca, cb], .row 5 false [T1 (.sl 0 0 2)]] = some (.tup [S1, .int .i64 0], [.row 2 false [ca, cb], .row 5 false [T1 (.sl 0 0 2)], .row 5 false [T1 (.sl 0 0 2)], .row 4 false [S1], .row 4 false [S1]]) := fun h => by
    rw [hS1, hP1]; exact c1 h
  have c2 := fun h => H22_eq h (A := [.row 2 false [ca, cb], .row 5 false [T1 (.sl 0 0 2)], .row 5 false [T1 (.sl 0 0 2)], .row 4 false [S1], .row 4 false [S1], .row 4 false [S1], .row 5 false [T2 (.sl 0 0 2)]]) (chv := .sl 0 0 2) h22 (fun X => rfl) (by decide)
  rw [hb2] at c2
  have c2 : ∀ h, H22 h [T2 (.sl 0 0 2)] [.row 2 false [ca, cb], .row 5 false [T1 (.sl 0 0 2)], .row 5 false [T1 (.sl 0 0 2)], .row 4 false [S1], .row 4 false [S1], .row 4 false [S1], .row 5 false [T2 (.sl 0 0 2)]] =
      some (.tup [S2, .int .i64 0], [.row 2 false [ca, cb], .row 5 false [T1 (.sl 0 0 2)], .row 5 false [T1 (.sl 0 0 2)], .row 4 false [S1], .row 4 false [S1], .row 4 false [S1], .row 5 false [T2 (.sl 0 0 2)], .row 5 false [T2 (.sl 0 0 2)], .row 4 false [S2], .row 4 false [S2]]) := fun h => by
    rw [hS2, hP2]; exact c2 h
  have c3 := fun h => H22_eq h (A := [.row 2 false [ca, cb], .row 5 false [T1 (.sl 0 0 2)], .row 5 false [T1 (.sl 0 0 2)], .row 4 false [S1], .row 4 false [S1], .row 4 false [S1], .row 5 false [T2 (.sl 0 0 2)], .row 5 false [T2 (.sl 0 0 2)], .row 4 false [S2], .row 4 false [S2], .row 4 false [S2], .row 5 false [T2 (.sl 12 0 2)], .row 2 false [cc, cd]]) (chv := .sl 12 0 2) h32 (fun X => rfl) (by decide)
  rw [hb3] at c3
  have c3 : ∀ h, H22 h [T2 (.sl 12 0 2)] [.row 2 false [ca, cb], .row 5 false [T1 (.sl 0 0 2)], .row 5 false [T1 (.sl 0 0 2)], .row 4 false [S1], .row 4 false [S1], .row 4 false [S1], .row 5 false [T2 (.sl 0 0 2)], .row 5 false [T2 (.sl 0 0 2)], .row 4 false [S2], .row 4 false [S2], .row 4 false [S2], .row 5 false [T2 (.sl 12 0 2)], .row 2 false [cc, cd]] =
      some (.tup [zA, .int .i64 130], [.row 2 false [ca, cb], .row 5 false [T1 (.sl 0 0 2)], .row 5 false [T1 (.sl 0 0 2)], .row 4 false [S1], .row 4 false [S1], .row 4 false [S1], .row 5 false [T2 (.sl 0 0 2)], .row 5 false [T2 (.sl 0 0 2)], .row 4 false [S2], .row 4 false [S2], .row 4 false [S2], .row 5 false [T2 (.sl 12 0 2)], .row 2 false [cc, cd], .row 5 false [T2 (.sl 12 0 2)], .row 4 false [zA], .row 4 false [zA]]) := c3
  -- the rest
  have k1 : Cy.M18 [i3 0 2 1, i3 0 2 1] = some (.bool true) := by simp only [Cy.M18, ints3 0 2 1 (by omega) (by omega) (by omega)]; simp
  have k2 : Cy.M18 [i3 0 24 18, i3 0 24 18] = some (.bool true) := by simp only [Cy.M18, ints3 0 24 18 (by omega) (by omega) (by omega)]; simp
  have k3 : Cy.M18 [i3 0 4 8, i3 0 4 8] = some (.bool true) := by simp only [Cy.M18, ints3 0 4 8 (by omega) (by omega) (by omega)]; simp
  have e1 := M21_eq (xs := ar1) (ys := ar1) (a := W) (b := .fs 4 (ar1.map arcA)) (by rw [hW]; exact slA_holds _ _) (.inr rfl) (by decide) (by decide)
  rw [decide_eq_true rfl] at e1
  have e1 : M21 [W, .fs 4 [.agg [.int .i64 0, .int .i64 2, .int .i64 6, .int .i64 0], .agg [.int .i64 2, .int .i64 1, .int .i64 6, .int .i64 0], .agg [.int .i64 1, .int .i64 0, .int .i64 6, .int .i64 1], .agg [.int .i64 0, .int .i64 1, .int .i64 24, .int .i64 0], .agg [.int .i64 1, .int .i64 0, .int .i64 (-36), .int .i64 0], .agg [.int .i64 1, .int .i64 2, .int .i64 34, .int .i64 1], .agg [.int .i64 2, .int .i64 1, .int .i64 (-46), .int .i64 (-1)]]] = some (.bool true) := e1
  have q1 := M26_eq h12 (by decide) s1
  rw [decide_eq_true (best_chk hb1)] at q1
  have q1 : M26 [T1 (.fs 2 [ca, cb]), .agg [.int .i64 40, i3 0 2 1, i3 0 24 18, P1]] = some (.bool true) := by rw [hP1]; exact q1
  have q2 := M26_eq h22 (by decide) s2
  rw [decide_eq_true (best_chk hb2)] at q2
  have q2 : M26 [T2 (.fs 2 [ca, cb]), .agg [.int .i64 32, i3 0 1 2, i3 0 4 8, P2]] = some (.bool true) := by rw [hP2]; exact q2
  have q3 := M26_eq h22 (by decide) s1
  rw [decide_eq_false (fun h => absurd h.1 (by rw [ord2]; show ¬ ([0, 2, 1] : List Int) ∈ [[0, 1, 2]]; decide))] at q3
  have q3 : M26 [T2 (.fs 2 [ca, cb]), .agg [.int .i64 40, i3 0 2 1, i3 0 24 18, P1]] = some (.bool false) := by rw [hP1]; exact q3
  have q4 := M26_eq h12 (by decide) (s := zeroS) (ov := .nilS) (sv := .nilS) (pv := .nilS) ⟨.inl ⟨rfl, rfl⟩, .inl ⟨rfl, rfl⟩, .inl ⟨rfl, rfl⟩, by unfold inI zeroS; simp, by simp [zeroS], by simp [zeroS], by simp [zeroS], by simp [zeroS], by simp [zeroS]⟩
  rw [decide_eq_false (fun h => absurd h.1 (by rw [ord1]; decide))] at q4
  have q4 : M26 [T1 (.fs 2 [ca, cb]), .agg [.int .i64 0, .nilS, .nilS, .nilS]] = some (.bool false) := q4
  have q5 := M16_eq (T := ⟨[], 0, 0, 0, 0⟩) (chv := .nilS) (.inl ⟨rfl, rfl⟩) (by decide)
  have q5 : M16 [.agg [.nilS, .int .i64 0, .int .i64 0, .int .i64 0, .int .i64 0]] = some (.bool false) := q5
  have q6 := M14_eq (T := ⟨[], 0, 0, 0, 0⟩) (chv := .nilS) (.inl ⟨rfl, rfl⟩) (by decide)
  have q6 : M14 [.agg [.nilS, .int .i64 0, .int .i64 0, .int .i64 0, .int .i64 0]] = some .nilS := q6
  subst hS1; subst hS2
  unfold zA at c3
  rw [evP_run _ _ rfl]
  simp [mf11, m1, m2, m3, c1, c2, c3, fP1, fP2, fW, k1, k2, k3, e1, q1, q2, q3, q4, q5, q6]
end Go.Proofs.Ytemklhljjaniaaa
/-
  Cluster: what the laws share.
-/
namespace Go.Proofs.Ytemklhljjaniaaa
open Go
open Cy (GC CArc arcA arcsOf isPer ValidA okA smM smT lvM lvT VerOk RefOk Ready Pos frz_i frz_b intsA_len M12_eq)

@[simp] theorem M11_nil : M11 [] = some (.bool true) := rfl
noncomputable def fsN : List (FuncId × HModel) := [(11, pureH 4 M11), (13, pureFH 4 M13), (14, pureFH 4 M14), (19, pureFH 4 M19), (22, pureH 4 M22), (26, pureH 4 M26), (28, pureH 4 Cy.M23), (30, pureH 4 Cy.M12), (31, Cy.H14), (32, pureH 4 Cy.M19)]
@[simp] theorem fsN_11 : lookM fsN 11 = some (pureH 4 M11) := rfl
@[simp] theorem fsN_13 : lookM fsN 13 = some (pureFH 4 M13) := rfl
@[simp] theorem fsN_14 : lookM fsN 14 = some (pureFH 4 M14) := rfl
@[simp] theorem fsN_19 : lookM fsN 19 = some (pureFH 4 M19) := rfl
@[simp] theorem fsN_22 : lookM fsN 22 = some (pureH 4 M22) := rfl
@[simp] theorem fsN_26 : lookM fsN 26 = some (pureH 4 M26) := rfl
@[simp] theorem fsN_28 : lookM fsN 28 = some (pureH 4 Cy.M23) := rfl
@[simp] theorem fsN_30 : lookM fsN 30 = some (pureH 4 Cy.M12) := rfl
@[simp] theorem fsN_31 : lookM fsN 31 = some Cy.H14 := rfl
@[simp] theorem fsN_32 : lookM fsN 32 = some (pureH 4 Cy.M19) := rfl
set_option maxRecDepth 100000 in
theorem soundN : ∀ f M, lookM fsN f = some M → FnSpecY Try.prog GC f M := lookM_cons (FnSpecY.of_pure spec11 4) (lookM_cons (FnSpecY.of_pureF spec13 4) (lookM_cons (FnSpecY.of_pureF spec14 4) (lookM_cons (FnSpecY.of_pureF spec19 4) (lookM_cons (FnSpecY.of_pure spec22 4) (lookM_cons (FnSpecY.of_pure spec26 4) (lookM_cons (FnSpecY.of_pure Cy.spec23 4) (lookM_cons (FnSpecY.of_pure Cy.spec12 4) (lookM_cons Cy.spec14 (lookM_cons (FnSpecY.of_pure Cy.spec19 4) lookM_nil)))))))))

/-! ### arguments -/
set_option maxRecDepth 100000 in
theorem x5_arg {x : AV} {n : Nat} (h : TA Try.prog (n + 2) 26 x) : ∃ y, x = x5A y ∧ y.inR := by
  obtain ⟨ls, rfl, hc, hl⟩ := TA.agg (show aggT Try.prog 26 = true by kernel_rfl) h
  simp only [TC, Try.underlying26] at hc
  rw [show Try.prog.cellsOf 3 = 1 by kernel_rfl] at hc
  simp only [TCa, Try.underlying3] at hc
  obtain ⟨_, _, rfl, ⟨a, rfl, ha⟩, _, _, _, rfl, ⟨b, rfl, hb⟩, _, _, _, rfl, ⟨c, rfl, hc'⟩, _, _, _, rfl, ⟨d, rfl, hd⟩, _, _, _, rfl, ⟨e, rfl, he⟩, _, rfl⟩ := hc
  exact ⟨⟨a, b, c, d, e⟩, rfl, ha, hb, hc', hd, he⟩
set_option maxRecDepth 100000 in
theorem two_arg {x : AV} {n : Nat} (h : TA Try.prog (n + 2) 68 x) : ∃ y : Int × Int, x = chA y ∧ inI y.1 ∧ inI y.2 := by
  obtain ⟨ls, rfl, hc, hl⟩ := TA.agg (show aggT Try.prog 68 = true by kernel_rfl) h
  simp only [TC, Try.underlying68] at hc
  rw [show Try.prog.cellsOf 3 = 1 by kernel_rfl] at hc
  simp only [TCa, Try.underlying3] at hc
  obtain ⟨_, _, rfl, ⟨a, rfl, ha⟩, _, _, _, rfl, ⟨b, rfl, hb⟩, _, rfl⟩ := hc
  exact ⟨(a, b), rfl, ha, hb⟩
set_option maxRecDepth 100000 in
theorem three_arg {x : AV} {n : Nat} (h : TA Try.prog (n + 2) 45 x) : ∃ a b c : Int, x = .agg [.int .i64 a, .int .i64 b, .int .i64 c] ∧ inI a ∧ inI b ∧ inI c := by
  obtain ⟨ls, rfl, hc, hl⟩ := TA.agg (show aggT Try.prog 45 = true by kernel_rfl) h
  simp only [TC, Try.underlying45] at hc
  rw [show Try.prog.cellsOf 3 = 1 by kernel_rfl] at hc
  simp only [TCa, Try.underlying3] at hc
  obtain ⟨_, _, rfl, ⟨a, rfl, ha⟩, _, _, _, rfl, ⟨b, rfl, hb⟩, _, _, _, rfl, ⟨c, rfl, hc'⟩, _, rfl⟩ := hc
  exact ⟨a, b, c, rfl, ha, hb, hc'⟩
set_option maxRecDepth 100000 in
theorem four_arg {x : AV} {n : Nat} (h : TA Try.prog (n + 2) 66 x) : ∃ a b c d : Int, x = .agg [.int .i64 a, .int .i64 b, .int .i64 c, .int .i64 d] ∧ inI a ∧ inI b ∧ inI c ∧ inI d := by
  obtain ⟨ls, rfl, hc, hl⟩ := TA.agg (show aggT Try.prog 66 = true by kernel_rfl) h
  simp only [TC, Try.underlying66] at hc
  rw [show Try.prog.cellsOf 3 = 1 by kernel_rfl] at hc
  simp only [TCa, Try.underlying3] at hc
  obtain ⟨_, _, rfl, ⟨a, rfl, ha⟩, _, _, _, rfl, ⟨b, rfl, hb⟩, _, _, _, rfl, ⟨c, rfl, hc'⟩, _, _, _, rfl, ⟨d, rfl, hd⟩, _, rfl⟩ := hc
  exact ⟨a, b, c, d, rfl, ha, hb, hc', hd⟩
set_option maxRecDepth 100000 in
theorem twos_arg {raw : AV} {n : Nat} (h : TA Try.prog (n + 3) 27 raw) : ∃ ys : List (Int × Int), SlA 2 (ys.map chA) raw ∧ (∀ y ∈ ys, inI y.1 ∧ inI y.2) ∧ ys.length ≤ 9223372036854775807 := by
  obtain ⟨es, h1, h2, h3⟩ := TA.sl Try.underlying27 h
  rw [show Try.prog.cellsOf 68 = 2 by kernel_rfl] at h1
  obtain ⟨ys, rfl, hy⟩ := map_of_forall (f := chA) (p := fun y => inI y.1 ∧ inI y.2) fun x hx => two_arg (n := n) (h3 x hx)
  exact ⟨ys, h1, hy, by simpa using h2⟩
set_option maxRecDepth 100000 in
theorem ints_arg {x : AV} {n : Nat} (h : TA Try.prog (n + 1) 25 x) : ∃ zs : List Int, SlA 1 (intsA zs) x ∧ zs.length ≤ 9223372036854775807 ∧ ∀ z ∈ zs, inI z :=
  TA.ints Try.underlying25 Try.underlying3 (by kernel_rfl) h
set_option maxRecDepth 100000 in
theorem ints_cell {ls : List AV} {n : Nat} (h : TC Try.prog (n + 1) 25 ls) (hl : ls.length = Try.prog.cellsOf 25) : ∃ (x : AV) (zs : List Int), ls = [x] ∧ SlA 1 (intsA zs) x ∧ zs.length ≤ 9223372036854775807 ∧ ∀ z ∈ zs, inI z := by
  rw [show Try.prog.cellsOf 25 = 1 by kernel_rfl] at hl
  obtain ⟨x, rfl⟩ := List.length_eq_one_iff.1 hl
  obtain ⟨zs, h1, h2, h3⟩ := ints_arg (n := n) (x := x) ⟨[x], h, by rw [show Try.prog.cellsOf 25 = 1 by kernel_rfl]; rfl, by
    unfold wholeA
    rw [if_neg (by rw [show aggT Try.prog 25 = false by kernel_rfl]; simp)]; rfl⟩
  exact ⟨x, zs, rfl, h1, h2, h3⟩
set_option maxRecDepth 100000 in
theorem sched_arg {x : AV} {n : Nat} (h : TA Try.prog (n + 3) 30 x) : ∃ s ov sv pv, x = .agg [.int .i64 (Sched.period s), ov, sv, pv] ∧ SchV s ov sv pv := by
  obtain ⟨ls, rfl, hc, hl⟩ := TA.agg (show aggT Try.prog 30 = true by kernel_rfl) h
  rw [show n + 3 = (n + 2) + 1 from rfl] at hc
  unfold TC at hc
  rw [Try.underlying30] at hc
  simp only [TCs] at hc
  obtain ⟨a, _, rfl, ha, la, b, _, rfl, hb, lb, c, _, rfl, hc, lc, d, _, rfl, hd, ld, rfl⟩ := hc
  obtain ⟨ov, zo, rfl, o1, o2, o3⟩ := ints_cell (n := n + 1) hb lb
  obtain ⟨sv, zs, rfl, s1, s2, s3⟩ := ints_cell (n := n + 1) hc lc
  obtain ⟨pv, zp, rfl, p1, p2, p3⟩ := ints_cell (n := n + 1) hd ld
  simp only [TC, Try.underlying3] at ha
  obtain ⟨z, rfl, hz⟩ := ha
  exact ⟨⟨z, zo, zs, zp⟩, ov, sv, pv, rfl, o1, s1, p1, hz, o2, s2, s3, p2, p3⟩
theorem ownK : ownKnob Try.prog.godebug = none := by kernel_rfl
theorem grel0 {W : World} {OK : Nat → Prop} : GRel GC W OK := fun gl cs h => by simp [GC] at h
noncomputable def laidWorld (os : Os) : World := World.holding Try.prog os ⟨#[], #[], []⟩

/-! ### Make's tool -/
theorem mk_ch (x : X5) (ys : List (Int × Int)) : SlA 2 ((makeT x ys).ch.map chA) (slA 2 ((makeT x ys).ch.map chA)) := slA_holds _ _
theorem mk_len (x : X5) (ys : List (Int × Int)) : (makeT x ys).ch.length ≤ 4 := (make_valid x ys).2.2.2.1
theorem mk_frz (x : X5) (ys : List (Int × Int)) (A : Arena) : frz A 4 (mkA x ys) = mkA x ys := toolA_frz (fun A n => (mk_ch x ys).frz (A := A) n) A 3
theorem mk_noRef (x : X5) (ys : List (Int × Int)) : noRefB 4 (mkA x ys) = true := toolA_noRef (fun n => (mk_ch x ys).noRef n) 3
theorem schA_frz (s : Sched) (A : Arena) (n : Nat) : frz A (n + 1) (schA s) = schA s := by
  have k := fun o => (slA_holds 1 (intsA o)).frz (A := A) n
  simp [schA, frz, k, frz_i]
theorem schA_noRef (s : Sched) (n : Nat) : noRefB (n + 1) (schA s) = true := by
  have k := fun o => (slA_holds 1 (intsA o)).noRef n
  have ki : ∀ z, noRefB n (.int .i64 z) = true := fun z => by cases n <;> rfl
  simp [schA, noRefB, k, ki]
open Classical in
theorem M26_of {T : Tool} {chv : AV} (hcv : SlA 2 (T.ch.map chA) chv) (hl : T.ch.length ≤ 200) {s : Sched} (h : Chk T s) : M26 [toolA T chv, schA s] = some (.bool true) := by
  have := M26_eq hcv hl (schV_of h)
  rw [decide_eq_true h] at this
  exact this
end Go.Proofs.Ytemklhljjaniaaa
/-
  The functions, compiled; written by wip/gen.
-/
namespace Go.Proofs.Ytemklhljjaniaaa
open Go
def mf29 : MFun := ⟨1, 4, .seq (.region [⟨some 1, .box (.var 0), none⟩, ⟨some 2, .mv (.cst (.int .i64 0)), none⟩]) (.seq (.seq (.region [⟨none, .fieldAddr 4 (.var 1), none⟩, ⟨none, .load false 1 (.tmp 0), none⟩, ⟨some 3, .bin .eql (.tmp 1) (.cst (.int .i64 2)), none⟩]) (.cond (.var 3) (.seq (.region [⟨none, .fieldAddr 1 (.var 1), none⟩, ⟨none, .load false 1 (.tmp 0), none⟩, ⟨none, .fieldAddr 2 (.var 1), none⟩, ⟨none, .load false 1 (.tmp 2), none⟩, ⟨none, .bin .add (.tmp 1) (.tmp 3), none⟩, ⟨some 2, .mv (.tmp 4), none⟩]) .ret) .skip)) (.seq (.region [⟨none, .fieldAddr 1 (.var 1), none⟩, ⟨none, .load false 1 (.tmp 0), none⟩, ⟨none, .fieldAddr 3 (.var 1), none⟩, ⟨none, .load false 1 (.tmp 2), none⟩, ⟨none, .bin .add (.tmp 1) (.tmp 3), none⟩, ⟨none, .fieldAddr 2 (.var 1), none⟩, ⟨none, .load false 1 (.tmp 5), none⟩, ⟨none, .bin .add (.tmp 4) (.tmp 6), none⟩, ⟨some 2, .mv (.tmp 7), none⟩]) .ret)), [.tmp 2]⟩
set_option maxHeartbeats 4000000 in
theorem comp29 : compFun Try.prog Try.f29 1 [0, 1, 2, 5] [] true ([], []) = some mf29 := by kernel_rfl
theorem at29 : Try.prog.funcs[29]? = some Try.f29 := by kernel_rfl
end Go.Proofs.Ytemklhljjaniaaa
/-
  Cluster: the work of one task, of the reference.
-/
namespace Go.Proofs.Ytemklhljjaniaaa
open Go
open Cy (GC CArc arcA arcsOf isPer ValidA okA smM smT lvM lvT VerOk RefOk Ready Pos frz_i frz_b intsA_len M12_eq)

noncomputable def M29 : PModel := fun args => evP (envOf GC []) 0 mf29 1 args
theorem spec29 : PureSpec Try.prog GC 29 M29 := PureSpec.of_ev (E := envOf GC []) (envOf_sound lookM_nil) rfl at29 comp29 1 fun _ _ h => ⟨0, h⟩
set_option maxRecDepth 100000 in
theorem M29_eq {T : Tool} (chv : AV) (h : ValidC T) : M29 [toolA T chv] = some (.int .i64 (workT T)) := by
  obtain ⟨_, ⟨h1, h2, h3⟩, _⟩ := h
  obtain ⟨ch, pk, pl, tr, bl⟩ := T
  simp only at h1 h2 h3
  have b0 := evEqlI bl 2
  have b1 := evAddI (a := pk) (b := pl) (by omega)
  have b2 := evAddI (a := pk) (b := tr) (by omega)
  have b3 := evAddI (a := pk + tr) (b := pl) (by omega)
  rw [show toolA ⟨ch, pk, pl, tr, bl⟩ chv = .agg [chv, .int .i64 pk, .int .i64 pl, .int .i64 tr, .int .i64 bl] from rfl]
  have l : ∀ A : Arena, A[0]? = some (.row 5 false [.agg [chv, .int .i64 pk, .int .i64 pl, .int .i64 tr, .int .i64 bl]]) → evLoad false 1 A (.ptr 0 0 1) = some (.int .i64 pk) ∧ evLoad false 1 A (.ptr 0 0 2) = some (.int .i64 pl) ∧ evLoad false 1 A (.ptr 0 0 3) = some (.int .i64 tr) ∧ evLoad false 1 A (.ptr 0 0 4) = some (.int .i64 bl) := fun A hA => by
    refine ⟨?_, ?_, ?_, ?_⟩ <;> simp only [evLoad, hA] <;> rfl
  obtain ⟨l1, l2, l3, l4⟩ := l [.row 5 false [.agg [chv, .int .i64 pk, .int .i64 pl, .int .i64 tr, .int .i64 bl]]] rfl
  obtain ⟨s1, hs1⟩ : ∃ s, s = pk + pl := ⟨_, rfl⟩
  obtain ⟨s2, hs2⟩ : ∃ s, s = pk + tr := ⟨_, rfl⟩
  obtain ⟨s3, hs3⟩ : ∃ s, s = s2 + pl := ⟨_, rfl⟩
  rw [← hs1] at b1
  rw [← hs2] at b2 b3
  rw [← hs3] at b3
  have e : workT ⟨ch, pk, pl, tr, bl⟩ = if bl = 2 then s1 else s3 := by
    unfold workT; simp only; rw [hs3, hs2, hs1]
  rw [e]
  unfold M29
  rw [evP_run _ _ rfl]
  by_cases hb : bl = 2
  · rw [decide_eq_true hb] at b0
    rw [if_pos hb]
    simp [mf29, b0, b1, l1, l2, l4, -evBin, -evLoad]
  · rw [decide_eq_false hb] at b0
    rw [if_neg hb]
    simp [mf29, b0, b2, b3, l1, l2, l3, l4, -evBin, -evLoad]
end Go.Proofs.Ytemklhljjaniaaa
/-
  The functions, compiled; written by wip/gen.
-/
namespace Go.Proofs.Ytemklhljjaniaaa
open Go
def mf12 : MFun := ⟨2, 6, .seq (.region [⟨some 2, .box (.var 0), none⟩, ⟨some 3, .box (.var 1), none⟩, ⟨some 4, .alloc 5 (.agg [.nilS, .int .i64 0, .int .i64 0, .int .i64 0, .int .i64 0]), none⟩, ⟨some 5, .alloc 4 (.agg [.int .i64 0, .nilS, .nilS, .nilS]), none⟩]) (.seq (.region [⟨none, .fieldAddr 0 (.var 2), none⟩, ⟨none, .load false 1 (.tmp 0), none⟩, ⟨none, .fieldAddr 0 (.var 2), none⟩, ⟨none, .load false 1 (.tmp 2), none⟩, ⟨none, .lenSl (.tmp 3), none⟩, ⟨none, .minmax false (.tmp 4) [.cst (.int .i64 6)], none⟩, ⟨none, .sliceSl 2 (.tmp 1) none (some (.tmp 5)), none⟩, ⟨none, .fieldAddr 0 (.var 2), none⟩, ⟨none, .store 1 (.tmp 7) (.tmp 6), none⟩]) (.seq (.region [⟨none, .fieldAddr 1 (.var 3), none⟩, ⟨none, .load false 1 (.tmp 0), none⟩, ⟨none, .fieldAddr 1 (.var 3), none⟩, ⟨none, .load false 1 (.tmp 2), none⟩, ⟨none, .lenSl (.tmp 3), none⟩, ⟨none, .minmax false (.tmp 4) [.cst (.int .i64 7)], none⟩, ⟨none, .sliceSl 1 (.tmp 1) none (some (.tmp 5)), none⟩, ⟨none, .fieldAddr 1 (.var 3), none⟩, ⟨none, .store 1 (.tmp 7) (.tmp 6), none⟩]) (.seq (.region [⟨none, .fieldAddr 2 (.var 3), none⟩, ⟨none, .load false 1 (.tmp 0), none⟩, ⟨none, .fieldAddr 2 (.var 3), none⟩, ⟨none, .load false 1 (.tmp 2), none⟩, ⟨none, .lenSl (.tmp 3), none⟩, ⟨none, .minmax false (.tmp 4) [.cst (.int .i64 7)], none⟩, ⟨none, .sliceSl 1 (.tmp 1) none (some (.tmp 5)), none⟩, ⟨none, .fieldAddr 2 (.var 3), none⟩, ⟨none, .store 1 (.tmp 7) (.tmp 6), none⟩]) (.seq (.region [⟨none, .fieldAddr 3 (.var 3), none⟩, ⟨none, .load false 1 (.tmp 0), none⟩, ⟨none, .fieldAddr 3 (.var 3), none⟩, ⟨none, .load false 1 (.tmp 2), none⟩, ⟨none, .lenSl (.tmp 3), none⟩, ⟨none, .minmax false (.tmp 4) [.cst (.int .i64 12)], none⟩, ⟨none, .sliceSl 1 (.tmp 1) none (some (.tmp 5)), none⟩, ⟨none, .fieldAddr 3 (.var 3), none⟩, ⟨none, .store 1 (.tmp 7) (.tmp 6), none⟩]) (.seq (.regionD [] [⟨none, .load true 5 (.var 2), none⟩, ⟨none, .load true 4 (.var 3), none⟩, ⟨none, .store 5 (.var 4) (.tmp 0), none⟩, ⟨none, .store 4 (.var 5) (.tmp 1), none⟩] [(1, 2)]) .ret))))), [.cell 4 true 5, .cell 5 true 4]⟩
set_option maxHeartbeats 4000000 in
theorem comp12 : compFun Try.prog Try.f12 2 [0, 1, 2, 3, 4, 5] [] true ([], []) = some mf12 := by kernel_rfl
theorem at12 : Try.prog.funcs[12]? = some Try.f12 := by kernel_rfl
def lp15x0 : MC := .seq (.seq (.region [⟨none, .mv (.var 4), none⟩, ⟨none, .fieldAddr 0 (.var 1), none⟩, ⟨none, .load false 1 (.tmp 1), none⟩, ⟨none, .lenSl (.tmp 2), none⟩, ⟨some 7, .bin .leq (.tmp 0) (.tmp 3), none⟩]) (.cond (.var 7) .skip (.exit 0))) (.seq (.seq (.block 1 (.region [⟨none, .mv (.var 3), none⟩, ⟨none, .mv (.var 4), none⟩, ⟨none, .buildF 1 [.tmp 1], none⟩, ⟨none, .append 1 8 (.tmp 0) (.tmp 2), none⟩, ⟨some 3, .mv (.tmp 3), none⟩])) (.kill [0, 2, 5, 6, 7])) (.region [⟨none, .mv (.var 4), none⟩, ⟨none, .bin .add (.tmp 0) (.cst (.int .i64 1)), none⟩, ⟨some 4, .mv (.tmp 1), none⟩]))
def mf15 : MFun := ⟨1, 8, .seq (.region [⟨some 1, .box (.var 0), none⟩, ⟨some 2, .mv (.cst .nilS), none⟩]) (.seq (.seq (.region [⟨none, .load true 5 (.var 1), none⟩, ⟨none, .call (.fn 17) [.tmp 0], none⟩, ⟨some 5, .un .not (.tmp 1), none⟩]) (.cond (.var 5) (.seq (.region [⟨some 2, .mv (.cst .nilS), none⟩]) .ret) .skip)) (.seq (.seq (.region [⟨none, .fieldAddr 4 (.var 1), none⟩, ⟨none, .load false 1 (.tmp 0), none⟩, ⟨some 6, .bin .eql (.tmp 1) (.cst (.int .i64 2)), none⟩]) (.cond (.var 6) (.seq (.region [⟨some 3, .mv (.cst .nilS), none⟩]) (.seq (.seq (.region [⟨some 4, .mv (.cst (.int .i64 0)), none⟩]) (.seq (.block 0 (.loop [0, 2, 5, 6, 7] lp15x0)) (.kill [0, 1, 2, 4, 5, 6, 7]))) (.seq (.region [⟨none, .mv (.var 3), none⟩, ⟨none, .buildSlice 1 [.tmp 0], none⟩, ⟨some 2, .mv (.tmp 1), none⟩]) .ret))) .skip)) (.seq (.region [⟨none, .fieldAddr 0 (.var 1), none⟩, ⟨none, .load false 1 (.tmp 0), none⟩, ⟨none, .lenSl (.tmp 1), none⟩, ⟨none, .buildF 1 [.cst (.int .i64 0)], none⟩, ⟨none, .call (.fn 37) [.tmp 2, .tmp 3, .cst .nilS], none⟩, ⟨some 2, .mv (.tmp 4), none⟩]) .ret))), [.tmp 2]⟩
def mask15x0 : List Nat := [0, 2, 5, 6, 7]
abbrev st15x0 (v1 v3 v4 : AV) : List AV := [.undef, v1, .undef, v3, v4, .undef, .undef, .undef]
theorem cl15x0 {d0 v1 d2 v3 v4 d5 d6 d7 : AV} : clear mask15x0 [d0, v1, d2, v3, v4, d5, d6, d7] = st15x0 v1 v3 v4 := by simp only [mask15x0, clear, List.foldl_cons, List.foldl_nil, List.set_cons_zero, List.set_cons_succ]
theorem go15x0 {E : Env} {fuel : Nat} {A : Arena} {o : Out} {k : List KC} {d0 v1 d2 v3 v4 d5 d6 d7 : AV} (h : iter (evC E fuel lp15x0) mask15x0 fuel (st15x0 v1 v3 v4) A = some o) :
    run E fuel (.code (.loop [0, 2, 5, 6, 7] lp15x0) :: k) [d0, v1, d2, v3, v4, d5, d6, d7] A = after E fuel k o := run_loopC mask15x0 _ _ (by rw [cl15x0]; exact h)
set_option maxHeartbeats 4000000 in
theorem comp15 : compFun Try.prog Try.f15 1 [0, 1, 2, 3, 4, 7, 10, 15] [] true ([[0, 2, 5, 6, 7]], [[0, 2, 5, 6, 7], [0, 1, 2, 4, 5, 6, 7]]) = some mf15 := by kernel_rfl
theorem at15 : Try.prog.funcs[15]? = some Try.f15 := by kernel_rfl
def lp17x0 : MC := .seq (.seq (.region [⟨none, .mv (.var 4), none⟩, ⟨none, .mv (.var 3), none⟩, ⟨some 8, .bin .lss (.tmp 0) (.tmp 1), none⟩]) (.cond (.var 8) .skip (.exit 0))) (.seq (.seq (.block 1 (.seq (.region [⟨none, .fieldAddr 0 (.var 1), none⟩, ⟨none, .load false 1 (.tmp 0), none⟩, ⟨none, .mv (.var 4), none⟩, ⟨none, .indexSl 2 (.tmp 1) (.tmp 2), none⟩, ⟨none, .load true 2 (.tmp 3), none⟩, ⟨some 5, .alloc 2 (.agg [.int .i64 0, .int .i64 0]), none⟩, ⟨none, .store 2 (.var 5) (.tmp 4), none⟩]) (.seq (.region [⟨none, .fieldAddr 0 (.var 5), none⟩, ⟨none, .load false 1 (.tmp 0), none⟩, ⟨none, .bin .lss (.tmp 1) (.cst (.int .i64 0)), none⟩, ⟨none, .mv (.tmp 2), none⟩, ⟨none, .fieldAddr 0 (.var 5), some (.tmp 3, false)⟩, ⟨none, .load false 1 (.tmp 4), some (.tmp 3, false)⟩, ⟨none, .bin .gtr (.tmp 5) (.cst (.int .i64 100000)), some (.tmp 3, false)⟩, ⟨none, .pick (.tmp 3) (.cst (.bool true)) (.tmp 6), none⟩, ⟨none, .mv (.tmp 7), none⟩, ⟨none, .fieldAddr 1 (.var 5), some (.tmp 8, false)⟩, ⟨none, .load false 1 (.tmp 9), some (.tmp 8, false)⟩, ⟨none, .bin .lss (.tmp 10) (.cst (.int .i64 0)), some (.tmp 8, false)⟩, ⟨none, .pick (.tmp 8) (.cst (.bool true)) (.tmp 11), none⟩, ⟨none, .mv (.tmp 12), none⟩, ⟨none, .fieldAddr 1 (.var 5), some (.tmp 13, false)⟩, ⟨none, .load false 1 (.tmp 14), some (.tmp 13, false)⟩, ⟨none, .bin .gtr (.tmp 15) (.cst (.int .i64 100000)), some (.tmp 13, false)⟩, ⟨some 9, .pick (.tmp 13) (.cst (.bool true)) (.tmp 16), none⟩]) (.cond (.var 9) (.seq (.region [⟨some 2, .mv (.cst (.bool false)), none⟩]) .ret) .skip)))) (.kill [0, 2, 5, 6, 7, 8, 9, 10, 11, 12, 13, 14])) (.region [⟨none, .mv (.var 4), none⟩, ⟨none, .bin .add (.tmp 0) (.cst (.int .i64 1)), none⟩, ⟨some 4, .mv (.tmp 1), none⟩]))
def lp17x1 : MC := .seq (.region [⟨some 13, .bin .lss (.var 12) (.var 11), none⟩]) (.seq (.cond (.var 13) .skip (.exit 2)) (.seq (.seq (.block 3 (.seq (.region [⟨none, .indexSl 1 (.var 10) (.var 12), none⟩, ⟨none, .load false 1 (.tmp 0), none⟩, ⟨some 6, .mv (.tmp 1), none⟩]) (.seq (.region [⟨none, .mv (.var 6), none⟩, ⟨none, .bin .lss (.tmp 0) (.cst (.int .i64 0)), none⟩, ⟨none, .mv (.tmp 1), none⟩, ⟨none, .mv (.var 6), some (.tmp 2, false)⟩, ⟨none, .bin .gtr (.tmp 3) (.cst (.int .i64 10000)), some (.tmp 2, false)⟩, ⟨some 14, .pick (.tmp 2) (.cst (.bool true)) (.tmp 4), none⟩]) (.cond (.var 14) (.seq (.region [⟨some 2, .mv (.cst (.bool false)), none⟩]) .ret) .skip)))) (.kill [0, 1, 2, 3, 4, 5, 6, 7, 8, 9, 13, 14])) (.region [⟨none, .bin .add (.var 12) (.cst (.int .i64 1)), none⟩, ⟨some 12, .mv (.tmp 0), none⟩])))
def mf17 : MFun := ⟨1, 15, .seq (.region [⟨some 1, .box (.var 0), none⟩, ⟨some 2, .mv (.cst (.bool false)), none⟩]) (.seq (.region [⟨none, .fieldAddr 0 (.var 1), none⟩, ⟨none, .load false 1 (.tmp 0), none⟩, ⟨none, .lenSl (.tmp 1), none⟩, ⟨some 3, .mv (.tmp 2), none⟩]) (.seq (.seq (.region [⟨none, .mv (.var 3), none⟩, ⟨none, .bin .lss (.tmp 0) (.cst (.int .i64 1)), none⟩, ⟨none, .mv (.tmp 1), none⟩, ⟨none, .mv (.var 3), some (.tmp 2, false)⟩, ⟨none, .bin .gtr (.tmp 3) (.cst (.int .i64 4)), some (.tmp 2, false)⟩, ⟨none, .pick (.tmp 2) (.cst (.bool true)) (.tmp 4), none⟩, ⟨none, .mv (.tmp 5), none⟩, ⟨none, .fieldAddr 4 (.var 1), some (.tmp 6, false)⟩, ⟨none, .load false 1 (.tmp 7), some (.tmp 6, false)⟩, ⟨none, .bin .lss (.tmp 8) (.cst (.int .i64 1)), some (.tmp 6, false)⟩, ⟨none, .pick (.tmp 6) (.cst (.bool true)) (.tmp 9), none⟩, ⟨none, .mv (.tmp 10), none⟩, ⟨none, .fieldAddr 4 (.var 1), some (.tmp 11, false)⟩, ⟨none, .load false 1 (.tmp 12), some (.tmp 11, false)⟩, ⟨none, .bin .gtr (.tmp 13) (.cst (.int .i64 2)), some (.tmp 11, false)⟩, ⟨some 7, .pick (.tmp 11) (.cst (.bool true)) (.tmp 14), none⟩]) (.cond (.var 7) (.seq (.region [⟨some 2, .mv (.cst (.bool false)), none⟩]) .ret) .skip)) (.seq (.seq (.region [⟨some 4, .mv (.cst (.int .i64 0)), none⟩]) (.seq (.block 0 (.loop [0, 2, 5, 6, 7, 8, 9, 10, 11, 12, 13, 14] lp17x0)) (.kill [0, 2, 3, 4, 5, 6, 7, 8, 9, 10, 11, 12, 13, 14]))) (.seq (.seq (.region [⟨none, .fieldAddr 1 (.var 1), none⟩, ⟨none, .load false 1 (.tmp 0), none⟩, ⟨none, .fieldAddr 2 (.var 1), none⟩, ⟨none, .load false 1 (.tmp 2), none⟩, ⟨none, .fieldAddr 3 (.var 1), none⟩, ⟨none, .load false 1 (.tmp 4), none⟩, ⟨some 10, .buildSlice 1 [.tmp 1, .tmp 3, .tmp 5], none⟩, ⟨some 11, .lenSl (.var 10), none⟩, ⟨some 12, .mv (.cst (.int .i64 0)), none⟩]) (.seq (.block 2 (.loop [0, 1, 2, 3, 4, 5, 6, 7, 8, 9, 13, 14] lp17x1)) (.kill [0, 1, 2, 3, 4, 5, 6, 7, 8, 9, 10, 11, 12, 13, 14]))) (.seq (.region [⟨some 2, .mv (.cst (.bool true)), none⟩]) .ret))))), [.tmp 2]⟩
def mask17x0 : List Nat := [0, 2, 5, 6, 7, 8, 9, 10, 11, 12, 13, 14]
abbrev st17x0 (v1 v3 v4 : AV) : List AV := [.undef, v1, .undef, v3, v4, .undef, .undef, .undef, .undef, .undef, .undef, .undef, .undef, .undef, .undef]
theorem cl17x0 {d0 v1 d2 v3 v4 d5 d6 d7 d8 d9 d10 d11 d12 d13 d14 : AV} : clear mask17x0 [d0, v1, d2, v3, v4, d5, d6, d7, d8, d9, d10, d11, d12, d13, d14] = st17x0 v1 v3 v4 := by simp only [mask17x0, clear, List.foldl_cons, List.foldl_nil, List.set_cons_zero, List.set_cons_succ]
theorem go17x0 {E : Env} {fuel : Nat} {A : Arena} {o : Out} {k : List KC} {d0 v1 d2 v3 v4 d5 d6 d7 d8 d9 d10 d11 d12 d13 d14 : AV} (h : iter (evC E fuel lp17x0) mask17x0 fuel (st17x0 v1 v3 v4) A = some o) :
    run E fuel (.code (.loop [0, 2, 5, 6, 7, 8, 9, 10, 11, 12, 13, 14] lp17x0) :: k) [d0, v1, d2, v3, v4, d5, d6, d7, d8, d9, d10, d11, d12, d13, d14] A = after E fuel k o := run_loopC mask17x0 _ _ (by rw [cl17x0]; exact h)
def mask17x1 : List Nat := [0, 1, 2, 3, 4, 5, 6, 7, 8, 9, 13, 14]
abbrev st17x1 (v10 v11 v12 : AV) : List AV := [.undef, .undef, .undef, .undef, .undef, .undef, .undef, .undef, .undef, .undef, v10, v11, v12, .undef, .undef]
theorem cl17x1 {d0 d1 d2 d3 d4 d5 d6 d7 d8 d9 v10 v11 v12 d13 d14 : AV} : clear mask17x1 [d0, d1, d2, d3, d4, d5, d6, d7, d8, d9, v10, v11, v12, d13, d14] = st17x1 v10 v11 v12 := by simp only [mask17x1, clear, List.foldl_cons, List.foldl_nil, List.set_cons_zero, List.set_cons_succ]
theorem go17x1 {E : Env} {fuel : Nat} {A : Arena} {o : Out} {k : List KC} {d0 d1 d2 d3 d4 d5 d6 d7 d8 d9 v10 v11 v12 d13 d14 : AV} (h : iter (evC E fuel lp17x1) mask17x1 fuel (st17x1 v10 v11 v12) A = some o) :
    run E fuel (.code (.loop [0, 1, 2, 3, 4, 5, 6, 7, 8, 9, 13, 14] lp17x1) :: k) [d0, d1, d2, d3, d4, d5, d6, d7, d8, d9, v10, v11, v12, d13, d14] A = after E fuel k o := run_loopC mask17x1 _ _ (by rw [cl17x1]; exact h)
set_option maxHeartbeats 4000000 in
theorem comp17 : compFun Try.prog Try.f17 1 [0, 1, 2, 3, 4, 5, 7, 26, 29, 54, 61, 62, 63, 64, 72] [] true ([[0, 2, 5, 6, 7, 8, 9, 10, 11, 12, 13, 14], [0, 1, 2, 3, 4, 5, 6, 7, 8, 9, 13, 14]], [[0, 2, 5, 6, 7, 8, 9, 10, 11, 12, 13, 14], [0, 2, 3, 4, 5, 6, 7, 8, 9, 10, 11, 12, 13, 14], [0, 1, 2, 3, 4, 5, 6, 7, 8, 9, 13, 14], [0, 1, 2, 3, 4, 5, 6, 7, 8, 9, 10, 11, 12, 13, 14]]) = some mf17 := by kernel_rfl
theorem at17 : Try.prog.funcs[17]? = some Try.f17 := by kernel_rfl
def lp20x0 : MC := .seq (.seq (.region [⟨none, .mv (.var 7), none⟩, ⟨none, .mv (.var 1), none⟩, ⟨none, .lenSl (.tmp 1), none⟩, ⟨some 16, .bin .lss (.tmp 0) (.tmp 2), none⟩]) (.cond (.var 16) .skip (.exit 0))) (.seq (.seq (.block 1 (.seq (.region [⟨some 8, .mv (.cst (.int .i64 0)), none⟩]) (.seq (.region [⟨some 9, .mv (.cst (.int .i64 1)), none⟩]) (.seq (.seq (.region [⟨none, .mv (.var 7), none⟩, ⟨none, .bin .add (.tmp 0) (.cst (.int .i64 1)), none⟩, ⟨none, .mv (.var 1), none⟩, ⟨none, .lenSl (.tmp 2), none⟩, ⟨some 17, .bin .lss (.tmp 1) (.tmp 3), none⟩]) (.cond (.var 17) (.seq (.region [⟨none, .mv (.var 1), none⟩, ⟨none, .mv (.var 7), none⟩, ⟨none, .bin .add (.tmp 1) (.cst (.int .i64 1)), none⟩, ⟨none, .indexSl 1 (.tmp 0) (.tmp 2), none⟩, ⟨none, .load false 1 (.tmp 3), none⟩, ⟨some 8, .mv (.tmp 4), none⟩]) (.region [⟨some 9, .mv (.cst (.int .i64 0)), none⟩])) .skip)) (.seq (.region [⟨none, .mv (.var 1), none⟩, ⟨none, .mv (.var 7), none⟩, ⟨none, .indexSl 1 (.tmp 0) (.tmp 1), none⟩, ⟨none, .load false 1 (.tmp 2), none⟩, ⟨none, .mv (.var 8), none⟩, ⟨none, .mv (.var 5), none⟩, ⟨none, .mv (.var 9), none⟩, ⟨none, .build [.int .i64 0, .int .i64 0, .int .i64 0, .int .i64 0] [(0, (1, .tmp 3)), (1, (1, .tmp 4)), (2, (1, .tmp 5)), (3, (1, .tmp 6))], none⟩, ⟨some 10, .alloc 4 (.agg [.int .i64 0, .int .i64 0, .int .i64 0, .int .i64 0]), none⟩, ⟨none, .store 4 (.var 10) (.tmp 7), none⟩]) (.seq (.seq (.region [⟨none, .fieldAddr 4 (.var 2), none⟩, ⟨none, .load false 1 (.tmp 0), none⟩, ⟨none, .bin .eql (.tmp 1) (.cst (.int .i64 2)), none⟩, ⟨none, .mv (.tmp 2), none⟩, ⟨none, .mv (.var 8), some (.tmp 3, false)⟩, ⟨none, .mv (.var 1), some (.tmp 3, false)⟩, ⟨none, .mv (.var 7), some (.tmp 3, false)⟩, ⟨none, .indexSl 1 (.tmp 5) (.tmp 6), some (.tmp 3, false)⟩, ⟨none, .load false 1 (.tmp 7), some (.tmp 3, false)⟩, ⟨none, .bin .add (.tmp 8) (.cst (.int .i64 1)), some (.tmp 3, false)⟩, ⟨none, .bin .neq (.tmp 4) (.tmp 9), some (.tmp 3, false)⟩, ⟨some 18, .pick (.tmp 3) (.cst (.bool true)) (.tmp 10), none⟩]) (.cond (.var 18) (.region [⟨none, .fieldAddr 2 (.var 10), none⟩, ⟨none, .load false 1 (.tmp 0), none⟩, ⟨none, .fieldAddr 3 (.var 2), none⟩, ⟨none, .load false 1 (.tmp 2), none⟩, ⟨none, .bin .add (.tmp 1) (.tmp 3), none⟩, ⟨none, .fieldAddr 2 (.var 10), none⟩, ⟨none, .store 1 (.tmp 5) (.tmp 4), none⟩]) .skip)) (.region [⟨none, .mv (.var 6), none⟩, ⟨none, .load true 4 (.var 10), none⟩, ⟨none, .buildF 4 [.tmp 1], none⟩, ⟨none, .append 4 32 (.tmp 0) (.tmp 2), none⟩, ⟨some 6, .mv (.tmp 3), none⟩]))))))) (.kill [0, 3, 4, 8, 9, 10, 11, 12, 13, 14, 15, 16, 17, 18, 19, 20, 21])) (.region [⟨none, .mv (.var 7), none⟩, ⟨none, .bin .add (.tmp 0) (.cst (.int .i64 1)), none⟩, ⟨some 7, .mv (.tmp 1), none⟩]))
def lp20x1 : MC := .seq (.seq (.region [⟨none, .mv (.var 11), none⟩, ⟨none, .fieldAddr 0 (.var 2), none⟩, ⟨none, .load false 1 (.tmp 1), none⟩, ⟨none, .lenSl (.tmp 2), none⟩, ⟨some 19, .bin .leq (.tmp 0) (.tmp 3), none⟩]) (.cond (.var 19) .skip (.exit 2))) (.seq (.seq (.block 3 (.seq (.region [⟨none, .fieldAddr 0 (.var 2), none⟩, ⟨none, .load false 1 (.tmp 0), none⟩, ⟨none, .mv (.var 11), none⟩, ⟨none, .bin .sub (.tmp 2) (.cst (.int .i64 1)), none⟩, ⟨none, .indexSl 2 (.tmp 1) (.tmp 3), none⟩, ⟨none, .load true 2 (.tmp 4), none⟩, ⟨some 12, .alloc 2 (.agg [.int .i64 0, .int .i64 0]), none⟩, ⟨none, .store 2 (.var 12) (.tmp 5), none⟩]) (.seq (.region [⟨none, .mv (.var 11), none⟩, ⟨none, .bin .sub (.tmp 0) (.cst (.int .i64 1)), none⟩, ⟨some 13, .mv (.tmp 1), none⟩]) (.seq (.region [⟨some 14, .mv (.cst (.int .i64 0)), none⟩]) (.seq (.seq (.region [⟨none, .fieldAddr 4 (.var 2), none⟩, ⟨none, .load false 1 (.tmp 0), none⟩, ⟨some 20, .bin .eql (.tmp 1) (.cst (.int .i64 2)), none⟩]) (.cond (.var 20) (.seq (.region [⟨none, .mv (.var 11), none⟩, ⟨some 13, .mv (.tmp 0), none⟩]) (.region [⟨some 14, .mv (.cst (.int .i64 1)), none⟩])) (.seq (.region [⟨none, .mv (.var 1), none⟩, ⟨none, .mv (.var 11), none⟩, ⟨none, .call (.fn 48) [.tmp 0, .tmp 1], none⟩, ⟨none, .mv (.var 1), none⟩, ⟨none, .mv (.var 11), none⟩, ⟨none, .bin .sub (.tmp 4) (.cst (.int .i64 1)), none⟩, ⟨none, .call (.fn 48) [.tmp 3, .tmp 5], none⟩, ⟨some 21, .bin .lss (.tmp 2) (.tmp 6), none⟩]) (.cond (.var 21) (.region [⟨some 14, .mv (.cst (.int .i64 1)), none⟩]) .skip)))) (.region [⟨none, .mv (.var 6), none⟩, ⟨none, .mv (.var 13), none⟩, ⟨none, .mv (.var 11), none⟩, ⟨none, .mv (.var 5), none⟩, ⟨none, .fieldAddr 0 (.var 12), none⟩, ⟨none, .load false 1 (.tmp 4), none⟩, ⟨none, .bin .add (.tmp 3) (.tmp 5), none⟩, ⟨none, .mv (.var 14), none⟩, ⟨none, .build [.int .i64 0, .int .i64 0, .int .i64 0, .int .i64 0] [(0, (1, .tmp 1)), (1, (1, .tmp 2)), (2, (1, .tmp 6)), (3, (1, .tmp 7))], none⟩, ⟨none, .mv (.var 11), none⟩, ⟨none, .mv (.var 13), none⟩, ⟨none, .mv (.var 5), none⟩, ⟨none, .fieldAddr 0 (.var 12), none⟩, ⟨none, .load false 1 (.tmp 12), none⟩, ⟨none, .bin .add (.tmp 11) (.tmp 13), none⟩, ⟨none, .fieldAddr 1 (.var 12), none⟩, ⟨none, .load false 1 (.tmp 15), none⟩, ⟨none, .bin .add (.tmp 14) (.tmp 16), none⟩, ⟨none, .un .neg (.tmp 17), none⟩, ⟨none, .mv (.var 14), none⟩, ⟨none, .un .neg (.tmp 19), none⟩, ⟨none, .build [.int .i64 0, .int .i64 0, .int .i64 0, .int .i64 0] [(0, (1, .tmp 9)), (1, (1, .tmp 10)), (2, (1, .tmp 18)), (3, (1, .tmp 20))], none⟩, ⟨none, .buildF 4 [.tmp 8, .tmp 21], none⟩, ⟨none, .append 4 32 (.tmp 0) (.tmp 22), none⟩, ⟨some 6, .mv (.tmp 23), none⟩])))))) (.kill [0, 3, 4, 7, 8, 9, 10, 12, 13, 14, 15, 16, 17, 18, 19, 20, 21])) (.region [⟨none, .mv (.var 11), none⟩, ⟨none, .bin .add (.tmp 0) (.cst (.int .i64 1)), none⟩, ⟨some 11, .mv (.tmp 1), none⟩]))
def mf20 : MFun := ⟨2, 22, .seq (.region [⟨some 2, .box (.var 0), none⟩, ⟨some 3, .mv (.cst .nilS), none⟩, ⟨some 4, .mv (.cst (.int .i64 0)), none⟩]) (.seq (.seq (.region [⟨none, .load true 5 (.var 2), none⟩, ⟨none, .mv (.var 1), none⟩, ⟨none, .call (.fn 47) [.tmp 0, .tmp 1], none⟩, ⟨some 15, .un .not (.tmp 2), none⟩]) (.cond (.var 15) (.seq (.region [⟨some 3, .mv (.cst .nilS), none⟩, ⟨some 4, .mv (.cst (.int .i64 130)), none⟩]) .ret) .skip)) (.seq (.region [⟨none, .load true 5 (.var 2), none⟩, ⟨none, .call (.fn 29) [.tmp 0], none⟩, ⟨some 5, .mv (.tmp 1), none⟩]) (.seq (.region [⟨some 6, .mv (.cst .nilS), none⟩]) (.seq (.seq (.region [⟨some 7, .mv (.cst (.int .i64 0)), none⟩]) (.seq (.block 0 (.loop [0, 3, 4, 8, 9, 10, 11, 12, 13, 14, 15, 16, 17, 18, 19, 20, 21] lp20x0)) (.kill [0, 3, 4, 7, 8, 9, 10, 11, 12, 13, 14, 15, 16, 17, 18, 19, 20, 21]))) (.seq (.seq (.region [⟨some 11, .mv (.cst (.int .i64 1)), none⟩]) (.seq (.block 2 (.loop [0, 3, 4, 7, 8, 9, 10, 12, 13, 14, 15, 16, 17, 18, 19, 20, 21] lp20x1)) (.kill [0, 1, 2, 3, 4, 5, 7, 8, 9, 10, 11, 12, 13, 14, 15, 16, 17, 18, 19, 20, 21]))) (.seq (.region [⟨none, .mv (.var 6), none⟩, ⟨some 3, .mv (.tmp 0), none⟩, ⟨some 4, .mv (.cst (.int .i64 0)), none⟩]) .ret)))))), [.tmp 3, .tmp 4]⟩
def mask20x0 : List Nat := [0, 3, 4, 8, 9, 10, 11, 12, 13, 14, 15, 16, 17, 18, 19, 20, 21]
abbrev st20x0 (v1 v2 v5 v6 v7 : AV) : List AV := [.undef, v1, v2, .undef, .undef, v5, v6, v7, .undef, .undef, .undef, .undef, .undef, .undef, .undef, .undef, .undef, .undef, .undef, .undef, .undef, .undef]
theorem cl20x0 {d0 v1 v2 d3 d4 v5 v6 v7 d8 d9 d10 d11 d12 d13 d14 d15 d16 d17 d18 d19 d20 d21 : AV} : clear mask20x0 [d0, v1, v2, d3, d4, v5, v6, v7, d8, d9, d10, d11, d12, d13, d14, d15, d16, d17, d18, d19, d20, d21] = st20x0 v1 v2 v5 v6 v7 := by simp only [mask20x0, clear, List.foldl_cons, List.foldl_nil, List.set_cons_zero, List.set_cons_succ]
theorem go20x0 {E : Env} {fuel : Nat} {A : Arena} {o : Out} {k : List KC} {d0 v1 v2 d3 d4 v5 v6 v7 d8 d9 d10 d11 d12 d13 d14 d15 d16 d17 d18 d19 d20 d21 : AV} (h : iter (evC E fuel lp20x0) mask20x0 fuel (st20x0 v1 v2 v5 v6 v7) A = some o) :
    run E fuel (.code (.loop [0, 3, 4, 8, 9, 10, 11, 12, 13, 14, 15, 16, 17, 18, 19, 20, 21] lp20x0) :: k) [d0, v1, v2, d3, d4, v5, v6, v7, d8, d9, d10, d11, d12, d13, d14, d15, d16, d17, d18, d19, d20, d21] A = after E fuel k o := run_loopC mask20x0 _ _ (by rw [cl20x0]; exact h)
def mask20x1 : List Nat := [0, 3, 4, 7, 8, 9, 10, 12, 13, 14, 15, 16, 17, 18, 19, 20, 21]
abbrev st20x1 (v1 v2 v5 v6 v11 : AV) : List AV := [.undef, v1, v2, .undef, .undef, v5, v6, .undef, .undef, .undef, .undef, v11, .undef, .undef, .undef, .undef, .undef, .undef, .undef, .undef, .undef, .undef]
theorem cl20x1 {d0 v1 v2 d3 d4 v5 v6 d7 d8 d9 d10 v11 d12 d13 d14 d15 d16 d17 d18 d19 d20 d21 : AV} : clear mask20x1 [d0, v1, v2, d3, d4, v5, v6, d7, d8, d9, d10, v11, d12, d13, d14, d15, d16, d17, d18, d19, d20, d21] = st20x1 v1 v2 v5 v6 v11 := by simp only [mask20x1, clear, List.foldl_cons, List.foldl_nil, List.set_cons_zero, List.set_cons_succ]
theorem go20x1 {E : Env} {fuel : Nat} {A : Arena} {o : Out} {k : List KC} {d0 v1 v2 d3 d4 v5 v6 d7 d8 d9 d10 v11 d12 d13 d14 d15 d16 d17 d18 d19 d20 d21 : AV} (h : iter (evC E fuel lp20x1) mask20x1 fuel (st20x1 v1 v2 v5 v6 v11) A = some o) :
    run E fuel (.code (.loop [0, 3, 4, 7, 8, 9, 10, 12, 13, 14, 15, 16, 17, 18, 19, 20, 21] lp20x1) :: k) [d0, v1, v2, d3, d4, v5, v6, d7, d8, d9, d10, v11, d12, d13, d14, d15, d16, d17, d18, d19, d20, d21] A = after E fuel k o := run_loopC mask20x1 _ _ (by rw [cl20x1]; exact h)
set_option maxHeartbeats 4000000 in
theorem comp20 : compFun Try.prog Try.f20 2 [0, 1, 2, 4, 5, 6, 7, 8, 9, 10, 11, 12, 13, 14, 15, 19, 25, 32, 57, 72, 85, 94] [] true ([[0, 3, 4, 8, 9, 10, 11, 12, 13, 14, 15, 16, 17, 18, 19, 20, 21], [0, 3, 4, 7, 8, 9, 10, 12, 13, 14, 15, 16, 17, 18, 19, 20, 21]], [[0, 3, 4, 8, 9, 10, 11, 12, 13, 14, 15, 16, 17, 18, 19, 20, 21], [0, 3, 4, 7, 8, 9, 10, 11, 12, 13, 14, 15, 16, 17, 18, 19, 20, 21], [0, 3, 4, 7, 8, 9, 10, 12, 13, 14, 15, 16, 17, 18, 19, 20, 21], [0, 1, 2, 3, 4, 5, 7, 8, 9, 10, 11, 12, 13, 14, 15, 16, 17, 18, 19, 20, 21]]) = some mf20 := by kernel_rfl
theorem at20 : Try.prog.funcs[20]? = some Try.f20 := by kernel_rfl
def lp37x0 : MC := .seq (.seq (.region [⟨none, .mv (.var 6), none⟩, ⟨none, .mv (.var 1), none⟩, ⟨none, .lenSl (.tmp 1), none⟩, ⟨some 9, .bin .lss (.tmp 0) (.tmp 2), none⟩]) (.cond (.var 9) .skip (.exit 2))) (.seq (.seq (.block 3 (.region [⟨none, .mv (.var 5), none⟩, ⟨none, .mv (.tmp 0), none⟩, ⟨none, .mv (.var 1), some (.tmp 1, false)⟩, ⟨none, .mv (.var 6), some (.tmp 1, false)⟩, ⟨none, .indexSl 1 (.tmp 2) (.tmp 3), some (.tmp 1, false)⟩, ⟨none, .load false 1 (.tmp 4), some (.tmp 1, false)⟩, ⟨none, .mv (.var 4), some (.tmp 1, false)⟩, ⟨none, .bin .eql (.tmp 5) (.tmp 6), some (.tmp 1, false)⟩, ⟨none, .pick (.tmp 1) (.cst (.bool true)) (.tmp 7), none⟩, ⟨some 5, .mv (.tmp 8), none⟩])) (.kill [3, 7, 8, 9, 10])) (.region [⟨none, .mv (.var 6), none⟩, ⟨none, .bin .add (.tmp 0) (.cst (.int .i64 1)), none⟩, ⟨some 6, .mv (.tmp 1), none⟩]))
def lp37x1 : MC := .seq (.seq (.region [⟨none, .mv (.var 4), none⟩, ⟨none, .mv (.var 0), none⟩, ⟨some 8, .bin .leq (.tmp 0) (.tmp 1), none⟩]) (.cond (.var 8) .skip (.exit 0))) (.seq (.seq (.block 1 (.seq (.region [⟨some 5, .mv (.cst (.bool false)), none⟩]) (.seq (.seq (.region [⟨some 6, .mv (.cst (.int .i64 0)), none⟩]) (.seq (.block 2 (.loop [3, 7, 8, 9, 10] lp37x0)) (.kill [3, 6, 7, 8, 9, 10]))) (.seq (.region [⟨none, .mv (.var 5), none⟩, ⟨some 10, .un .not (.tmp 0), none⟩]) (.cond (.var 10) (.region [⟨none, .mv (.var 0), none⟩, ⟨none, .buildSlice 1 [], none⟩, ⟨none, .mv (.var 1), none⟩, ⟨none, .append 1 8 (.tmp 1) (.tmp 2), none⟩, ⟨none, .mv (.var 4), none⟩, ⟨none, .buildSlice 1 [.tmp 4], none⟩, ⟨none, .append 1 8 (.tmp 3) (.tmp 5), none⟩, ⟨none, .mv (.var 2), none⟩, ⟨none, .call (.fn 37) [.tmp 0, .tmp 6, .tmp 7], none⟩, ⟨some 2, .mv (.tmp 8), none⟩]) .skip))))) (.kill [3, 5, 6, 7, 8, 9, 10])) (.region [⟨none, .mv (.var 4), none⟩, ⟨none, .bin .add (.tmp 0) (.cst (.int .i64 1)), none⟩, ⟨some 4, .mv (.tmp 1), none⟩]))
def mf37 : MFun := ⟨3, 11, .seq (.region [⟨some 3, .mv (.cst .nilS), none⟩]) (.seq (.seq (.region [⟨none, .mv (.var 1), none⟩, ⟨none, .lenSl (.tmp 0), none⟩, ⟨none, .mv (.var 0), none⟩, ⟨none, .bin .add (.tmp 2) (.cst (.int .i64 1)), none⟩, ⟨some 7, .bin .eql (.tmp 1) (.tmp 3), none⟩]) (.cond (.var 7) (.seq (.region [⟨none, .mv (.var 2), none⟩, ⟨none, .buildSlice 1 [], none⟩, ⟨none, .mv (.var 1), none⟩, ⟨none, .append 1 8 (.tmp 1) (.tmp 2), none⟩, ⟨none, .buildSlice 1 [.tmp 3], none⟩, ⟨none, .append 1 24 (.tmp 0) (.tmp 4), none⟩, ⟨some 3, .mv (.tmp 5), none⟩]) .ret) .skip)) (.seq (.seq (.region [⟨some 4, .mv (.cst (.int .i64 1)), none⟩]) (.seq (.block 0 (.loop [3, 5, 6, 7, 8, 9, 10] lp37x1)) (.kill [0, 1, 3, 4, 5, 6, 7, 8, 9, 10]))) (.seq (.region [⟨none, .mv (.var 2), none⟩, ⟨some 3, .mv (.tmp 0), none⟩]) .ret))), [.tmp 3]⟩
def mask37x0 : List Nat := [3, 7, 8, 9, 10]
abbrev st37x0 (v0 v1 v2 v4 v5 v6 : AV) : List AV := [v0, v1, v2, .undef, v4, v5, v6, .undef, .undef, .undef, .undef]
theorem cl37x0 {v0 v1 v2 d3 v4 v5 v6 d7 d8 d9 d10 : AV} : clear mask37x0 [v0, v1, v2, d3, v4, v5, v6, d7, d8, d9, d10] = st37x0 v0 v1 v2 v4 v5 v6 := by simp only [mask37x0, clear, List.foldl_cons, List.foldl_nil, List.set_cons_zero, List.set_cons_succ]
theorem go37x0 {E : Env} {fuel : Nat} {A : Arena} {o : Out} {k : List KC} {v0 v1 v2 d3 v4 v5 v6 d7 d8 d9 d10 : AV} (h : iter (evC E fuel lp37x0) mask37x0 fuel (st37x0 v0 v1 v2 v4 v5 v6) A = some o) :
    run E fuel (.code (.loop [3, 7, 8, 9, 10] lp37x0) :: k) [v0, v1, v2, d3, v4, v5, v6, d7, d8, d9, d10] A = after E fuel k o := run_loopC mask37x0 _ _ (by rw [cl37x0]; exact h)
def mask37x1 : List Nat := [3, 5, 6, 7, 8, 9, 10]
abbrev st37x1 (v0 v1 v2 v4 : AV) : List AV := [v0, v1, v2, .undef, v4, .undef, .undef, .undef, .undef, .undef, .undef]
theorem cl37x1 {v0 v1 v2 d3 v4 d5 d6 d7 d8 d9 d10 : AV} : clear mask37x1 [v0, v1, v2, d3, v4, d5, d6, d7, d8, d9, d10] = st37x1 v0 v1 v2 v4 := by simp only [mask37x1, clear, List.foldl_cons, List.foldl_nil, List.set_cons_zero, List.set_cons_succ]
theorem go37x1 {E : Env} {fuel : Nat} {A : Arena} {o : Out} {k : List KC} {v0 v1 v2 d3 v4 d5 d6 d7 d8 d9 d10 : AV} (h : iter (evC E fuel lp37x1) mask37x1 fuel (st37x1 v0 v1 v2 v4) A = some o) :
    run E fuel (.code (.loop [3, 5, 6, 7, 8, 9, 10] lp37x1) :: k) [v0, v1, v2, d3, v4, d5, d6, d7, d8, d9, d10] A = after E fuel k o := run_loopC mask37x1 _ _ (by rw [cl37x1]; exact h)
set_option maxHeartbeats 4000000 in
theorem comp37 : compFun Try.prog Try.f37 3 [0, 1, 2, 6, 7, 8, 9, 14, 23, 29, 42] [] false ([[3, 5, 6, 7, 8, 9, 10], [3, 7, 8, 9, 10]], [[3, 7, 8, 9, 10], [3, 6, 7, 8, 9, 10], [3, 5, 6, 7, 8, 9, 10], [0, 1, 3, 4, 5, 6, 7, 8, 9, 10]]) = some mf37 := by kernel_rfl
theorem at37 : Try.prog.funcs[37]? = some Try.f37 := by kernel_rfl
def lp47x0 : MC := .seq (.seq (.region [⟨none, .mv (.var 5), none⟩, ⟨none, .mv (.var 4), none⟩, ⟨none, .lenSl (.tmp 1), none⟩, ⟨some 7, .bin .lss (.tmp 0) (.tmp 2), none⟩]) (.cond (.var 7) .skip (.exit 0))) (.seq (.seq (.block 1 (.seq (.region [⟨none, .mv (.var 4), none⟩, ⟨none, .mv (.var 5), none⟩, ⟨none, .indexSl 1 (.tmp 0) (.tmp 1), none⟩, ⟨none, .load false 1 (.tmp 2), none⟩, ⟨none, .mv (.var 1), none⟩, ⟨none, .call (.fn 18) [.tmp 3, .tmp 4], none⟩, ⟨some 6, .mv (.tmp 5), none⟩]) (.seq (.region [⟨some 8, .mv (.var 6), none⟩]) (.cond (.var 8) (.seq (.region [⟨some 3, .mv (.cst (.bool true)), none⟩]) .ret) .skip)))) (.kill [0, 2, 3, 6, 7, 8])) (.region [⟨none, .mv (.var 5), none⟩, ⟨none, .bin .add (.tmp 0) (.cst (.int .i64 1)), none⟩, ⟨some 5, .mv (.tmp 1), none⟩]))
def mf47 : MFun := ⟨2, 9, .seq (.region [⟨some 2, .box (.var 0), none⟩, ⟨some 3, .mv (.cst (.bool false)), none⟩]) (.seq (.region [⟨none, .load true 5 (.var 2), none⟩, ⟨none, .call (.fn 15) [.tmp 0], none⟩, ⟨some 4, .mv (.tmp 1), none⟩]) (.seq (.seq (.region [⟨some 5, .mv (.cst (.int .i64 0)), none⟩]) (.seq (.block 0 (.loop [0, 2, 3, 6, 7, 8] lp47x0)) (.kill [0, 1, 2, 3, 4, 5, 6, 7, 8]))) (.seq (.region [⟨some 3, .mv (.cst (.bool false)), none⟩]) .ret))), [.tmp 3]⟩
def mask47x0 : List Nat := [0, 2, 3, 6, 7, 8]
abbrev st47x0 (v1 v4 v5 : AV) : List AV := [.undef, v1, .undef, .undef, v4, v5, .undef, .undef, .undef]
theorem cl47x0 {d0 v1 d2 d3 v4 v5 d6 d7 d8 : AV} : clear mask47x0 [d0, v1, d2, d3, v4, v5, d6, d7, d8] = st47x0 v1 v4 v5 := by simp only [mask47x0, clear, List.foldl_cons, List.foldl_nil, List.set_cons_zero, List.set_cons_succ]
theorem go47x0 {E : Env} {fuel : Nat} {A : Arena} {o : Out} {k : List KC} {d0 v1 d2 d3 v4 v5 d6 d7 d8 : AV} (h : iter (evC E fuel lp47x0) mask47x0 fuel (st47x0 v1 v4 v5) A = some o) :
    run E fuel (.code (.loop [0, 2, 3, 6, 7, 8] lp47x0) :: k) [d0, v1, d2, d3, v4, v5, d6, d7, d8] A = after E fuel k o := run_loopC mask47x0 _ _ (by rw [cl47x0]; exact h)
set_option maxHeartbeats 4000000 in
theorem comp47 : compFun Try.prog Try.f47 2 [0, 1, 2, 4, 5, 6, 7, 13, 22] [] true ([[0, 2, 3, 6, 7, 8]], [[0, 2, 3, 6, 7, 8], [0, 1, 2, 3, 4, 5, 6, 7, 8]]) = some mf47 := by kernel_rfl
theorem at47 : Try.prog.funcs[47]? = some Try.f47 := by kernel_rfl
def lp48x0 : MC := .seq (.seq (.region [⟨none, .mv (.var 3), none⟩, ⟨none, .mv (.var 0), none⟩, ⟨none, .lenSl (.tmp 1), none⟩, ⟨some 4, .bin .lss (.tmp 0) (.tmp 2), none⟩]) (.cond (.var 4) .skip (.exit 0))) (.seq (.seq (.block 1 (.seq (.region [⟨none, .mv (.var 0), none⟩, ⟨none, .mv (.var 3), none⟩, ⟨none, .indexSl 1 (.tmp 0) (.tmp 1), none⟩, ⟨none, .load false 1 (.tmp 2), none⟩, ⟨none, .mv (.var 1), none⟩, ⟨some 5, .bin .eql (.tmp 3) (.tmp 4), none⟩]) (.cond (.var 5) (.seq (.region [⟨none, .mv (.var 3), none⟩, ⟨some 2, .mv (.tmp 0), none⟩]) .ret) .skip))) (.kill [2, 4, 5])) (.region [⟨none, .mv (.var 3), none⟩, ⟨none, .bin .add (.tmp 0) (.cst (.int .i64 1)), none⟩, ⟨some 3, .mv (.tmp 1), none⟩]))
def mf48 : MFun := ⟨2, 6, .seq (.region [⟨some 2, .mv (.cst (.int .i64 0)), none⟩]) (.seq (.seq (.region [⟨some 3, .mv (.cst (.int .i64 0)), none⟩]) (.seq (.block 0 (.loop [2, 4, 5] lp48x0)) (.kill [0, 1, 2, 3, 4, 5]))) (.seq (.region [⟨some 2, .mv (.cst (.int .i64 (-1))), none⟩]) .ret)), [.tmp 2]⟩
def mask48x0 : List Nat := [2, 4, 5]
abbrev st48x0 (v0 v1 v3 : AV) : List AV := [v0, v1, .undef, v3, .undef, .undef]
theorem cl48x0 {v0 v1 d2 v3 d4 d5 : AV} : clear mask48x0 [v0, v1, d2, v3, d4, d5] = st48x0 v0 v1 v3 := by simp only [mask48x0, clear, List.foldl_cons, List.foldl_nil, List.set_cons_zero, List.set_cons_succ]
theorem go48x0 {E : Env} {fuel : Nat} {A : Arena} {o : Out} {k : List KC} {v0 v1 d2 v3 d4 d5 : AV} (h : iter (evC E fuel lp48x0) mask48x0 fuel (st48x0 v0 v1 v3) A = some o) :
    run E fuel (.code (.loop [2, 4, 5] lp48x0) :: k) [v0, v1, d2, v3, d4, d5] A = after E fuel k o := run_loopC mask48x0 _ _ (by rw [cl48x0]; exact h)
set_option maxHeartbeats 4000000 in
theorem comp48 : compFun Try.prog Try.f48 2 [0, 1, 4, 5, 9, 17] [] true ([[2, 4, 5]], [[2, 4, 5], [0, 1, 2, 3, 4, 5]]) = some mf48 := by kernel_rfl
theorem at48 : Try.prog.funcs[48]? = some Try.f48 := by kernel_rfl
def lp3x0 : MC := .seq (.seq (.region [⟨none, .mv (.var 12), none⟩, ⟨none, .mv (.var 11), none⟩, ⟨none, .lenSl (.tmp 1), none⟩, ⟨some 22, .bin .lss (.tmp 0) (.tmp 2), none⟩]) (.cond (.var 22) .skip (.exit 2))) (.seq (.seq (.block 3 (.seq (.seq (.region [⟨none, .mv (.var 12), none⟩, ⟨none, .mv (.var 10), none⟩, ⟨none, .lenSl (.tmp 1), none⟩, ⟨none, .bin .lss (.tmp 0) (.tmp 2), none⟩, ⟨none, .mv (.tmp 3), none⟩, ⟨none, .mv (.var 10), some (.tmp 4, true)⟩, ⟨none, .mv (.var 12), some (.tmp 4, true)⟩, ⟨none, .indexSl 1 (.tmp 5) (.tmp 6), some (.tmp 4, true)⟩, ⟨none, .load false 1 (.tmp 7), some (.tmp 4, true)⟩, ⟨none, .mv (.var 11), some (.tmp 4, true)⟩, ⟨none, .mv (.var 12), some (.tmp 4, true)⟩, ⟨none, .indexSl 1 (.tmp 9) (.tmp 10), some (.tmp 4, true)⟩, ⟨none, .load false 1 (.tmp 11), some (.tmp 4, true)⟩, ⟨none, .call (.fn 18) [.tmp 8, .tmp 12], some (.tmp 4, true)⟩, ⟨none, .un .not (.tmp 13), some (.tmp 4, true)⟩, ⟨some 23, .pick (.tmp 4) (.tmp 14) (.cst (.bool false)), none⟩]) (.cond (.var 23) (.seq (.region [⟨some 6, .mv (.cst (.bool false)), none⟩]) .ret) .skip)) (.seq (.region [⟨none, .load true 5 (.var 9), none⟩, ⟨none, .mv (.var 11), none⟩, ⟨none, .mv (.var 12), none⟩, ⟨none, .indexSl 1 (.tmp 1) (.tmp 2), none⟩, ⟨none, .load false 1 (.tmp 3), none⟩, ⟨none, .call (.fn 19) [.tmp 0, .tmp 4], none⟩, ⟨none, .mv (.tmp 5), none⟩, ⟨none, .extract (.tmp 6) 0, none⟩, ⟨none, .extract (.tmp 6) 1, none⟩, ⟨some 13, .mv (.tmp 7), none⟩, ⟨some 14, .mv (.tmp 8), none⟩]) (.seq (.region [⟨none, .load true 5 (.var 9), none⟩, ⟨none, .mv (.var 11), none⟩, ⟨none, .mv (.var 12), none⟩, ⟨none, .indexSl 1 (.tmp 1) (.tmp 2), none⟩, ⟨none, .load false 1 (.tmp 3), none⟩, ⟨none, .call (.fn 20) [.tmp 0, .tmp 4], none⟩, ⟨none, .mv (.tmp 5), none⟩, ⟨none, .extract (.tmp 6) 0, none⟩, ⟨none, .extract (.tmp 6) 1, none⟩, ⟨some 15, .mv (.tmp 7), none⟩, ⟨some 16, .mv (.tmp 8), none⟩]) (.seq (.region [⟨none, .mv (.var 14), none⟩, ⟨none, .mv (.var 16), none⟩, ⟨none, .bin .neq (.tmp 0) (.tmp 1), none⟩, ⟨none, .mv (.tmp 2), none⟩, ⟨none, .mv (.var 13), some (.tmp 3, false)⟩, ⟨none, .mv (.var 15), some (.tmp 3, false)⟩, ⟨none, .call (.fn 21) [.tmp 4, .tmp 5], some (.tmp 3, false)⟩, ⟨none, .un .not (.tmp 6), some (.tmp 3, false)⟩, ⟨some 24, .pick (.tmp 3) (.cst (.bool true)) (.tmp 7), none⟩]) (.cond (.var 24) (.seq (.region [⟨some 6, .mv (.cst (.bool false)), none⟩]) .ret) .skip)))))) (.kill [0, 2, 3, 4, 5, 6, 8, 13, 14, 15, 16, 20, 21, 22, 23, 24])) (.region [⟨none, .mv (.var 12), none⟩, ⟨none, .bin .add (.tmp 0) (.cst (.int .i64 1)), none⟩, ⟨some 12, .mv (.tmp 1), none⟩]))
def lp3x1 : MC := .seq (.region [⟨some 20, .bin .lss (.var 19) (.var 18), none⟩]) (.seq (.cond (.var 20) .skip (.exit 0)) (.seq (.seq (.block 1 (.seq (.region [⟨none, .indexSl 5 (.var 17) (.var 19), none⟩, ⟨none, .load true 5 (.tmp 0), none⟩, ⟨some 9, .alloc 5 (.agg [.nilS, .int .i64 0, .int .i64 0, .int .i64 0, .int .i64 0]), none⟩, ⟨none, .store 5 (.var 9) (.tmp 1), none⟩]) (.seq (.region [⟨none, .load true 5 (.var 9), none⟩, ⟨none, .call (.fn 14) [.tmp 0], none⟩, ⟨some 10, .mv (.tmp 1), none⟩]) (.seq (.region [⟨none, .load true 5 (.var 9), none⟩, ⟨none, .call (.fn 15) [.tmp 0], none⟩, ⟨some 11, .mv (.tmp 1), none⟩]) (.seq (.seq (.regionD [] [⟨none, .load true 5 (.var 9), none⟩, ⟨none, .call (.fn 16) [.tmp 0], none⟩, ⟨none, .load true 5 (.var 9), none⟩, ⟨none, .call (.fn 17) [.tmp 2], none⟩, ⟨none, .eqBool true (.tmp 1) (.tmp 3), none⟩, ⟨none, .mv (.tmp 4), none⟩, ⟨none, .mv (.var 10), some (.tmp 5, false)⟩, ⟨none, .lenSl (.tmp 6), some (.tmp 5, false)⟩, ⟨none, .mv (.var 11), some (.tmp 5, false)⟩, ⟨none, .lenSl (.tmp 8), some (.tmp 5, false)⟩, ⟨none, .bin .neq (.tmp 7) (.tmp 9), some (.tmp 5, false)⟩, ⟨some 21, .pick (.tmp 5) (.cst (.bool true)) (.tmp 10), none⟩] [(1, 2)]) (.cond (.var 21) (.seq (.region [⟨some 6, .mv (.cst (.bool false)), none⟩]) .ret) .skip)) (.seq (.region [⟨none, .mv (.var 11), none⟩, ⟨none, .mv (.var 1), none⟩, ⟨none, .buildF 1 [.tmp 1], none⟩, ⟨none, .append 1 24 (.tmp 0) (.tmp 2), none⟩, ⟨some 11, .mv (.tmp 3), none⟩]) (.seq (.region [⟨some 12, .mv (.cst (.int .i64 0)), none⟩]) (.seq (.block 2 (.loop [0, 2, 3, 4, 5, 6, 8, 13, 14, 15, 16, 20, 21, 22, 23, 24] lp3x0)) (.kill [0, 2, 3, 4, 5, 6, 8, 9, 10, 11, 12, 13, 14, 15, 16, 20, 21, 22, 23, 24]))))))))) (.kill [0, 2, 3, 4, 5, 6, 8, 9, 10, 11, 12, 13, 14, 15, 16, 20, 21, 22, 23, 24])) (.region [⟨none, .bin .add (.var 19) (.cst (.int .i64 1)), none⟩, ⟨some 19, .mv (.tmp 0), none⟩])))
def mf3 : MFun := ⟨4, 25, .seq (.region [⟨some 4, .box (.var 0), none⟩, ⟨some 5, .box (.var 2), none⟩, ⟨some 6, .mv (.cst (.bool false)), none⟩]) (.seq (.region [⟨none, .call (.fn 11) [], none⟩, ⟨some 7, .mv (.tmp 0), none⟩]) (.seq (.region [⟨none, .load true 5 (.var 4), none⟩, ⟨none, .build [.int .i64 0, .nilS, .nilS, .nilS] [], none⟩, ⟨none, .call (.fn 12) [.tmp 0, .tmp 1], none⟩, ⟨none, .mv (.tmp 2), none⟩, ⟨none, .extract (.tmp 3) 0, none⟩, ⟨none, .extract (.tmp 3) 1, none⟩, ⟨some 8, .alloc 5 (.agg [.nilS, .int .i64 0, .int .i64 0, .int .i64 0, .int .i64 0]), none⟩, ⟨none, .alloc 4 (.agg [.int .i64 0, .nilS, .nilS, .nilS]), none⟩, ⟨none, .store 5 (.var 8) (.tmp 4), none⟩, ⟨none, .store 4 (.tmp 7) (.tmp 5), none⟩]) (.seq (.region [⟨none, .mv (.var 1), none⟩, ⟨none, .mv (.var 1), none⟩, ⟨none, .lenSl (.tmp 1), none⟩, ⟨none, .minmax false (.tmp 2) [.cst (.int .i64 7)], none⟩, ⟨none, .sliceSl 1 (.tmp 0) none (some (.tmp 3)), none⟩, ⟨some 1, .mv (.tmp 4), none⟩]) (.seq (.seq (.regionD [] [⟨none, .load true 5 (.var 8), none⟩, ⟨none, .load true 5 (.var 5), none⟩, ⟨none, .mv (.var 3), none⟩, ⟨none, .call (.fn 13) [.tmp 1, .tmp 2], none⟩, ⟨some 17, .buildSlice 5 [.tmp 0, .tmp 3], none⟩, ⟨some 18, .lenSl (.var 17), none⟩, ⟨some 19, .mv (.cst (.int .i64 0)), none⟩] [(0, 3)]) (.seq (.block 0 (.loop [0, 2, 3, 4, 5, 6, 8, 9, 10, 11, 12, 13, 14, 15, 16, 20, 21, 22, 23, 24] lp3x1)) (.kill [0, 1, 2, 3, 4, 5, 6, 8, 9, 10, 11, 12, 13, 14, 15, 16, 17, 18, 19, 20, 21, 22, 23, 24]))) (.seq (.region [⟨none, .mv (.var 7), none⟩, ⟨some 6, .mv (.tmp 0), none⟩]) .ret))))), [.tmp 6]⟩
def mask3x0 : List Nat := [0, 2, 3, 4, 5, 6, 8, 13, 14, 15, 16, 20, 21, 22, 23, 24]
abbrev st3x0 (v1 v7 v9 v10 v11 v12 v17 v18 v19 : AV) : List AV := [.undef, v1, .undef, .undef, .undef, .undef, .undef, v7, .undef, v9, v10, v11, v12, .undef, .undef, .undef, .undef, v17, v18, v19, .undef, .undef, .undef, .undef, .undef]
theorem cl3x0 {d0 v1 d2 d3 d4 d5 d6 v7 d8 v9 v10 v11 v12 d13 d14 d15 d16 v17 v18 v19 d20 d21 d22 d23 d24 : AV} : clear mask3x0 [d0, v1, d2, d3, d4, d5, d6, v7, d8, v9, v10, v11, v12, d13, d14, d15, d16, v17, v18, v19, d20, d21, d22, d23, d24] = st3x0 v1 v7 v9 v10 v11 v12 v17 v18 v19 := by simp only [mask3x0, clear, List.foldl_cons, List.foldl_nil, List.set_cons_zero, List.set_cons_succ]
theorem go3x0 {E : Env} {fuel : Nat} {A : Arena} {o : Out} {k : List KC} {d0 v1 d2 d3 d4 d5 d6 v7 d8 v9 v10 v11 v12 d13 d14 d15 d16 v17 v18 v19 d20 d21 d22 d23 d24 : AV} (h : iter (evC E fuel lp3x0) mask3x0 fuel (st3x0 v1 v7 v9 v10 v11 v12 v17 v18 v19) A = some o) :
    run E fuel (.code (.loop [0, 2, 3, 4, 5, 6, 8, 13, 14, 15, 16, 20, 21, 22, 23, 24] lp3x0) :: k) [d0, v1, d2, d3, d4, d5, d6, v7, d8, v9, v10, v11, v12, d13, d14, d15, d16, v17, v18, v19, d20, d21, d22, d23, d24] A = after E fuel k o := run_loopC mask3x0 _ _ (by rw [cl3x0]; exact h)
def mask3x1 : List Nat := [0, 2, 3, 4, 5, 6, 8, 9, 10, 11, 12, 13, 14, 15, 16, 20, 21, 22, 23, 24]
abbrev st3x1 (v1 v7 v17 v18 v19 : AV) : List AV := [.undef, v1, .undef, .undef, .undef, .undef, .undef, v7, .undef, .undef, .undef, .undef, .undef, .undef, .undef, .undef, .undef, v17, v18, v19, .undef, .undef, .undef, .undef, .undef]
theorem cl3x1 {d0 v1 d2 d3 d4 d5 d6 v7 d8 d9 d10 d11 d12 d13 d14 d15 d16 v17 v18 v19 d20 d21 d22 d23 d24 : AV} : clear mask3x1 [d0, v1, d2, d3, d4, d5, d6, v7, d8, d9, d10, d11, d12, d13, d14, d15, d16, v17, v18, v19, d20, d21, d22, d23, d24] = st3x1 v1 v7 v17 v18 v19 := by simp only [mask3x1, clear, List.foldl_cons, List.foldl_nil, List.set_cons_zero, List.set_cons_succ]
theorem go3x1 {E : Env} {fuel : Nat} {A : Arena} {o : Out} {k : List KC} {d0 v1 d2 d3 d4 d5 d6 v7 d8 d9 d10 d11 d12 d13 d14 d15 d16 v17 v18 v19 d20 d21 d22 d23 d24 : AV} (h : iter (evC E fuel lp3x1) mask3x1 fuel (st3x1 v1 v7 v17 v18 v19) A = some o) :
    run E fuel (.code (.loop [0, 2, 3, 4, 5, 6, 8, 9, 10, 11, 12, 13, 14, 15, 16, 20, 21, 22, 23, 24] lp3x1) :: k) [d0, v1, d2, d3, d4, d5, d6, v7, d8, d9, d10, d11, d12, d13, d14, d15, d16, v17, v18, v19, d20, d21, d22, d23, d24] A = after E fuel k o := run_loopC mask3x1 _ _ (by rw [cl3x1]; exact h)
set_option maxHeartbeats 4000000 in
theorem comp3 : compFun Try.prog Try.f3 4 [0, 1, 2, 3, 4, 6, 8, 9, 10, 13, 14, 15, 16, 17, 18, 19, 20, 37, 38, 39, 40, 58, 66, 84, 111] [] true ([[0, 2, 3, 4, 5, 6, 8, 9, 10, 11, 12, 13, 14, 15, 16, 20, 21, 22, 23, 24], [0, 2, 3, 4, 5, 6, 8, 13, 14, 15, 16, 20, 21, 22, 23, 24]], [[0, 2, 3, 4, 5, 6, 8, 13, 14, 15, 16, 20, 21, 22, 23, 24], [0, 2, 3, 4, 5, 6, 8, 9, 10, 11, 12, 13, 14, 15, 16, 20, 21, 22, 23, 24], [0, 2, 3, 4, 5, 6, 8, 9, 10, 11, 12, 13, 14, 15, 16, 20, 21, 22, 23, 24], [0, 1, 2, 3, 4, 5, 6, 8, 9, 10, 11, 12, 13, 14, 15, 16, 17, 18, 19, 20, 21, 22, 23, 24]]) = some mf3 := by kernel_rfl
theorem at3 : Try.prog.funcs[3]? = some Try.f3 := by kernel_rfl
end Go.Proofs.Ytemklhljjaniaaa
/-
  Cluster: the reference: index, Valid.
-/
namespace Go.Proofs.Ytemklhljjaniaaa
open Go
open Cy (GC CArc arcA arcsOf isPer ValidA okA smM smT lvM lvT VerOk RefOk Ready Pos frz_i frz_b intsA_len M12_eq idxZ idxZ_some idxZ_none)

/-! ### index -/
noncomputable def M48 : PModel := fun args => evP (envOf GC []) 300 mf48 1 args
theorem spec48 : PureSpec Try.prog GC 48 M48 := PureSpec.of_ev (E := envOf GC []) (envOf_sound lookM_nil) rfl at48 comp48 1 fun _ _ h => ⟨300, h⟩
set_option maxRecDepth 100000 in
theorem M48_eq {xs : List Int} {b : AV} (hb : SlA 1 (intsA xs) b) (hl : xs.length ≤ 200) (v : Int) : M48 [b, .int .i64 v] = some (.int .i64 (idxZ (isI v) xs)) := by
  have hlen := hb.len
  rw [intsA_len] at hlen
  have round : ∀ (A : Arena) (i : Nat) (hi : i < xs.length), run (envOf GC []) 300 [.code lp48x0] (st48x0 b (.int .i64 v) (.int .i64 (i : Int))) A =
      if isI v xs[i] = false then some (.normal (st48x0 b (.int .i64 v) (.int .i64 ((i + 1 : Nat) : Int))) A) else some (.ret [b, .int .i64 v, .int .i64 (i : Int), .int .i64 (i : Int), .bool true, .bool true] A) := fun A i hi => by
    have x1 := hb.int (A := A) _ _ (List.getElem?_eq_getElem hi) .i64
    have m : evBin .eql (.int .i64 xs[i]) (.int .i64 v) = some (.bool (isI v xs[i])) := by
      rw [evEqlI]; congr 2; unfold isI; exact decide_eq_decide.2 eq_comm
    have b1 := lt_nat i xs.length .i64
    rw [decide_eq_true hi] at b1
    have b3 := add1_nat i (by omega)
    obtain ⟨i1, hi1⟩ : ∃ i1 : Nat, i1 = i + 1 := ⟨_, rfl⟩
    rw [← hi1] at b3 ⊢
    obtain ⟨d, hd⟩ : ∃ d, d = isI v xs[i] := ⟨_, rfl⟩
    rw [← hd] at m ⊢
    cases d with
    | false => simp [lp48x0, x1, m, b1, b3, hlen, -evBin, -evIndexSl, -evLenSl]
    | true => simp [lp48x0, x1, m, b1, hlen, -evBin, -evIndexSl, -evLenSl]
  have bE := lt_nat xs.length xs.length .i64
  rw [decide_eq_false (by omega)] at bE
  unfold M48
  rw [evP_run _ _ rfl]
  rcases iter_search (E := envOf GC []) (fuel := 300) (a := lp48x0) (mask := mask48x0) (fun i => st48x0 b (.int .i64 v) (.int .i64 (i : Int))) (fun _ => []) xs.length (fun i => ¬ ∀ hi : i < xs.length, isI v xs[i] = false)
    (oF := fun i => .ret [b, .int .i64 v, .int .i64 (i : Int), .int .i64 (i : Int), .bool true, .bool true] []) (oE := .exit 0 ((st48x0 b (.int .i64 v) (.int .i64 (xs.length : Int))).set 4 (.bool false)) [])
    (fun _ => cl48x0) (fun _ _ _ h => by cases h) (fun _ _ h => by cases h)
    (fun i hi hp => by
      rw [round [] i hi]
      exact if_pos (Classical.not_not.1 hp hi))
    (fun i hi hp => by
      rw [round [] i hi]
      exact if_neg fun h => hp fun _ => h)
    (by simp [lp48x0, hlen, bE, -evBin, -evLenSl]) (show xs.length < 300 by omega) with ⟨i, hi, hp, hj, lp⟩ | ⟨hp, lp⟩
  · have lp : iter (evC (envOf GC []) 300 lp48x0) mask48x0 300 (st48x0 b (.int .i64 v) (.int .i64 0)) [] = _ := lp
    have e : idxZ (isI v) xs = (i : Int) := idxZ_some hi (by
      cases h' : isI v xs[i] with
      | true => rfl
      | false => exact absurd (fun _ => h') hp) (fun j hj' => Classical.not_not.1 (hj j hj') (by omega))
    rw [e]
    simp [mf48, go48x0 lp, -evBin, -evLenSl]
  · have lp : iter (evC (envOf GC []) 300 lp48x0) mask48x0 300 (st48x0 b (.int .i64 v) (.int .i64 0)) [] = _ := lp
    have e : idxZ (isI v) xs = -1 := idxZ_none fun i hi => Classical.not_not.1 (hp i hi) hi
    rw [e]
    simp [mf48, go48x0 lp, -evBin, -evLenSl]

/-! ### Valid -/
noncomputable def M17 : PModel := fun args => evP (envOf GC []) 300 mf17 1 args
theorem spec17 : PureSpec Try.prog GC 17 M17 := PureSpec.of_ev (E := envOf GC []) (envOf_sound lookM_nil) rfl at17 comp17 1 fun _ _ h => ⟨300, h⟩
def B17 (T : Tool) (chv : AV) (i : Nat) : Arena := .row 5 false [toolA T chv] :: (T.ch.take i).map fun c => .row 2 false [chA c]
theorem B17_len {T : Tool} {chv : AV} {i : Nat} (hi : i ≤ T.ch.length) : (B17 T chv i).length = i + 1 := by simp [B17, hi]
theorem B17_succ {T : Tool} {chv : AV} {i : Nat} (hi : i < T.ch.length) : B17 T chv i ++ [.row 2 false [chA T.ch[i]]] = B17 T chv (i + 1) := by
  unfold B17
  rw [List.take_succ_eq_append_getElem hi, List.map_append]; rfl
set_option maxRecDepth 100000 in
set_option maxHeartbeats 4000000 in
theorem round17a {T : Tool} {chv : AV} (hcv : SlA 2 (T.ch.map chA) chv) (hl : T.ch.length ≤ 4) {i : Nat} (hi : i < T.ch.length) :
    ∃ d5 d9 : AV, run (envOf GC []) 300 [.code lp17x0] (st17x0 (.ptr 0 0 0) (.int .i64 (T.ch.length : Int)) (.int .i64 (i : Int))) (B17 T chv i) =
      if okCh T.ch[i] then some (.normal (st17x0 (.ptr 0 0 0) (.int .i64 (T.ch.length : Int)) (.int .i64 ((i + 1 : Nat) : Int))) (B17 T chv (i + 1)))
      else some (.ret [.undef, .ptr 0 0 0, .bool false, .int .i64 (T.ch.length : Int), .int .i64 (i : Int), d5, .undef, .undef, .bool true, d9, .undef, .undef, .undef, .undef, .undef] (B17 T chv (i + 1))) := by
  rw [← B17_succ hi]
  obtain ⟨A, hA⟩ : ∃ A, A = B17 T chv i := ⟨_, rfl⟩
  have f0 : evFieldAddr 0 A (.ptr 0 0 0) = some (.ptr 0 0 0) := by rw [hA]; rfl
  have l0 : evLoad false 1 A (.ptr 0 0 0) = some chv := by rw [hA]; rfl
  obtain ⟨⟨tm, sy⟩, hc⟩ : ∃ c, c = T.ch[i] := ⟨_, rfl⟩
  have x1 := hcv.index (A := A) (i := i) (x := chA T.ch[i]) (by simp [hi]) rfl (by omega) .i64
  rw [← hc] at x1 ⊢
  rw [← hA]
  have x1 : evIndexSl 2 A chv (.int .i64 (i : Int)) = some (.fp [.int .i64 tm, .int .i64 sy]) := x1
  have bx : evBox 2 (.agg [.int .i64 0, .int .i64 0]) A = some (.ptr A.length 0 0, A ++ [.row 2 false [.agg [.int .i64 0, .int .i64 0]]]) := rfl
  have st : evStore 2 (A ++ [.row 2 false [.agg [.int .i64 0, .int .i64 0]]]) (.ptr A.length 0 0) (.agg [.int .i64 tm, .int .i64 sy]) = some (A ++ [.row 2 false [.agg [.int .i64 tm, .int .i64 sy]]]) := by simp [evStore, storeElem]
  have g0 : evFieldAddr 0 (A ++ [.row 2 false [.agg [.int .i64 tm, .int .i64 sy]]]) (.ptr A.length 0 0) = some (.ptr A.length 0 0) := top_fa (es := [.int .i64 tm, .int .i64 sy]) (k := 2) rfl (by omega)
  have g1 : evFieldAddr 1 (A ++ [.row 2 false [.agg [.int .i64 tm, .int .i64 sy]]]) (.ptr A.length 0 0) = some (.ptr A.length 0 1) := top_fa (es := [.int .i64 tm, .int .i64 sy]) (k := 2) rfl (by omega)
  have d0 : evLoad false 1 (A ++ [.row 2 false [.agg [.int .i64 tm, .int .i64 sy]]]) (.ptr A.length 0 0) = some (.int .i64 tm) := top_ld (es := [.int .i64 tm, .int .i64 sy]) (k := 2) rfl rfl
  have d1 : evLoad false 1 (A ++ [.row 2 false [.agg [.int .i64 tm, .int .i64 sy]]]) (.ptr A.length 0 1) = some (.int .i64 sy) := top_ld (es := [.int .i64 tm, .int .i64 sy]) (k := 2) rfl rfl
  have b0 := lt_nat i T.ch.length .i64
  rw [decide_eq_true hi] at b0
  have b1 := add1_nat i (by omega)
  have c1 := evLssI tm 0
  have c2 := evGtrI tm 100000
  have c3 := evLssI sy 0
  have c4 := evGtrI sy 100000
  refine ⟨.ptr A.length 0 0, .bool true, ?_⟩
  rw [show (.row 2 false [chA (tm, sy)] : Ent) = .row 2 false [.agg [.int .i64 tm, .int .i64 sy]] from rfl]
  obtain ⟨N, hN⟩ : ∃ n, n = A.length := ⟨_, rfl⟩
  rw [← hN] at bx st g0 g1 d0 d1 ⊢
  obtain ⟨A1, hA1⟩ : ∃ X, X = A ++ [Ent.row 2 false [.agg [.int .i64 tm, .int .i64 sy]]] := ⟨_, rfl⟩
  rw [← hA1] at st g0 g1 d0 d1 ⊢
  obtain ⟨i1, hi1⟩ : ∃ n, n = i + 1 := ⟨_, rfl⟩
  rw [← hi1] at b1 ⊢
  by_cases h1 : tm < 0
  · rw [decide_eq_true h1] at c1
    rw [if_neg (fun h => by unfold okCh at h; simp only at h; omega)]
    simp [lp17x0, f0, l0, x1, bx, st, g0, d0, b0, c1, -evBin, -evLoad, -evStore, -evFieldAddr, -evIndexSl, -evBox]
  rw [decide_eq_false h1] at c1
  by_cases h2 : tm > 100000
  · rw [decide_eq_true h2] at c2
    rw [if_neg (fun h => by unfold okCh at h; simp only at h; omega)]
    simp [lp17x0, f0, l0, x1, bx, st, g0, d0, b0, c1, c2, -evBin, -evLoad, -evStore, -evFieldAddr, -evIndexSl, -evBox]
  rw [decide_eq_false h2] at c2
  by_cases h3 : sy < 0
  · rw [decide_eq_true h3] at c3
    rw [if_neg (fun h => by unfold okCh at h; simp only at h; omega)]
    simp [lp17x0, f0, l0, x1, bx, st, g0, g1, d0, d1, b0, c1, c2, c3, -evBin, -evLoad, -evStore, -evFieldAddr, -evIndexSl, -evBox]
  rw [decide_eq_false h3] at c3
  by_cases h4 : sy > 100000
  · rw [decide_eq_true h4] at c4
    rw [if_neg (fun h => by unfold okCh at h; simp only at h; omega)]
    simp [lp17x0, f0, l0, x1, bx, st, g0, g1, d0, d1, b0, c1, c2, c3, c4, -evBin, -evLoad, -evStore, -evFieldAddr, -evIndexSl, -evBox]
  rw [decide_eq_false h4] at c4
  rw [if_pos (by unfold okCh; simp only; omega)]
  simp [lp17x0, f0, l0, x1, bx, st, g0, g1, d0, d1, b0, b1, c1, c2, c3, c4, -evBin, -evLoad, -evStore, -evFieldAddr, -evIndexSl, -evBox]
def rng3 (v : Int) : Bool := decide (0 ≤ v) && decide (v ≤ 10000)
set_option maxRecDepth 100000 in
set_option maxHeartbeats 4000000 in
theorem round17b {A : Arena} {r : Nat} {l : List Int} (hr : A[r]? = some (.row 1 false (intsA l))) (hl : l.length = 3) {i : Nat} (hi : i < 3) :
    run (envOf GC []) 300 [.code lp17x1] (st17x1 (.sl r 0 3) (.int .i64 3) (.int .i64 (i : Int))) A =
      if rng3 (l.getD i 0) = true then some (.normal (st17x1 (.sl r 0 3) (.int .i64 3) (.int .i64 ((i + 1 : Nat) : Int))) A)
      else some (.ret [.undef, .undef, .bool false, .undef, .undef, .undef, .int .i64 (l.getD i 0), .undef, .undef, .undef, .sl r 0 3, .int .i64 3, .int .i64 (i : Int), .bool true, .bool true] A) := by
  have ix : evIndexSl 1 A (.sl r 0 3) (.int .i64 (i : Int)) = some (.ptr r i 0) := by simp [evIndexSl, hr]; omega
  have la : evLoad false 1 A (.ptr r i 0) = some (.int .i64 (l.getD i 0)) := by
    have : i < l.length := by omega
    simp [evLoad, hr, intsA, this]
  obtain ⟨v, hv⟩ : ∃ v, v = l.getD i 0 := ⟨_, rfl⟩
  rw [← hv] at la ⊢
  have b0 : evBin .lss (.int .i64 (i : Int)) (.int .i64 3) = some (.bool true) := by rw [evLssI, decide_eq_true (by omega)]
  have b1 := add1_nat i (by omega)
  have c1 := evLssI v 0
  have c2 := evGtrI v 10000
  obtain ⟨i1, hi1⟩ : ∃ n, n = i + 1 := ⟨_, rfl⟩
  rw [← hi1] at b1 ⊢
  by_cases h1 : v < 0
  · rw [decide_eq_true h1] at c1
    rw [if_neg (by unfold rng3; simp; omega)]
    simp [lp17x1, ix, la, b0, c1, -evBin, -evLoad, -evIndexSl]
  rw [decide_eq_false h1] at c1
  by_cases h2 : v > 10000
  · rw [decide_eq_true h2] at c2
    rw [if_neg (by unfold rng3; simp; omega)]
    simp [lp17x1, ix, la, b0, c1, c2, -evBin, -evLoad, -evIndexSl]
  rw [decide_eq_false h2] at c2
  rw [if_pos (by unfold rng3; simp; omega)]
  simp [lp17x1, ix, la, b0, b1, c1, c2, -evBin, -evLoad, -evIndexSl]
theorem loop17b {A : Arena} {r : Nat} {a b c : Int} (hr : A[r]? = some (.row 1 false (intsA [a, b, c]))) :
    ∃ o, iter (evC (envOf GC []) 300 lp17x1) mask17x1 300 (st17x1 (.sl r 0 3) (.int .i64 3) (.int .i64 0)) A = some o ∧
      (if rng3 a && rng3 b && rng3 c then o = .exit 2 ((st17x1 (.sl r 0 3) (.int .i64 3) (.int .i64 3)).set 13 (.bool false)) A else ∃ σ, o = .ret σ A ∧ σ[2]? = some (.bool false)) := by
  rcases iter_search (E := envOf GC []) (fuel := 300) (a := lp17x1) (mask := mask17x1) (fun i => st17x1 (.sl r 0 3) (.int .i64 3) (.int .i64 (i : Int))) (fun _ => A) 3 (fun i => rng3 ([a, b, c].getD i 0) ≠ true)
    (oF := fun i => .ret [.undef, .undef, .bool false, .undef, .undef, .undef, .int .i64 ([a, b, c].getD i 0), .undef, .undef, .undef, .sl r 0 3, .int .i64 3, .int .i64 (i : Int), .bool true, .bool true] A) (oE := .exit 2 ((st17x1 (.sl r 0 3) (.int .i64 3) (.int .i64 3)).set 13 (.bool false)) A)
    (fun _ => cl17x1) (fun _ _ _ h => by cases h) (fun _ _ h => by cases h)
    (fun i hi hp => by
      rw [round17b hr rfl hi]
      exact if_pos (Classical.not_not.1 hp))
    (fun i hi hp => by
      rw [round17b hr rfl hi]
      exact if_neg hp)
    (by simp [lp17x1]) (show 3 < 300 by omega) with ⟨i, hi, hp, hj, lp⟩ | ⟨hp, lp⟩
  · refine ⟨_, lp, ?_⟩
    have : i = 0 ∨ i = 1 ∨ i = 2 := by omega
    rw [if_neg]
    · exact ⟨_, rfl, rfl⟩
    · intro h
      simp only [Bool.and_eq_true] at h
      rcases this with rfl | rfl | rfl
      · exact hp h.1.1
      · exact hp h.1.2
      · exact hp h.2
  · refine ⟨_, lp, ?_⟩
    rw [if_pos]
    · have h0 := Classical.not_not.1 (hp 0 (by omega))
      have h1 := Classical.not_not.1 (hp 1 (by omega))
      have h2 := Classical.not_not.1 (hp 2 (by omega))
      simp only [Bool.and_eq_true]
      exact ⟨⟨h0, h1⟩, h2⟩
end Go.Proofs.Ytemklhljjaniaaa
/-
  Cluster: the reference: Valid as a whole.
-/
namespace Go.Proofs.Ytemklhljjaniaaa
open Go
open Cy (GC CArc arcA arcsOf isPer ValidA okA smM smT lvM lvT VerOk RefOk Ready Pos frz_i frz_b intsA_len M12_eq idxZ idxZ_some idxZ_none)

set_option maxRecDepth 100000 in
set_option maxHeartbeats 4000000 in
theorem M17_eq {T : Tool} {chv : AV} (hcv : SlA 2 (T.ch.map chA) chv) (hl : T.ch.length ≤ 200) : M17 [toolA T chv] = some (.bool (decide (ValidC T))) := by
  have hlen := hcv.len
  rw [List.length_map] at hlen
  have bx0 : evBox 5 (toolA T chv) [] = some (.ptr 0 0 0, B17 T chv 0) := rfl
  have ct : (cellsOf (toolA T chv)).length = 5 := rfl
  have fA : ∀ i j, j < 5 → evFieldAddr j (B17 T chv i) (.ptr 0 0 0) = some (.ptr 0 0 j) := fun i j hj => by simp [evFieldAddr, B17, hj]
  have l0 : ∀ i, evLoad false 1 (B17 T chv i) (.ptr 0 0 0) = some chv := fun i => rfl
  have l1 : ∀ i, evLoad false 1 (B17 T chv i) (.ptr 0 0 1) = some (.int .i64 T.pick) := fun i => rfl
  have l2 : ∀ i, evLoad false 1 (B17 T chv i) (.ptr 0 0 2) = some (.int .i64 T.place) := fun i => rfl
  have l3 : ∀ i, evLoad false 1 (B17 T chv i) (.ptr 0 0 3) = some (.int .i64 T.travel) := fun i => rfl
  have l4 : ∀ i, evLoad false 1 (B17 T chv i) (.ptr 0 0 4) = some (.int .i64 T.blades) := fun i => rfl
  have c1 := evLssI (T.ch.length : Int) 1
  have c2 := evGtrI (T.ch.length : Int) 4
  have c3 := evLssI T.blades 1
  have c4 := evGtrI T.blades 2
  obtain ⟨B0, hB0⟩ : ∃ B, B = B17 T chv 0 := ⟨_, rfl⟩
  have fA0 := fun j hj => fA 0 j hj
  have l00 := l0 0
  have l40 := l4 0
  simp only [← hB0] at fA0
  unfold M17
  rw [evP_run _ _ rfl]
  by_cases h1 : (T.ch.length : Int) < 1
  · rw [decide_eq_true h1] at c1
    rw [decide_eq_false (fun h => by have := h.2.2.1; omega)]
    rw [← hB0] at bx0 l00 l40
    obtain ⟨t, ht⟩ : ∃ t, t = toolA T chv := ⟨_, rfl⟩
    rw [← ht] at bx0 ct ⊢
    simp [mf17, bx0, ct, fA0, l00, hlen, c1, frz_b, -evBin, -evLoad, -evFieldAddr, -evBox, -evLenSl, -frz, -cellsOf]
  rw [decide_eq_false h1] at c1
  by_cases h2 : (T.ch.length : Int) > 4
  · rw [decide_eq_true h2] at c2
    rw [decide_eq_false (fun h => by have := h.2.2.2.1; omega)]
    rw [← hB0] at bx0 l00 l40
    obtain ⟨t, ht⟩ : ∃ t, t = toolA T chv := ⟨_, rfl⟩
    rw [← ht] at bx0 ct ⊢
    simp [mf17, bx0, ct, fA0, l00, hlen, c1, c2, frz_b, -evBin, -evLoad, -evFieldAddr, -evBox, -evLenSl, -frz, -cellsOf]
  rw [decide_eq_false h2] at c2
  by_cases h3 : T.blades < 1
  · rw [decide_eq_true h3] at c3
    rw [decide_eq_false (fun h => by have := h.2.2.2.2; omega)]
    rw [← hB0] at bx0 l00 l40
    obtain ⟨t, ht⟩ : ∃ t, t = toolA T chv := ⟨_, rfl⟩
    rw [← ht] at bx0 ct ⊢
    simp [mf17, bx0, ct, fA0, l00, l40, hlen, c1, c2, c3, frz_b, -evBin, -evLoad, -evFieldAddr, -evBox, -evLenSl, -frz, -cellsOf]
  rw [decide_eq_false h3] at c3
  by_cases h4 : T.blades > 2
  · rw [decide_eq_true h4] at c4
    rw [decide_eq_false (fun h => by have := h.2.2.2.2; omega)]
    rw [← hB0] at bx0 l00 l40
    obtain ⟨t, ht⟩ : ∃ t, t = toolA T chv := ⟨_, rfl⟩
    rw [← ht] at bx0 ct ⊢
    simp [mf17, bx0, ct, fA0, l00, l40, hlen, c1, c2, c3, c4, frz_b, -evBin, -evLoad, -evFieldAddr, -evBox, -evLenSl, -frz, -cellsOf]
  rw [decide_eq_false h4] at c4
  have hn4 : T.ch.length ≤ 4 := by omega
  have e := lt_nat T.ch.length T.ch.length .i64
  rw [decide_eq_false (by omega)] at e
  have ha : (∃ (i : Nat) (hi : i < T.ch.length) (d5 d9 : AV), ¬ okCh T.ch[i] ∧ iter (evC (envOf GC []) 300 lp17x0) mask17x0 300 (st17x0 (.ptr 0 0 0) (.int .i64 (T.ch.length : Int)) (.int .i64 0)) (B17 T chv 0) = some (.ret [.undef, .ptr 0 0 0, .bool false, .int .i64 (T.ch.length : Int), .int .i64 (i : Int), d5, .undef, .undef, .bool true, d9, .undef, .undef, .undef, .undef, .undef] (B17 T chv (i + 1)))) ∨
      ((∀ i (hi : i < T.ch.length), okCh T.ch[i]) ∧ iter (evC (envOf GC []) 300 lp17x0) mask17x0 300 (st17x0 (.ptr 0 0 0) (.int .i64 (T.ch.length : Int)) (.int .i64 0)) (B17 T chv 0) = some (.exit 0 ((st17x0 (.ptr 0 0 0) (.int .i64 (T.ch.length : Int)) (.int .i64 (T.ch.length : Int))).set 8 (.bool false)) (B17 T chv T.ch.length))) := by
    have key : ∀ (c i m : Nat), i + c = T.ch.length → (∀ j (hj : j < T.ch.length), j < i → okCh T.ch[j]) → c < m → (∃ (i' : Nat) (hi : i' < T.ch.length) (d5 d9 : AV), ¬ okCh T.ch[i'] ∧ iter (evC (envOf GC []) 300 lp17x0) mask17x0 m (st17x0 (.ptr 0 0 0) (.int .i64 (T.ch.length : Int)) (.int .i64 (i : Int))) (B17 T chv i) = some (.ret [.undef, .ptr 0 0 0, .bool false, .int .i64 (T.ch.length : Int), .int .i64 (i' : Int), d5, .undef, .undef, .bool true, d9, .undef, .undef, .undef, .undef, .undef] (B17 T chv (i' + 1)))) ∨
      ((∀ i (hi : i < T.ch.length), okCh T.ch[i]) ∧ iter (evC (envOf GC []) 300 lp17x0) mask17x0 m (st17x0 (.ptr 0 0 0) (.int .i64 (T.ch.length : Int)) (.int .i64 (i : Int))) (B17 T chv i) = some (.exit 0 ((st17x0 (.ptr 0 0 0) (.int .i64 (T.ch.length : Int)) (.int .i64 (T.ch.length : Int))).set 8 (.bool false)) (B17 T chv T.ch.length))) := by
      intro c
      induction c with
      | zero =>
        intro i m hi hok hm
        obtain ⟨m, rfl⟩ : ∃ j, m = j + 1 := ⟨m - 1, by omega⟩
        obtain rfl : i = T.ch.length := by omega
        right
        refine ⟨fun j hj => hok j hj hj, ?_⟩
        rw [iter_succ, cl17x0]
        simp [lp17x0, e, -evBin]
      | succ c ih =>
        intro i m hi hok hm
        obtain ⟨m, rfl⟩ : ∃ j, m = j + 1 := ⟨m - 1, by omega⟩
        have hil : i < T.ch.length := by omega
        obtain ⟨d5, d9, hr⟩ := round17a hcv hn4 hil
        by_cases hc : okCh T.ch[i]
        · rw [if_pos hc] at hr
          have := ih (i + 1) m (by omega) (fun j hj hji => by
            by_cases e : j = i
            · subst e; exact hc
            · exact hok j hj (by omega)) (by omega)
          rw [iter_succ, cl17x0, hr]
          exact this
        · rw [if_neg hc] at hr
          left
          refine ⟨i, hil, d5, d9, hc, ?_⟩
          rw [iter_succ, cl17x0, hr]
    exact key T.ch.length 0 300 (by omega) (fun j hj h => by omega) (by omega)
  rcases ha with ⟨i, hi, d5, d9, hbad, lp⟩ | ⟨hok, lp⟩
  · rw [decide_eq_false (fun h => hbad (h.1 _ (List.getElem_mem hi)))]
    rw [← hB0] at bx0 l00 l40 lp
    obtain ⟨t, ht⟩ : ∃ t, t = toolA T chv := ⟨_, rfl⟩
    rw [← ht] at bx0 ct ⊢
    simp [mf17, bx0, ct, fA0, l00, l40, hlen, c1, c2, c3, c4, go17x0 lp, frz_b, -evBin, -evLoad, -evFieldAddr, -evBox, -evLenSl, -frz, -cellsOf]
  · obtain ⟨Bn, hBn⟩ : ∃ B, B = B17 T chv T.ch.length := ⟨_, rfl⟩
    have fAn := fun j hj => fA T.ch.length j hj
    have l1n := l1 T.ch.length
    have l2n := l2 T.ch.length
    have l3n := l3 T.ch.length
    simp only [← hBn] at fAn
    rw [← hBn] at l1n l2n l3n lp
    have bs : evBuildSlice 1 [.int .i64 T.pick, .int .i64 T.place, .int .i64 T.travel] Bn = some (.sl Bn.length 0 3, Bn ++ [.row 1 false (intsA [T.pick, T.place, T.travel])]) := rfl
    have lr : ∀ r, evLenSl (.sl r 0 3) = some (.int .i64 3) := fun r => rfl
    obtain ⟨ob, lb, ho⟩ := loop17b (A := Bn ++ [.row 1 false (intsA [T.pick, T.place, T.travel])]) (r := Bn.length) (a := T.pick) (b := T.place) (c := T.travel) (by simp)
    have hv : decide (ValidC T) = (rng3 T.pick && rng3 T.place && rng3 T.travel) := by
      rw [Bool.eq_iff_iff, decide_eq_true_eq]
      unfold ValidC rng3
      simp only [Bool.and_eq_true, decide_eq_true_eq]
      constructor
      · rintro ⟨_, ⟨a, b, c⟩, _⟩
        exact ⟨⟨a, b⟩, c⟩
      · rintro ⟨⟨a, b⟩, c⟩
        refine ⟨fun x hx => ?_, ⟨a, b, c⟩, by omega, by omega, by omega⟩
        obtain ⟨i, hi, rfl⟩ := List.mem_iff_getElem.1 hx
        exact hok i hi
    rw [hv]
    obtain ⟨B1, hB1⟩ : ∃ B, B = Bn ++ [Ent.row 1 false (intsA [T.pick, T.place, T.travel])] := ⟨_, rfl⟩
    obtain ⟨r, hr⟩ : ∃ r, r = Bn.length := ⟨_, rfl⟩
    rw [← hB1, ← hr] at bs lb
    rw [← hB1] at ho
    obtain ⟨d, hd⟩ : ∃ d, d = (rng3 T.pick && rng3 T.place && rng3 T.travel) := ⟨_, rfl⟩
    rw [← hd] at ho ⊢
    rw [← hB0] at bx0 l00 l40 lp
    obtain ⟨t, ht⟩ : ∃ t, t = toolA T chv := ⟨_, rfl⟩
    rw [← ht] at bx0 ct ⊢
    cases d with
    | true =>
      rw [if_pos rfl] at ho
      subst ho
      simp [mf17, bx0, ct, fA0, fAn, l00, l40, l1n, l2n, l3n, hlen, c1, c2, c3, c4, go17x0 lp, bs, lr, go17x1 lb, frz_b, -evBin, -evLoad, -evFieldAddr, -evBox, -evLenSl, -evBuildSlice, -frz, -cellsOf]
    | false =>
      rw [if_neg (by simp)] at ho
      obtain ⟨σ, rfl, hσ⟩ := ho
      have hσ : σ[2]?.getD .undef = .bool false := by rw [hσ]; rfl
      simp [mf17, bx0, ct, fA0, fAn, l00, l40, l1n, l2n, l3n, hlen, c1, c2, c3, c4, go17x0 lp, bs, lr, go17x1 lb, hσ, frz_b, -evBin, -evLoad, -evFieldAddr, -evBox, -evLenSl, -evBuildSlice, -frz, -cellsOf]
end Go.Proofs.Ytemklhljjaniaaa
/-
  Cluster: the reference's orders, the recursion.
-/
namespace Go.Proofs.Ytemklhljjaniaaa
open Go
open Cy (GC CArc arcA arcsOf isPer ValidA okA smM smT lvM lvT VerOk RefOk Ready Pos frz_i frz_b intsA_len M12_eq idxZ idxZ_some idxZ_none)

/-- the list of lists under way, as a value -/
def OutQ (A : Arena) (v : AV) (pl : List (Nat × List Int)) : Prop :=
  (∀ x ∈ pl, x.2 ≠ [] ∧ A[x.1]? = some (.row 1 false (intsA x.2))) ∧ ((v = .nilS ∧ pl = []) ∨ ∃ id gr, v = .sl id 0 pl.length ∧ pl ≠ [] ∧ A[id]? = some (.row 1 gr (pl.map slOf)))
theorem OutQ.app {A : Arena} {v : AV} {pl : List (Nat × List Int)} (h : OutQ A v pl) (X : Arena) : OutQ (A ++ X) v pl := by
  have hk : ∀ (j : Nat) (e : Ent), A[j]? = some e → (A ++ X)[j]? = some e := fun j e h => by
    rw [List.getElem?_append_left (List.getElem?_eq_some_iff.1 h).1]; exact h
  refine ⟨fun x hx => ⟨(h.1 x hx).1, hk _ _ (h.1 x hx).2⟩, ?_⟩
  rcases h.2 with h4 | ⟨id, gr, h4, h5, h6⟩
  · exact .inl h4
  · exact .inr ⟨id, gr, h4, h5, hk _ _ h6⟩
theorem OutQ.add {A : Arena} {v : AV} {pl : List (Nat × List Int)} (h : OutQ A v pl) {l : List Int} (hl : l ≠ []) (hb : pl.length ≤ 100000) {r y : Nat} (hr : A[r]? = some (.row 1 false (intsA l))) (hy : A[y]? = some (.row 1 false [.sl r 0 l.length])) :
    ∃ v' A', evAppend 1 24 A v (.sl y 0 1) = some (v', A') ∧ OutQ A' v' (pl ++ [(r, l)]) ∧ Step A A' := by
  obtain ⟨h3, h4⟩ := h
  have hsrc : srcElems 1 A (.sl y 0 1) = some [.sl r 0 l.length] := by simp [srcElems, hy]
  rcases h4 with ⟨rfl, rfl⟩ | ⟨id, gr, rfl, hpl, hrow⟩
  · refine ⟨.sl A.length 0 1, A ++ [.row 1 false [.sl r 0 l.length]], ?_, ⟨fun x hx => ?_, .inr ⟨A.length, false, by simp, by simp, by simp [slOf]⟩⟩, Step.app _ _⟩
    · unfold evAppend; rw [hsrc]; simp
    · simp only [List.nil_append, List.mem_singleton] at hx
      subst hx
      exact ⟨hl, by rw [List.getElem?_append_left (List.getElem?_eq_some_iff.1 hr).1]; exact hr⟩
  · have hidl : id < A.length := (List.getElem?_eq_some_iff.1 hrow).1
    have hlen : 0 < pl.length := List.length_pos_iff.2 hpl
    have hnp2 : ¬ plainE (.row 1 gr (pl.map slOf)) := by
      cases pl with
      | nil => exact absurd rfl hpl
      | cons x r => exact not_plain_sl _ _ _ _ _ _
    have hnid : ∀ j (m : List Int), m ≠ [] → A[j]? = some (.row 1 false (intsA m)) → j ≠ id := fun j m hm hj e => by
      subst e
      rw [hrow] at hj
      injection hj with hj
      exact hnp2 (hj ▸ plain_ints hm 1 false)
    refine ⟨.sl id 0 (pl.length + 1), A.set id (.row 1 true (pl.map slOf ++ [.sl r 0 l.length])), ?_, ⟨fun x hx => ?_, .inr ⟨id, true, by simp, by simp, ?_⟩⟩, by simp, fun j e hj he => ?_⟩
    · have hz : pl.length ≠ 0 := by omega
      have hb2 : (pl.length + 1) * 24 ≤ 140737488355328 := by omega
      unfold evAppend; rw [hsrc]; simp [hrow, hz, hb2]
    · rcases List.mem_append.1 hx with hx | hx
      · have := h3 x hx
        exact ⟨this.1, by rw [List.getElem?_set_ne (fun e => hnid _ _ this.1 this.2 e.symm)]; exact this.2⟩
      · rw [List.mem_singleton] at hx
        subst hx
        exact ⟨hl, by rw [List.getElem?_set_ne (fun e => hnid _ _ hl hr e.symm)]; exact hr⟩
    · rw [List.getElem?_set_self hidl, List.map_append]; rfl
    · have n2 : j ≠ id := fun e' => by
        subst e'; rw [hrow] at hj; injection hj with hj; exact hnp2 (hj ▸ he)
      rw [List.getElem?_set_ne (fun e => n2 e.symm)]
      exact hj
theorem OutQ.frz {A : Arena} {v : AV} {pl : List (Nat × List Int)} (h : OutQ A v pl) (k : Nat) : Proofs.Ytemklhljjaniaaa.frz A (k + 3) v = ordA (pl.map (·.2)) ∧ freshB A (k + 4) v = true := by
  have hP : OutP A A.length v pl := ⟨h.1, by
    rcases h.2 with h2 | ⟨id, gr, h2, h3, h4⟩
    · exact .inl h2
    · exact .inr ⟨id, gr, h2, by have := (List.getElem?_eq_some_iff.1 h4).1; omega, h3, h4⟩⟩
  exact ⟨hP.frz k, hP.fresh k⟩
/-- a list of integers that is only read -/
def HB (A : Arena) (bv : AV) (b : List Int) : Prop := b ≠ [] ∧ (bv = .fs 1 (intsA b) ∨ ∃ id gr, bv = .sl id 0 b.length ∧ A[id]? = some (.row 1 gr (intsA b)))
theorem HB.step {A B : Arena} {bv : AV} {b : List Int} (h : HB A bv b) (s : Step A B) : HB B bv b := by
  refine ⟨h.1, ?_⟩
  rcases h.2 with h2 | ⟨id, gr, h2, h3⟩
  · exact .inl h2
  · exact .inr ⟨id, gr, h2, s.2 _ _ h3 (plain_ints h.1 1 gr)⟩
theorem HB.len {A : Arena} {bv : AV} {b : List Int} (h : HB A bv b) : evLenSl bv = some (.int .i64 (b.length : Int)) := by
  rcases h.2 with rfl | ⟨id, gr, rfl, h3⟩
  · simp [evLenSl, intsA]
  · rfl
theorem HB.src {A : Arena} {bv : AV} {b : List Int} (h : HB A bv b) : srcElems 1 A bv = some (intsA b) := by
  rcases h.2 with rfl | ⟨id, gr, rfl, h3⟩
  · simp
  · rw [srcElems_sl h3, ← intsA_len b, List.drop_zero, List.take_length]
theorem HB.at {A : Arena} {bv : AV} {b : List Int} (h : HB A bv b) {i : Nat} (hi : i < b.length) : ∃ p, evIndexSl 1 A bv (.int .i64 (i : Int)) = some p ∧ evLoad false 1 A p = some (.int .i64 b[i]) := by
  rcases h.2 with rfl | ⟨id, gr, rfl, h3⟩
  · exact ⟨.fp [.int .i64 b[i]], (show SlA 1 (intsA b) (.fs 1 (intsA b)) from Or.inr rfl).int (A := A) _ _ (List.getElem?_eq_getElem hi) .i64, rfl⟩
  · refine ⟨.ptr id i 0, by simp [evIndexSl, h3, hi], ?_⟩
    simp [evLoad, h3, intsA, hi]
/-- 'append([]int{}, b...)' -/
theorem copyB {A : Arena} {bv : AV} {b : List Int} (h : HB A bv b) (hl : b.length ≤ 1000) : evBuildSlice 1 [] A = some (.sl A.length 0 0, A ++ [.row 1 false []]) ∧ evAppend 1 8 (A ++ [.row 1 false []]) (.sl A.length 0 0) bv = some (.sl (A.length + 1) 0 b.length, A ++ [.dead, .row 1 false (intsA b)]) := by
  refine ⟨rfl, ?_⟩
  have hs := (h.step (Step.app A [.row 1 false []])).src
  have e : (intsA b).length = b.length := intsA_len b
  have hb : b.length * 8 ≤ 140737488355328 := by omega
  have hset : (A ++ [Ent.row 1 false []]).set A.length .dead = A ++ [.dead] := by
    rw [List.set_append_right _ _ (Nat.le_refl _), Nat.sub_self]; rfl
  simp only [evAppend, hs]
  rw [List.getElem?_concat_length]
  simp only [e]
  rw [if_pos ⟨trivial, by omega, by omega, by omega⟩, if_neg (by omega), hset]
  simp

noncomputable def H37 : Nat → HModel
  | 0 => fun h => evFun (envY GC [] h) 300 mf37
  | k + 1 => fun h => evFun (envY GC [(37, H37 k)] h) 300 mf37
theorem spec37 : ∀ k, FnSpecY Try.prog GC 37 (H37 k)
  | 0 => evFun_soundY lookM_nil at37 comp37
  | k + 1 => evFun_soundY (lookM_cons (spec37 k) lookM_nil) at37 comp37

set_option maxRecDepth 100000 in
set_option maxHeartbeats 1000000 in
theorem leaf37 (fs : List (FuncId × HModel)) (h : Handler) {A : Arena} {n : Nat} {v bv : AV} {b : List Int} {pl : List (Nat × List Int)} (hB : HB A bv b) (ho : OutQ A v pl) (hlen : b.length = n + 1) (hn4 : n ≤ 4) (hll : pl.length ≤ 100000) :
    ∃ v' B r, evFun (envY GC fs h) 300 mf37 [.int .i64 (n : Int), bv, v] A = some (v', B) ∧ OutQ B v' (pl ++ [(r, b)]) ∧ Step A B := by
  have hl := hB.len
  obtain ⟨c1, c2⟩ := copyB hB (by omega)
  have b1 := add1_nat n (by omega)
  have b2 : evBin .eql (.int .i64 (b.length : Int)) (.int .i64 ((n + 1 : Nat) : Int)) = some (.bool true) := by rw [evEqlI, decide_eq_true (by omega)]
  obtain ⟨A1, hA1⟩ : ∃ X, X = A ++ [Ent.dead, .row 1 false (intsA b)] := ⟨_, rfl⟩
  have hl1 : A1.length = A.length + 2 := by rw [hA1]; simp
  have c3 : evBuildSlice 1 [.sl (A.length + 1) 0 b.length] A1 = some (.sl (A.length + 2) 0 1, A1 ++ [.row 1 false [.sl (A.length + 1) 0 b.length]]) := by
    simp [evBuildSlice, hl1]
  obtain ⟨v', B, k1, k2, k3⟩ := ((ho.app [.dead, .row 1 false (intsA b)]).app [.row 1 false [.sl (A.length + 1) 0 b.length]]).add hB.1 hll (r := A.length + 1) (y := A.length + 2) (by
      rw [List.append_assoc, List.getElem?_append_right (by omega)]; simp) (by
      rw [List.getElem?_append_right (by simp)]; simp)
  rw [← hA1] at k1 k3 c2
  refine ⟨v', B, A.length + 1, ?_, k2, ((Step.app A _).trans (by rw [← hA1]; exact Step.app A1 _)).trans k3⟩
  obtain ⟨A2, hA2⟩ : ∃ X, X = A1 ++ [Ent.row 1 false [.sl (A.length + 1) 0 b.length]] := ⟨_, rfl⟩
  rw [← hA2] at c3 k1
  obtain ⟨A3, hA3⟩ : ∃ X, X = A ++ [Ent.row 1 false []] := ⟨_, rfl⟩
  rw [← hA3] at c1 c2
  rw [evFun_run _ _ rfl]
  obtain ⟨r0, hr0⟩ : ∃ x, x = A.length := ⟨_, rfl⟩
  rw [← hr0] at c1 c2 c3 k1
  obtain ⟨r1, hr1⟩ : ∃ x, x = r0 + 1 := ⟨_, rfl⟩
  rw [← hr1] at c2 c3
  obtain ⟨r2, hr2⟩ : ∃ x, x = r0 + 2 := ⟨_, rfl⟩
  rw [← hr2] at c3 k1
  obtain ⟨n1, hn1⟩ : ∃ x, x = n + 1 := ⟨_, rfl⟩
  rw [← hn1] at b1 b2
  obtain ⟨bl, hbl⟩ : ∃ x, x = b.length := ⟨_, rfl⟩
  rw [← hbl] at hl c2 c3 b2
  simp [mf37, hl, b1, b2, c1, c2, c3, k1, -evBin, -evLenSl, -evBuildSlice]
end Go.Proofs.Ytemklhljjaniaaa
/-
  Cluster: the reference's orders, the loops of the recursion.
-/
namespace Go.Proofs.Ytemklhljjaniaaa
open Go
open Cy (GC CArc arcA arcsOf isPer ValidA okA smM smT lvM lvT VerOk RefOk Ready Pos frz_i frz_b intsA_len M12_eq idxZ idxZ_some idxZ_none)

set_option maxRecDepth 100000 in
theorem in37 (fs : List (FuncId × HModel)) (h : Handler) {A : Arena} {bv v0 v2 : AV} {b : List Int} (hB : HB A bv b) (hb : b.length ≤ 5) (i : Nat) : ∀ (c j m : Nat), j + c = b.length → c < m →
    iter (evC (envY GC fs h) 300 lp37x0) mask37x0 m (st37x0 v0 bv v2 (.int .i64 (i : Int)) (.bool (decide ((i : Int) ∈ b.take j))) (.int .i64 (j : Int))) A = some (.exit 2 ((st37x0 v0 bv v2 (.int .i64 (i : Int)) (.bool (decide ((i : Int) ∈ b))) (.int .i64 (b.length : Int))).set 9 (.bool false)) A) := by
  have hl := hB.len
  intro c
  induction c with
  | zero =>
    intro j m hj hm
    obtain ⟨m, rfl⟩ : ∃ k, m = k + 1 := ⟨m - 1, by omega⟩
    obtain rfl : j = b.length := by omega
    rw [List.take_length]
    have b0 : evBin .lss (.int .i64 (b.length : Int)) (.int .i64 (b.length : Int)) = some (.bool false) := by rw [evLssI, decide_eq_false (by omega)]
    rw [iter_succ, cl37x0]
    simp [lp37x0, hl, b0, -evBin, -evLenSl]
  | succ c ih =>
    intro j m hj hm
    obtain ⟨m, rfl⟩ : ∃ k, m = k + 1 := ⟨m - 1, by omega⟩
    have hjl : j < b.length := by omega
    obtain ⟨p, p1, p2⟩ := hB.at hjl
    have b0 : evBin .lss (.int .i64 (j : Int)) (.int .i64 (b.length : Int)) = some (.bool true) := by rw [evLssI, decide_eq_true (by omega)]
    have b1 : evBin .eql (.int .i64 b[j]) (.int .i64 (i : Int)) = some (.bool (decide (b[j] = (i : Int)))) := evEqlI _ _
    have b3 := add1_nat j (by omega)
    have e : decide ((i : Int) ∈ b.take (j + 1)) = (decide ((i : Int) ∈ b.take j) || decide (b[j] = (i : Int))) := by
      have : (i : Int) ∈ b.take (j + 1) ↔ ((i : Int) ∈ b.take j ∨ b[j] = (i : Int)) := by
        rw [List.take_succ_eq_append_getElem hjl, List.mem_append, List.mem_singleton]
        exact or_congr Iff.rfl eq_comm
      rw [decide_eq_decide.2 this, Bool.decide_or]
    have := ih (j + 1) m (by omega) (by omega)
    rw [e] at this
    rw [iter_succ, cl37x0]
    obtain ⟨j1, hj1⟩ : ∃ j1 : Nat, j1 = j + 1 := ⟨_, rfl⟩
    rw [← hj1] at b3 this
    obtain ⟨d1, h1⟩ : ∃ d, d = decide ((i : Int) ∈ b.take j) := ⟨_, rfl⟩
    rw [← h1] at this ⊢
    obtain ⟨d2, h2⟩ : ∃ d, d = decide (b[j] = (i : Int)) := ⟨_, rfl⟩
    rw [← h2] at b1 this
    obtain ⟨x, hx⟩ : ∃ x, x = b[j] := ⟨_, rfl⟩
    rw [← hx] at p2 b1
    obtain ⟨bl, hbl⟩ : ∃ x, x = b.length := ⟨_, rfl⟩
    rw [← hbl] at b0 hl this ⊢
    cases d1 with
    | true => simpa [lp37x0, hl, b0, b3, -evBin, -evLenSl] using this
    | false => simpa [lp37x0, hl, b0, b1, b3, p1, p2, -evBin, -evLenSl, -evIndexSl, -evLoad] using this

/-- 'append(append([]int{}, b...), i)' -/
theorem snocB {A : Arena} {b : List Int} (hb0 : b ≠ []) (hl : b.length ≤ 1000) (i : Int) : evBuildSlice 1 [.int .i64 i] (A ++ [.dead, .row 1 false (intsA b)]) = some (.sl (A.length + 2) 0 1, A ++ [.dead, .row 1 false (intsA b), .row 1 false [.int .i64 i]]) ∧
    evAppend 1 8 (A ++ [.dead, .row 1 false (intsA b), .row 1 false [.int .i64 i]]) (.sl (A.length + 1) 0 b.length) (.sl (A.length + 2) 0 1) = some (.sl (A.length + 1) 0 (b.length + 1), A ++ [.dead, .row 1 true (intsA (b ++ [i])), .row 1 false [.int .i64 i]]) := by
  refine ⟨by simp [evBuildSlice], ?_⟩
  obtain ⟨A2, hA2⟩ : ∃ X, X = A ++ [.dead, .row 1 false (intsA b), .row 1 false [.int .i64 i]] := ⟨_, rfl⟩
  rw [← hA2]
  have g1 : A2[A.length + 1]? = some (.row 1 false (intsA b)) := by rw [hA2, List.getElem?_append_right (by omega)]; simp
  have g2 : A2[A.length + 2]? = some (.row 1 false [.int .i64 i]) := by rw [hA2, List.getElem?_append_right (by omega)]; simp
  have hsrc : srcElems 1 A2 (.sl (A.length + 2) 0 1) = some [.int .i64 i] := by simp [srcElems, g2]
  have hlen : 0 < b.length := List.length_pos_iff.2 hb0
  have hz : b.length ≠ 0 := by omega
  have hb2 : (b.length + 1) * 8 ≤ 140737488355328 := by omega
  have hne : intsA b ≠ [] := by unfold intsA; simpa using hb0
  have hil := intsA_len b
  have hset : A2.set (A.length + 1) (.row 1 true (intsA b ++ [.int .i64 i])) = A ++ [.dead, .row 1 true (intsA (b ++ [i])), .row 1 false [.int .i64 i]] := by
    rw [hA2, List.set_append_right _ _ (by omega), show A.length + 1 - A.length = 1 by omega]
    simp [intsA]
  unfold evAppend
  rw [hsrc]
  simp [g1, hz, hb2, hil, hset]

set_option maxRecDepth 100000 in
set_option maxHeartbeats 1000000 in
theorem round37 {h : Handler} {fs : List (FuncId × HModel)} {H : HModel} (hH : lookM fs 37 = some H) {A : Arena} {n : Nat} {v bv : AV} {b : List Int} (hB : HB A bv b) (hbn : b.length ≤ 5) {i : Nat} (hi : i ≤ n) (hn4 : n ≤ 4) {v' : AV} {B : Arena}
    (hr : (i : Int) ∉ b → H h [.int .i64 (n : Int), .sl (A.length + 1) 0 (b.length + 1), v] (A ++ [.dead, .row 1 true (intsA (b ++ [(i : Int)])), .row 1 false [.int .i64 (i : Int)]]) = some (v', B))
    (hr0 : (i : Int) ∈ b → B = A ∧ v' = v) :
    run (envY GC fs h) 300 [.code lp37x1] (st37x1 (.int .i64 (n : Int)) bv v (.int .i64 (i : Int))) A = some (.normal (st37x1 (.int .i64 (n : Int)) bv v' (.int .i64 ((i + 1 : Nat) : Int))) B) := by
  have b0 : evBin .leq (.int .i64 (i : Int)) (.int .i64 (n : Int)) = some (.bool true) := by rw [evLeqI, decide_eq_true (by omega)]
  have b3 := add1_nat i (by omega)
  obtain ⟨c1, c2⟩ := copyB hB (by omega)
  obtain ⟨c3, c4⟩ := snocB (A := A) hB.1 (by omega) (i : Int)
  have hin : iter (evC (envY GC fs h) 300 lp37x0) mask37x0 300 (st37x0 (.int .i64 (n : Int)) bv v (.int .i64 (i : Int)) (.bool false) (.int .i64 0)) A = _ := in37 fs h hB hbn i b.length 0 300 (by omega) (by omega)
  obtain ⟨i1, hi1⟩ : ∃ i1 : Nat, i1 = i + 1 := ⟨_, rfl⟩
  rw [← hi1] at b3 ⊢
  obtain ⟨A1, hA1⟩ : ∃ X, X = A ++ [Ent.row 1 false []] := ⟨_, rfl⟩
  rw [← hA1] at c1 c2
  obtain ⟨A2, hA2⟩ : ∃ X, X = A ++ [Ent.dead, .row 1 false (intsA b)] := ⟨_, rfl⟩
  rw [← hA2] at c2 c3
  obtain ⟨A3, hA3⟩ : ∃ X, X = A ++ [Ent.dead, .row 1 false (intsA b), .row 1 false [.int .i64 (i : Int)]] := ⟨_, rfl⟩
  rw [← hA3] at c3 c4
  obtain ⟨A4, hA4⟩ : ∃ X, X = A ++ [Ent.dead, .row 1 true (intsA (b ++ [(i : Int)])), .row 1 false [.int .i64 (i : Int)]] := ⟨_, rfl⟩
  rw [← hA4] at c4 hr
  obtain ⟨r1, hr1⟩ : ∃ x, x = A.length + 1 := ⟨_, rfl⟩
  rw [← hr1] at c2 c4 hr
  obtain ⟨r2, hr2⟩ : ∃ x, x = A.length + 2 := ⟨_, rfl⟩
  rw [← hr2] at c3 c4
  obtain ⟨r0, hr00⟩ : ∃ x, x = A.length := ⟨_, rfl⟩
  rw [← hr00] at c1 c2
  obtain ⟨bl1, hbl1⟩ : ∃ x, x = b.length + 1 := ⟨_, rfl⟩
  rw [← hbl1] at c4 hr
  obtain ⟨bl, hbl⟩ : ∃ x, x = b.length := ⟨_, rfl⟩
  rw [← hbl] at c2 c4 hin
  by_cases hd : (i : Int) ∈ b
  · obtain ⟨rfl, rfl⟩ := hr0 hd
    rw [decide_eq_true hd] at hin
    simp [lp37x1, b0, b3, go37x0 hin, -evBin]
  · have hr := hr hd
    rw [decide_eq_false hd] at hin
    simp [lp37x1, b0, b3, go37x0 hin, c1, c2, c3, c4, hH, hr, -evBin, -evBuildSlice]
end Go.Proofs.Ytemklhljjaniaaa
/-
  Cluster: the reference's orders, the recursion, joined.
-/
namespace Go.Proofs.Ytemklhljjaniaaa
open Go
open Cy (GC CArc arcA arcsOf isPer ValidA okA smM smT lvM lvT VerOk RefOk Ready Pos frz_i frz_b intsA_len M12_eq idxZ idxZ_some idxZ_none)

theorem map_len {pl pl' : List (Nat × List Int)} {l : List (List Int)} (h : pl'.map (·.2) = pl.map (·.2) ++ l) : pl'.length = pl.length + l.length := by
  have := congrArg List.length h
  simpa using this

set_option maxRecDepth 100000 in
theorem ev37 (h : Handler) {n : Nat} (hn4 : n ≤ 4) (d : Nat) : ∀ (k : Nat) {A : Arena} {v bv : AV} {b : List Int} {pl : List (Nat × List Int)}, b.length + k = n + 1 → HB A bv b → OutQ A v pl → pl.length + 4 ^ k ≤ 100000 →
    ∃ v' B pl', H37 (d + k) h [.int .i64 (n : Int), bv, v] A = some (v', B) ∧ OutQ B v' pl' ∧ pl'.map (·.2) = pl.map (·.2) ++ ext n true (k + 1) b ∧ Step A B
  | 0, A, v, bv, b, pl, hk, hB, ho, hll => by
    have e : ext n true (0 + 1) b = [b] := by unfold ext; rw [if_pos (by omega)]
    rw [e]
    cases d with
    | zero =>
      obtain ⟨v', B, r, h1, h2, h3⟩ := leaf37 [] h hB ho (by omega) hn4 (by omega)
      exact ⟨v', B, _, h1, h2, by simp, h3⟩
    | succ d =>
      obtain ⟨v', B, r, h1, h2, h3⟩ := leaf37 [(37, H37 d)] h hB ho (by omega) hn4 (by omega)
      exact ⟨v', B, _, h1, h2, by simp, h3⟩
  | k + 1, A, v, bv, b, pl, hk, hB, ho, hll => by
    have e : ext n true (k + 1 + 1) b = (List.range' 1 n).flatMap (fE n true (k + 1) b) := by
      rw [ext, if_neg (by omega)]; rfl
    rw [e]
    have loop : ∀ (c i : Nat) (A : Arena) (v : AV) (pl : List (Nat × List Int)) (m : Nat), i + c = n + 1 → HB A bv b → OutQ A v pl → pl.length + c * 4 ^ k ≤ 100000 → c < m →
        ∃ v' B pl', iter (evC (envY GC [(37, H37 (d + k))] h) 300 lp37x1) mask37x1 m (st37x1 (.int .i64 (n : Int)) bv v (.int .i64 (i : Int))) A = some (.exit 0 ((st37x1 (.int .i64 (n : Int)) bv v' (.int .i64 ((n + 1 : Nat) : Int))).set 8 (.bool false)) B) ∧
          OutQ B v' pl' ∧ pl'.map (·.2) = pl.map (·.2) ++ (List.range' i c).flatMap (fE n true (k + 1) b) ∧ Step A B := by
      intro c
      induction c with
      | zero =>
        intro i A v pl m hi hB ho hll hm
        obtain ⟨m, rfl⟩ : ∃ j, m = j + 1 := ⟨m - 1, by omega⟩
        refine ⟨v, A, pl, ?_, ho, by simp, Step.refl _⟩
        have b0 : evBin .leq (.int .i64 ((n + 1 : Nat) : Int)) (.int .i64 (n : Int)) = some (.bool false) := by rw [evLeqI, decide_eq_false (by omega)]
        obtain rfl : i = n + 1 := by omega
        obtain ⟨i1, hi1⟩ : ∃ i1 : Nat, i1 = n + 1 := ⟨_, rfl⟩
        rw [← hi1] at b0 ⊢
        rw [iter_succ, cl37x1]
        simp [lp37x1, b0, -evBin]
      | succ c ihc =>
        intro i A v pl m hi hB ho hll hm
        obtain ⟨m, rfl⟩ : ∃ j, m = j + 1 := ⟨m - 1, by omega⟩
        rw [Nat.add_mul, Nat.one_mul] at hll
        obtain ⟨v1, B, pl1, hB1, hB2, hB3, hB4, hB5⟩ : ∃ v1 B pl1, ((i : Int) ∉ b → H37 (d + k) h [.int .i64 (n : Int), .sl (A.length + 1) 0 (b.length + 1), v] (A ++ [.dead, .row 1 true (intsA (b ++ [(i : Int)])), .row 1 false [.int .i64 (i : Int)]]) = some (v1, B)) ∧
            ((i : Int) ∈ b → B = A ∧ v1 = v) ∧ OutQ B v1 pl1 ∧ pl1.map (·.2) = pl.map (·.2) ++ fE n true (k + 1) b i ∧ Step A B := by
          by_cases hd : (i : Int) ∈ b
          · refine ⟨v, A, pl, fun e => absurd hd e, fun _ => ⟨rfl, rfl⟩, ho, ?_, Step.refl _⟩
            unfold fE
            rw [if_neg (by simp [hd]), List.append_nil]
          · obtain ⟨v1, B, pl1, h1, h2, h3, h4⟩ := ev37 h hn4 d k (A := A ++ [.dead, .row 1 true (intsA (b ++ [(i : Int)])), .row 1 false [.int .i64 (i : Int)]]) (v := v) (bv := .sl (A.length + 1) 0 (b.length + 1)) (b := b ++ [(i : Int)]) (pl := pl) (by simp; omega) ⟨by simp, .inr ⟨A.length + 1, true, by simp, by rw [List.getElem?_append_right (by omega)]; simp⟩⟩ (ho.app _) (by omega)
            refine ⟨v1, B, pl1, fun _ => h1, fun e => absurd e hd, h2, ?_, (Step.app A _).trans h4⟩
            unfold fE
            rw [if_pos (by simp [hd])]; exact h3
        have hr := round37 (fs := [(37, H37 (d + k))]) (h := h) rfl hB (by omega) (i := i) (by omega) hn4 hB1 hB2
        have hfl : (fE n true (k + 1) b i).length ≤ 4 ^ k := by
          unfold fE
          split
          · rcases ext_len n true hn4 k (b ++ [(i : Int)]) with h1 | h1
            · exact h1
            · simp at h1; omega
          · simp
        obtain ⟨v2, C, pl2, c1, c2, c3, c4⟩ := ihc (i + 1) B v1 pl1 m (by omega) (hB.step hB5) hB3 (by rw [map_len hB4]; omega) (by omega)
        refine ⟨v2, C, pl2, ?_, c2, ?_, hB5.trans c4⟩
        · rw [iter_succ, cl37x1, hr]
          exact c1
        · rw [List.range'_succ, List.flatMap_cons, ← List.append_assoc, c3, hB4]
    have hp : n * 4 ^ k ≤ 4 ^ (k + 1) := by
      rw [Nat.pow_succ, Nat.mul_comm]
      exact Nat.mul_le_mul_left _ hn4
    obtain ⟨v', B, pl', h1, h2, h3, h4⟩ := loop n 1 A v pl 300 (by omega) hB ho (by omega) (by omega)
    refine ⟨v', B, pl', ?_, h2, h3, h4⟩
    have hl := hB.len
    have b1 := add1_nat n (by omega)
    have b2 : evBin .eql (.int .i64 (b.length : Int)) (.int .i64 ((n + 1 : Nat) : Int)) = some (.bool false) := by rw [evEqlI, decide_eq_false (by omega)]
    obtain ⟨n1, hn1⟩ : ∃ x, x = n + 1 := ⟨_, rfl⟩
    rw [← hn1] at b1 b2 h1
    obtain ⟨bl, hbl⟩ : ∃ x, x = b.length := ⟨_, rfl⟩
    rw [← hbl] at hl b2
    rw [show H37 (d + (k + 1)) = fun h => evFun (envY GC [(37, H37 (d + k))] h) 300 mf37 from rfl]
    simp only
    rw [evFun_run _ _ rfl]
    have h1 : iter (evC (envY GC [(37, H37 (d + k))] h) 300 lp37x1) mask37x1 300 (st37x1 (.int .i64 (n : Int)) bv v (.int .i64 1)) A = _ := h1
    simp [mf37, hl, b1, b2, go37x1 h1, -evBin, -evLenSl]
end Go.Proofs.Ytemklhljjaniaaa
/-
  Cluster, plain: what periods are possible; one chamber, two blades, longer stays.
-/
namespace Go.Proofs.Ytemklhljjaniaaa
open Go
open Cy (GC CArc arcA arcsOf isPer ValidA okA smM smT lvM lvT VerOk RefOk Ready Pos lar Keeps lv_ok lv_starts lv_cycle ver_pos ref_pos)

theorem keeps_iff {T : Tool} {o : List Int} {p : Int} {s : List Int} : Keeps (lar p (arcsL T o)) s ↔
    (∀ i, i < o.length → s.getD (arcO T o i).f.toNat 0 + (arcO T o i).len p ≤ s.getD (arcO T o i).t.toNat 0) ∧
    (∀ i, i < T.ch.length → s.getD (lkT T o (i + 1)).1.toNat 0 + (workT T + (T.ch.getD i (0, 0)).1 - p * (lkT T o (i + 1)).2.2) ≤ s.getD (lkT T o (i + 1)).2.1.toNat 0 ∧
      s.getD (lkT T o (i + 1)).2.1.toNat 0 + (-(workT T + (T.ch.getD i (0, 0)).1 + (T.ch.getD i (0, 0)).2) - p * -(lkT T o (i + 1)).2.2) ≤ s.getD (lkT T o (i + 1)).1.toNat 0) := by
  constructor
  · intro h
    refine ⟨fun i hi => ?_, fun i hi => ⟨?_, ?_⟩⟩
    · exact h _ (List.mem_map.2 ⟨arcO T o i, List.mem_append.2 (.inl (List.mem_map.2 ⟨i, List.mem_range.2 hi, rfl⟩)), rfl⟩)
    · exact h _ (List.mem_map.2 ⟨_, List.mem_append.2 (.inr (List.mem_flatMap.2 ⟨i, List.mem_range.2 hi, List.mem_cons_self ..⟩)), rfl⟩)
    · exact h _ (List.mem_map.2 ⟨_, List.mem_append.2 (.inr (List.mem_flatMap.2 ⟨i, List.mem_range.2 hi, List.mem_cons_of_mem _ (List.mem_singleton.2 rfl)⟩)), rfl⟩)
  · rintro ⟨h1, h2⟩ a ha
    obtain ⟨c, hc, rfl⟩ := List.mem_map.1 ha
    rcases List.mem_append.1 hc with hc | hc
    · obtain ⟨i, hi, rfl⟩ := List.mem_map.1 hc
      exact h1 i (List.mem_range.1 hi)
    · obtain ⟨i, hi, hc⟩ := List.mem_flatMap.1 hc
      simp only [arcC, List.mem_cons, List.not_mem_nil, or_false] at hc
      rcases hc with rfl | rfl
      · exact (h2 i (List.mem_range.1 hi)).1
      · exact (h2 i (List.mem_range.1 hi)).2
theorem np_of {T : Tool} {o : List Int} (hO : o ∈ ordersM T) {p : Int} {s : List Int} (h : Keeps (lar p (arcsL T o)) s) : ¬ Pos (arcsL T o) p := Cy.keeps_noP (arcs_ok hO).1.2.2 h
theorem np_ver {T : Tool} {o : List Int} (hO : o ∈ ordersM T) {p : Int} (h1 : -1000000 ≤ p) (h2 : p ≤ 1000000) (h : ¬ Pos (arcsL T o) p) : ∃ s, VerOk (o.length : Int) (arcsL T o) p s := by
  have hR := ready_of hO h1 h2
  exact ⟨_, (lv_starts hR ((lv_ok hR).2 h)).2.1⟩
theorem np_keeps {T : Tool} {o : List Int} (hO : o ∈ ordersM T) {p : Int} (h1 : -1000000 ≤ p) (h2 : p ≤ 1000000) (h : ¬ Pos (arcsL T o) p) : ∃ s, Keeps (lar p (arcsL T o)) s := by
  obtain ⟨s, hs⟩ := np_ver hO h1 h2 h
  exact ⟨s, hs.2.2.2⟩

/-! ### one chamber, one blade -/
theorem one_ord {T : Tool} (hv : ValidC T) (hn : T.ch.length = 1) (hb : T.blades = 1) : ordersM T = [[0, 1]] := by
  unfold ordersM
  rw [if_pos hv, hn, hb]
  decide
theorem one_best {T : Tool} (hv : ValidC T) {tm sy : Int} (hc : T.ch = [(tm, sy)]) (hb : T.blades = 1) (hp : 1 ≤ T.pick) (hp2 : 0 ≤ T.place) : ∃ s, bestM T = some s ∧ s.period = 2 * workT T + tm + T.travel ∧ s.order = [0, 1] := by
  have ho := one_ord hv (by rw [hc]; rfl) hb
  have hO : [0, 1] ∈ ordersM T := by rw [ho]; decide
  have hw := workT_bd hv
  have htr := hv.2.1.2.2
  have htm := hv.1 (tm, sy) (by rw [hc]; simp)
  simp only [okCh] at htm
  have hw1 : 1 ≤ workT T := by unfold workT; rw [if_neg (by omega)]; omega
  have k0 : lkT T [0, 1] 1 = (0, 1, 0) := by unfold lkT; rw [if_neg (by omega)]; rfl
  have a0 : ∀ p, (arcO T [0, 1] 0).len p = workT T := fun p => by
    simp only [CArc.len, arcO, nextO, hb]; simp
  have a1 : ∀ p, (arcO T [0, 1] 1).len p = workT T + T.travel - p := fun p => by
    simp only [CArc.len, arcO, nextO, hb]; simp
  have ht : ∀ p, 1 ≤ p → p ≤ 1000000 → (¬ Pos (arcsL T [0, 1]) p ↔ 2 * workT T + tm + T.travel ≤ p) := fun p h1 h2 => by
    constructor
    · intro h
      obtain ⟨s, hs⟩ := np_keeps hO (by omega) h2 h
      obtain ⟨h3, h4⟩ := keeps_iff.1 hs
      have g1 := h3 1 (by simp)
      rw [a1] at g1
      have g2 := (h4 0 (by rw [hc]; simp)).1
      rw [show ((0 : Nat) : Int) + 1 = 1 from rfl, k0, hc] at g2
      have e1 : (arcO T [0, 1] 1).f = 1 := rfl
      have e2 : (arcO T [0, 1] 1).t = 0 := rfl
      rw [e1, e2] at g1
      simp at g1 g2
      omega
    · intro h
      refine np_of hO (s := [0, workT T + tm]) (keeps_iff.2 ⟨fun i hi => ?_, fun i hi => ?_⟩)
      · have : i = 0 ∨ i = 1 := by simp at hi; omega
        rcases this with rfl | rfl
        · rw [a0]
          have e1 : (arcO T [0, 1] 0).f = 0 := rfl
          have e2 : (arcO T [0, 1] 0).t = 1 := rfl
          rw [e1, e2]
          simp; omega
        · rw [a1]
          have e1 : (arcO T [0, 1] 1).f = 1 := rfl
          have e2 : (arcO T [0, 1] 1).t = 0 := rfl
          rw [e1, e2]
          simp; omega
      · obtain rfl : i = 0 := by rw [hc] at hi; simp at hi; omega
        rw [show ((0 : Nat) : Int) + 1 = 1 from rfl, k0, hc]
        simp; omega
  obtain ⟨o', h1, h2, h3⟩ := best_eq hO (p := 2 * workT T + tm + T.travel) (by omega) (by omega) ((ht _ (by omega) (by omega)).2 (by omega)) (fun o' ho' q h1 h2 => by
    rw [ho, List.mem_singleton] at ho'
    subst ho'
    exact Classical.byContradiction fun h => by have := (ht q h1 (by omega)).1 h; omega)
  refine ⟨_, by unfold bestM; rw [h3]; rfl, rfl, ?_⟩
  rw [ho, List.mem_singleton] at h1
  exact h1

/-! ### two blades -/
def rngI (n : Nat) : List Int := (List.range (n + 1)).map fun (i : Nat) => (i : Int)
theorem two_ord {T : Tool} (hv : ValidC T) (hb : T.blades = 2) : ordersM T = [rngI T.ch.length] := by
  unfold ordersM
  rw [if_pos hv, hb]
  have h1 := hv.2.2.1
  have h4 := hv.2.2.2.1
  generalize T.ch.length = n at *
  have : n = 1 ∨ n = 2 ∨ n = 3 ∨ n = 4 := by omega
  rcases this with rfl | rfl | rfl | rfl <;> decide
theorem rng_get (n i : Nat) (h : i ≤ n) : (rngI n).getD i 0 = (i : Int) := by
  unfold rngI
  rw [List.getD_eq_getElem?_getD, List.getElem?_map, List.getElem?_range (by omega)]; rfl
theorem two_np {T : Tool} (hv : ValidC T) (hb : T.blades = 2) {p : Int} (hp1 : 1 ≤ p) (hp2 : p ≤ 1000000) : ¬ Pos (arcsL T (rngI T.ch.length)) p ↔
    ((T.ch.length : Int) + 1) * (workT T + T.travel) ≤ p ∧ ∀ c ∈ T.ch, workT T + c.1 ≤ p ∧ p ≤ workT T + c.1 + c.2 := by
  have ho := two_ord hv hb
  have hO : rngI T.ch.length ∈ ordersM T := by rw [ho]; simp
  have hl : (rngI T.ch.length).length = T.ch.length + 1 := by simp [rngI]
  obtain ⟨d, hd⟩ : ∃ d, d = workT T + T.travel := ⟨_, rfl⟩
  have af : ∀ i, i ≤ T.ch.length → (arcO T (rngI T.ch.length) i).f = (i : Int) := fun i hi => rng_get _ _ hi
  have at1 : ∀ i, i < T.ch.length → (arcO T (rngI T.ch.length) i).t = ((i + 1 : Nat) : Int) ∧ (arcO T (rngI T.ch.length) i).len p = d := fun i hi => by
    have e : nextO (rngI T.ch.length) i = ((i + 1 : Nat) : Int) := by unfold nextO; rw [if_pos (by omega), rng_get _ _ (by omega)]
    refine ⟨e, ?_⟩
    simp only [CArc.len, arcO]
    rw [if_pos (.inl hb), if_pos (by omega), hd]; omega
  have at2 : (arcO T (rngI T.ch.length) T.ch.length).t = 0 ∧ (arcO T (rngI T.ch.length) T.ch.length).len p = d - p := by
    have e : nextO (rngI T.ch.length) T.ch.length = 0 := by unfold nextO; rw [if_neg (by omega)]
    refine ⟨e, ?_⟩
    simp only [CArc.len, arcO]
    rw [if_pos (.inl hb), if_neg (by omega), hd]; omega
  have lk : ∀ j : Int, lkT T (rngI T.ch.length) j = (j, j, 1) := fun j => if_pos hb
  rw [← hd]
  constructor
  · intro h
    obtain ⟨s, hs⟩ := np_keeps hO (by omega) hp2 h
    obtain ⟨h3, h4⟩ := keeps_iff.1 hs
    have key : ∀ i, i ≤ T.ch.length → s.getD 0 0 + (i : Int) * d ≤ s.getD i 0 := fun i => by
      induction i with
      | zero => intro _; simp
      | succ i ih =>
        intro hi
        have h5 := ih (by omega)
        have h6 := h3 i (by omega)
        rw [af i (by omega), (at1 i (by omega)).1, (at1 i (by omega)).2, Int.toNat_natCast, Int.toNat_natCast] at h6
        have : ((i + 1 : Nat) : Int) * d = (i : Int) * d + d := by
          rw [show ((i + 1 : Nat) : Int) = (i : Int) + 1 by omega, Int.add_mul, Int.one_mul]
        omega
    have k1 := key T.ch.length (Nat.le_refl _)
    have k2 := h3 T.ch.length (by omega)
    rw [af _ (Nat.le_refl _), at2.1, at2.2, Int.toNat_natCast] at k2
    have k3 : s.getD (0 : Int).toNat 0 = s.getD 0 0 := rfl
    rw [k3] at k2
    refine ⟨by rw [Int.add_mul, Int.one_mul]; omega, fun c hc => ?_⟩
    obtain ⟨i, hi, rfl⟩ := List.mem_iff_getElem.1 hc
    have h5 := h4 i hi
    rw [lk] at h5
    have hx0 : T.ch.getD i (0, 0) = T.ch[i] := by rw [List.getD_eq_getElem?_getD, List.getElem?_eq_getElem hi]; rfl
    rw [hx0] at h5
    simp only at h5
    omega
  · rintro ⟨h1, h2⟩
    have sg : ∀ i, i ≤ T.ch.length → ((List.range (T.ch.length + 1)).map fun (i : Nat) => (i : Int) * d).getD i 0 = (i : Int) * d := fun i hi => by
      rw [List.getD_eq_getElem?_getD, List.getElem?_map, List.getElem?_range (by omega)]; rfl
    refine np_of hO (s := (List.range (T.ch.length + 1)).map fun (i : Nat) => (i : Int) * d) (keeps_iff.2 ⟨fun i hi => ?_, fun i hi => ?_⟩)
    · by_cases hin : i = T.ch.length
      · subst hin
        rw [af _ (Nat.le_refl _), at2.1, at2.2, Int.toNat_natCast, sg _ (Nat.le_refl _), show (0 : Int).toNat = 0 from rfl, sg 0 (by omega)]
        rw [Int.add_mul, Int.one_mul] at h1
        simp; omega
      · rw [af i (by omega), (at1 i (by omega)).1, (at1 i (by omega)).2, Int.toNat_natCast, Int.toNat_natCast, sg i (by omega), sg (i + 1) (by omega)]
        have : ((i + 1 : Nat) : Int) * d = (i : Int) * d + d := by
          rw [show ((i + 1 : Nat) : Int) = (i : Int) + 1 by omega, Int.add_mul, Int.one_mul]
        omega
    · have hx0 : T.ch.getD i (0, 0) = T.ch[i] := by rw [List.getD_eq_getElem?_getD, List.getElem?_eq_getElem hi]; rfl
      have := h2 _ (List.getElem_mem hi)
      rw [lk, hx0]
      simp only
      omega
def wantT (T : Tool) (k : Nat) : Int := (T.ch.take k).foldl (fun a c => max a (workT T + c.1)) (((T.ch.length : Int) + 1) * (workT T + T.travel))
def mostT (T : Tool) (k : Nat) : Int := (T.ch.take k).foldl (fun a c => min a (workT T + c.1 + c.2)) 1000000
theorem fold_max {W a p : Int} : ∀ l : List (Int × Int), l.foldl (fun a c => max a (W + c.1)) a ≤ p ↔ a ≤ p ∧ ∀ c ∈ l, W + c.1 ≤ p := by
  intro l
  induction l generalizing a with
  | nil => simp
  | cons c l ih =>
    rw [List.foldl_cons, ih]
    simp only [List.mem_cons, forall_eq_or_imp, Int.max_le, and_assoc]
theorem fold_min {W a p : Int} : ∀ l : List (Int × Int), p ≤ l.foldl (fun a c => min a (W + c.1 + c.2)) a ↔ p ≤ a ∧ ∀ c ∈ l, p ≤ W + c.1 + c.2 := by
  intro l
  induction l generalizing a with
  | nil => simp
  | cons c l ih =>
    rw [List.foldl_cons, ih]
    simp only [List.mem_cons, forall_eq_or_imp, Int.le_min, and_assoc]
theorem two_best {T : Tool} (hv : ValidC T) (hb : T.blades = 2) (hp : 1 ≤ T.pick) (hp2 : 0 ≤ T.place) :
    if wantT T T.ch.length > mostT T T.ch.length then bestM T = none else ∃ s, bestM T = some s ∧ s.period = wantT T T.ch.length := by
  have ho := two_ord hv hb
  have hO : rngI T.ch.length ∈ ordersM T := by rw [ho]; simp
  have hw1 : 1 ≤ workT T := by unfold workT; rw [if_pos hb]; omega
  have htr := hv.2.1.2.2
  have hnp : ∀ p, 1 ≤ p → p ≤ 1000000 → (¬ Pos (arcsL T (rngI T.ch.length)) p ↔ wantT T T.ch.length ≤ p ∧ p ≤ mostT T T.ch.length) := fun p h1 h2 => by
    rw [two_np hv hb h1 h2]
    unfold wantT mostT
    rw [List.take_length, fold_max, fold_min]
    constructor
    · rintro ⟨a, b⟩
      exact ⟨⟨a, fun c hc => (b c hc).1⟩, h2, fun c hc => (b c hc).2⟩
    · rintro ⟨⟨a, b⟩, _, c⟩
      exact ⟨a, fun x hx => ⟨b x hx, c x hx⟩⟩
  have hmost : mostT T T.ch.length ≤ 1000000 := by
    have := (fold_min (W := workT T) (a := 1000000) (p := mostT T T.ch.length) (T.ch.take T.ch.length)).1 (Int.le_refl _)
    exact this.1
  have hwant : 1 ≤ wantT T T.ch.length := by
    have := ((fold_max (W := workT T) (a := ((T.ch.length : Int) + 1) * (workT T + T.travel)) (p := wantT T T.ch.length) (T.ch.take T.ch.length)).1 (Int.le_refl _)).1
    have h2 : 1 * (workT T + T.travel) ≤ ((T.ch.length : Int) + 1) * (workT T + T.travel) := Int.mul_le_mul_of_nonneg_right (by omega) (by omega)
    omega
  split
  · rename_i h
    unfold bestM
    rw [best_no fun o' ho' q h1 h2 => by
      rw [ho, List.mem_singleton] at ho'
      subst ho'
      exact Classical.byContradiction fun hn => by have := (hnp q h1 h2).1 hn; omega]
    rfl
  · rename_i h
    obtain ⟨o', h1, h2, h3⟩ := best_eq hO (p := wantT T T.ch.length) hwant (by omega) ((hnp _ hwant (by omega)).2 ⟨Int.le_refl _, by omega⟩) (fun o' ho' q h1 h2 => by
      rw [ho, List.mem_singleton] at ho'
      subst ho'
      exact Classical.byContradiction fun hn => by have := (hnp q h1 (by omega)).1 hn; omega)
    exact ⟨_, by unfold bestM; rw [h3]; rfl, rfl⟩

/-! ### longer stays -/
theorem stays_best {T D : Tool} (hv : ValidC D) (h1 : D.pick = T.pick) (h2 : D.place = T.place) (h3 : D.travel = T.travel) (h4 : D.blades = T.blades) (hl : D.ch.length = T.ch.length)
    (hch : ∀ i, i < T.ch.length → (D.ch.getD i (0, 0)).1 = (T.ch.getD i (0, 0)).1 ∧ (T.ch.getD i (0, 0)).2 ≤ (D.ch.getD i (0, 0)).2) {s : Sched} (hs : bestM T = some s) : ∃ t, bestM D = some t ∧ t.period ≤ s.period := by
  obtain ⟨hb, _⟩ := best_some hs
  have hB := best_inv T
  rw [hb] at hB
  obtain ⟨k1, k2, k3⟩ := hB.ok _ rfl
  have k4 := (hB.no _ rfl).1
  simp only at k1 k2 k3 k4
  have hvT := (orders_mem k3).1
  have hord : ordersM D = ordersM T := by
    unfold ordersM
    rw [if_pos hv, if_pos hvT, hl, h4]
  have hw : workT D = workT T := by unfold workT; rw [h1, h2, h3, h4]
  have hO : s.order ∈ ordersM D := by rw [hord]; exact k3
  have hlk : ∀ j, lkT D s.order j = lkT T s.order j := fun j => by unfold lkT; rw [h4]
  have hao : ∀ i, arcO D s.order i = arcO T s.order i := fun i => by unfold arcO; rw [hw, h4, h3]
  obtain ⟨st, hst⟩ := np_keeps k3 (by omega) k2 k4
  obtain ⟨g1, g2⟩ := keeps_iff.1 hst
  have hnp : ¬ Pos (arcsL D s.order) s.period := np_of hO (s := st) (keeps_iff.2 ⟨fun i hi => by rw [hao]; exact g1 i hi, fun i hi => by
    have g3 := g2 i (by omega)
    have g4 := hch i (by omega)
    rw [hlk, hw, g4.1]
    refine ⟨g3.1, ?_⟩
    have := g3.2
    omega⟩)
  cases ht : bestM D with
  | none =>
    have hBD := best_inv D
    have : bestF D = none := by
      unfold bestM at ht
      cases h : bestF D with
      | none => rfl
      | some x => rw [h] at ht; cases ht
    rw [this] at hBD
    exact absurd (hBD.pos _ hO s.period k1 k2) hnp
  | some t =>
    refine ⟨t, rfl, ?_⟩
    obtain ⟨hbD, _⟩ := best_some ht
    have hBD := best_inv D
    rw [hbD] at hBD
    rcases Int.lt_or_le s.period t.period with h | h
    · exact absurd (hBD.pos _ hO s.period k1 (by show s.period ≤ t.period - 1; omega)) hnp
    · exact h
end Go.Proofs.Ytemklhljjaniaaa
/-
  Cluster: the reference's orders.
-/
namespace Go.Proofs.Ytemklhljjaniaaa
open Go
open Cy (GC CArc arcA arcsOf isPer ValidA okA smM smT lvM lvT VerOk RefOk Ready Pos frz_i frz_b intsA_len M12_eq idxZ idxZ_some idxZ_none)

def rngK (k : Nat) : List Int := (List.range k).map fun (i : Nat) => (i : Int)
theorem rngK_len (k : Nat) : (rngK k).length = k := by simp [rngK]
theorem rngK_succ (k : Nat) : rngK (k + 1) = rngK k ++ [(k : Int)] := by simp [rngK, List.range_succ]
/-- the one order of two blades, under way -/
def Q15 (A0 : Arena) (i : Nat) (v : AV) (A : Arena) : Prop := (i = 0 ∧ v = .nilS ∧ A = A0) ∨ (0 < i ∧ ∃ g, v = .sl A0.length 0 i ∧ A = A0 ++ [.row 1 g (intsA (rngK i))])
theorem Q15.step {A0 A : Arena} {i : Nat} {v : AV} (h : Q15 A0 i v A) (hi : i ≤ 100) : ∃ v' A', evAppend 1 8 A v (.fs 1 [.int .i64 (i : Int)]) = some (v', A') ∧ Q15 A0 (i + 1) v' A' := by
  rcases h with ⟨rfl, rfl, rfl⟩ | ⟨h0, g, rfl, rfl⟩
  · exact ⟨.sl A.length 0 1, A ++ [.row 1 false [.int .i64 0]], by unfold evAppend; simp, .inr ⟨by omega, false, rfl, rfl⟩⟩
  · refine ⟨.sl A0.length 0 (i + 1), A0 ++ [.row 1 true (intsA (rngK (i + 1)))], ?_, .inr ⟨by omega, true, rfl, rfl⟩⟩
    have hz : i ≠ 0 := by omega
    have hb2 : (i + 1) * 8 ≤ 140737488355328 := by omega
    have hil : (intsA (rngK i)).length = i := by rw [intsA_len, rngK_len]
    have hset : (A0 ++ [Ent.row 1 g (intsA (rngK i))]).set A0.length (.row 1 true (intsA (rngK i) ++ [.int .i64 (i : Int)])) = A0 ++ [.row 1 true (intsA (rngK (i + 1)))] := by
      rw [List.set_append_right _ _ (Nat.le_refl _), Nat.sub_self, rngK_succ]
      simp [intsA]
    unfold evAppend
    simp [hz, hb2, hil, hset]

def B15 (T : Tool) (chv : AV) : Arena := [.row 5 false [toolA T chv]]
theorem Q15.at {A0 A : Arena} {i : Nat} {v : AV} (h : Q15 A0 i v A) {p : Nat} {e : Ent} (hp : A0[p]? = some e) : A[p]? = some e := by
  rcases h with ⟨_, _, rfl⟩ | ⟨_, g, _, rfl⟩
  · exact hp
  · rw [List.getElem?_append_left (List.getElem?_eq_some_iff.1 hp).1]; exact hp
theorem Q15.st {A0 A : Arena} {i : Nat} {v : AV} (h : Q15 A0 i v A) : Step A0 A := by
  rcases h with ⟨_, _, rfl⟩ | ⟨_, g, _, rfl⟩
  · exact Step.refl _
  · exact Step.app _ _
set_option maxRecDepth 100000 in
theorem loop15 (E : Env) (fuel : Nat) {T : Tool} {chv : AV} {A0 : Arena} {p : Nat} (hp : A0[p]? = some (.row 5 false [toolA T chv])) (hlen : evLenSl chv = some (.int .i64 (T.ch.length : Int))) (hl : T.ch.length ≤ 50) : ∀ (c i : Nat) (v : AV) (A : Arena) (m : Nat), i + c = T.ch.length + 1 → Q15 A0 i v A → c < m →
    ∃ v' A', iter (evC E fuel lp15x0) mask15x0 m (st15x0 (.ptr p 0 0) v (.int .i64 (i : Int))) A = some (.exit 0 ((st15x0 (.ptr p 0 0) v' (.int .i64 ((T.ch.length + 1 : Nat) : Int))).set 7 (.bool false)) A') ∧ Q15 A0 (T.ch.length + 1) v' A' := by
  intro c
  have hA : ∀ {i v A}, Q15 A0 i v A → evFieldAddr 0 A (.ptr p 0 0) = some (.ptr p 0 0) ∧ evLoad false 1 A (.ptr p 0 0) = some chv := fun {i v A} h => by
    have := h.at hp
    exact ⟨by simp [evFieldAddr, this], by simp [evLoad, this, toolA, loadElem_part]⟩
  induction c with
  | zero =>
    intro i v A m hi hq hm
    obtain ⟨m, rfl⟩ : ∃ j, m = j + 1 := ⟨m - 1, by omega⟩
    obtain rfl : i = T.ch.length + 1 := by omega
    obtain ⟨f0, l0⟩ := hA hq
    have b0 : evBin .leq (.int .i64 ((T.ch.length + 1 : Nat) : Int)) (.int .i64 (T.ch.length : Int)) = some (.bool false) := by rw [evLeqI, decide_eq_false (by omega)]
    refine ⟨v, A, ?_, hq⟩
    obtain ⟨i1, hi1⟩ : ∃ i1 : Nat, i1 = T.ch.length + 1 := ⟨_, rfl⟩
    rw [← hi1] at b0 ⊢
    rw [iter_succ, cl15x0]
    simp [lp15x0, f0, l0, hlen, b0, -evBin, -evLoad, -evFieldAddr, -evLenSl]
  | succ c ih =>
    intro i v A m hi hq hm
    obtain ⟨m, rfl⟩ : ∃ j, m = j + 1 := ⟨m - 1, by omega⟩
    obtain ⟨f0, l0⟩ := hA hq
    have b0 : evBin .leq (.int .i64 (i : Int)) (.int .i64 (T.ch.length : Int)) = some (.bool true) := by rw [evLeqI, decide_eq_true (by omega)]
    have b3 := add1_nat i (by omega)
    obtain ⟨v1, A1, s1, hq1⟩ := hq.step (by omega)
    obtain ⟨v', A', h1, h2⟩ := ih (i + 1) v1 A1 m (by omega) hq1 (by omega)
    refine ⟨v', A', ?_, h2⟩
    obtain ⟨i1, hi1⟩ : ∃ i1 : Nat, i1 = i + 1 := ⟨_, rfl⟩
    rw [← hi1] at b3 h1
    obtain ⟨k1, hk1⟩ : ∃ i1 : Nat, i1 = T.ch.length + 1 := ⟨_, rfl⟩
    rw [← hk1] at h1 ⊢
    rw [iter_succ, cl15x0]
    simpa [lp15x0, f0, l0, hlen, b0, b3, s1, -evBin, -evLoad, -evFieldAddr, -evLenSl] using h1

/-- a list of lists, as a value -/
def OutG (A : Arena) (v : AV) (pl : List (Nat × List Int)) : Prop :=
  (∀ x ∈ pl, x.2 ≠ [] ∧ ∃ g, A[x.1]? = some (.row 1 g (intsA x.2))) ∧ ((v = .nilS ∧ pl = []) ∨ ∃ id gr, v = .sl id 0 pl.length ∧ pl ≠ [] ∧ A[id]? = some (.row 1 gr (pl.map slOf)))
theorem OutQ.g {A : Arena} {v : AV} {pl : List (Nat × List Int)} (h : OutQ A v pl) : OutG A v pl := ⟨fun x hx => ⟨(h.1 x hx).1, _, (h.1 x hx).2⟩, h.2⟩
theorem OutG.frz {A : Arena} {v : AV} {pl : List (Nat × List Int)} (h : OutG A v pl) (k : Nat) : Proofs.Ytemklhljjaniaaa.frz A (k + 3) v = ordA (pl.map (·.2)) ∧ freshB A (k + 4) v = true := by
  obtain ⟨h1, h2⟩ := h
  rcases h2 with ⟨rfl, rfl⟩ | ⟨id, gr, rfl, hne, hr⟩
  · exact ⟨rfl, rfl⟩
  · have e : ((pl.map slOf).drop 0).take pl.length = pl.map slOf := by
      rw [List.drop_zero]
      conv => lhs; rw [show pl.length = (pl.map slOf).length by simp]
      rw [List.take_length]
    constructor
    · have hm : (pl.map slOf).map (Proofs.Ytemklhljjaniaaa.frz A (k + 2)) = (pl.map (·.2)).map fun l => slA 1 (intsA l) := by
        rw [List.map_map, List.map_map]
        refine List.map_congr_left fun x hx => ?_
        obtain ⟨n1, g, n2⟩ := h1 x hx
        show Proofs.Ytemklhljjaniaaa.frz A (k + 1 + 1) (.sl x.1 0 x.2.length) = _
        rw [frz_ints n2]
        exact (slA_ne n1).symm
      rw [show k + 3 = (k + 2) + 1 from rfl]
      simp only [Proofs.Ytemklhljjaniaaa.frz, hr]
      rw [e, hm]
      unfold ordA
      cases pl with
      | nil => exact absurd rfl hne
      | cons x r => rfl
    · rw [show k + 4 = (k + 3) + 1 from rfl]
      simp only [freshB, hr, List.drop_zero]
      rw [List.all_eq_true]
      intro y hy
      obtain ⟨x, hx, rfl⟩ := List.mem_map.1 (List.mem_of_mem_take hy)
      obtain ⟨n1, g, n2⟩ := h1 x hx
      exact fresh_ints n2 (k + 1)

noncomputable def fs15 : List (FuncId × HModel) := [(17, pureH 4 M17), (37, H37 4)]
@[simp] theorem fs15_17 : lookM fs15 17 = some (pureH 4 M17) := rfl
@[simp] theorem fs15_37 : lookM fs15 37 = some (H37 4) := rfl
theorem sound15 : ∀ f M, lookM fs15 f = some M → FnSpecY Try.prog GC f M := lookM_cons (FnSpecY.of_pure spec17 4) (lookM_cons (spec37 4) lookM_nil)
/-- the orders, in any memory -/
noncomputable def H15 : HModel := fun _ => evFun (envOf GC fs15) 300 mf15
theorem spec15H : FnSpecY Try.prog GC 15 H15 := (evFun_sound (envOf_sound sound15) rfl at15 comp15 PureIn.nil).y
noncomputable def M15 : PModel := fun args => evF (envOf GC fs15) 300 mf15 4 args
theorem spec15 : PureSpecF Try.prog GC 15 M15 := PureSpecF.of_ev (E := envOf GC fs15) (envOf_sound sound15) rfl at15 comp15 4 fun _ _ h => ⟨300, h⟩

set_option maxRecDepth 100000 in
set_option maxHeartbeats 1000000 in
theorem H15_eq (h : Handler) (A : Arena) {T : Tool} {chv : AV} (hb : SlA 2 (T.ch.map chA) chv) (hl : T.ch.length ≤ 200) : ∃ v B pl, H15 h [toolA T chv] A = some (v, B) ∧ OutG B v pl ∧ pl.map (·.2) = ordersM T ∧ Step A B := by
  have m := M17_eq hb hl
  have hlen := hb.len
  rw [List.length_map] at hlen
  have ft := fun A => toolA_frz (T := T) (fun A n => hb.frz (A := A) n) A 3
  have nr := toolA_noRef (T := T) (fun n => hb.noRef n) 3
  obtain ⟨p, hpe⟩ : ∃ p, p = A.length := ⟨_, rfl⟩
  obtain ⟨B0, hB0⟩ : ∃ B, B = A ++ [Ent.row 5 false [toolA T chv]] := ⟨_, rfl⟩
  have bx : evBox 5 (toolA T chv) A = some (.ptr p 0 0, B0) := by rw [hpe, hB0]; rfl
  have hp : B0[p]? = some (.row 5 false [toolA T chv]) := by rw [hpe, hB0]; simp
  have hst : Step A B0 := by rw [hB0]; exact Step.app _ _
  have ct : (cellsOf (toolA T chv)).length = 5 := rfl
  have ct1 : (cellsOf (.int .i64 0)).length = 1 := rfl
  have lt : evLoad true 5 B0 (.ptr p 0 0) = some (toolA T chv) := by simp [evLoad, hp, toolA, loadElem_agg]
  have f4 : evFieldAddr 4 B0 (.ptr p 0 0) = some (.ptr p 0 4) := by simp [evFieldAddr, hp]
  have f0 : evFieldAddr 0 B0 (.ptr p 0 0) = some (.ptr p 0 0) := by simp [evFieldAddr, hp]
  have l4 : evLoad false 1 B0 (.ptr p 0 4) = some (.int .i64 T.blades) := by simp [evLoad, hp, toolA, loadElem_part]
  have l0 : evLoad false 1 B0 (.ptr p 0 0) = some chv := by simp [evLoad, hp, toolA, loadElem_part]
  have b0 := evEqlI T.blades 2
  unfold H15
  rw [evFun_run _ _ rfl]
  by_cases hv : ValidC T
  · rw [decide_eq_true hv] at m
    have hn4 := hv.2.2.2.1
    by_cases h2 : T.blades = 2
    · rw [decide_eq_true h2] at b0
      obtain ⟨v, A1, hit, hq⟩ := loop15 (envOf GC fs15) 300 hp hlen (by omega) (T.ch.length + 1) 0 .nilS B0 300 (by omega) (.inl ⟨rfl, rfl, rfl⟩) (by omega)
      rw [two_ord hv h2]
      have hst2 := hq.st
      rcases hq with ⟨h, _⟩ | ⟨_, g, rfl, hAe⟩
      · exact absurd h (by omega)
      have bs : evBuildSlice 1 [.sl B0.length 0 (T.ch.length + 1)] A1 = some (.sl A1.length 0 1, A1 ++ [.row 1 false [.sl B0.length 0 (T.ch.length + 1)]]) := rfl
      have hri : (rngI T.ch.length).length = T.ch.length + 1 := by simp [rngI]
      refine ⟨.sl A1.length 0 1, A1 ++ [.row 1 false [.sl B0.length 0 (T.ch.length + 1)]], [(B0.length, rngI T.ch.length)], ?_, ⟨fun x hx => ?_, .inr ⟨A1.length, false, rfl, by simp, ?_⟩⟩, rfl, (hst.trans hst2).trans (Step.app _ _)⟩
      · obtain ⟨k1, hk1⟩ : ∃ i1 : Nat, i1 = T.ch.length + 1 := ⟨_, rfl⟩
        rw [← hk1] at hit bs ⊢
        obtain ⟨r1, hr1⟩ : ∃ i1 : Nat, i1 = B0.length := ⟨_, rfl⟩
        rw [← hr1] at hit bs ⊢
        have hit : iter (evC (envOf GC fs15) 300 lp15x0) mask15x0 300 (st15x0 (.ptr p 0 0) .nilS (.int .i64 0)) B0 = _ := hit
        obtain ⟨t, ht⟩ : ∃ t, t = toolA T chv := ⟨_, rfl⟩
        rw [← ht] at bx ct lt ft m nr ⊢
        simp [mf15, bx, ct, lt, ft, m, f4, l4, b0, go15x0 hit, bs, -frz, -evLenSl, -evLoad, -evFieldAddr, -evBox, -evBin, -evBuildSlice, -cellsOf]
      · rw [List.mem_singleton] at hx
        subst hx
        refine ⟨by simp [rngI], g, ?_⟩
        rw [hAe]
        simp only
        rw [List.append_assoc, List.getElem?_append_right (by omega), Nat.sub_self]
        rfl
      · rw [List.getElem?_append_right (by omega), Nat.sub_self]
        simp [slOf, hri]
    · rw [decide_eq_false h2] at b0
      have hb1 : T.blades = 1 := by have := hv.2.2.2.2; omega
      have ho : OutQ B0 .nilS [] := ⟨fun _ h => by simp at h, .inl ⟨rfl, rfl⟩⟩
      have hp4 : 4 ^ T.ch.length ≤ 4 ^ 4 := Nat.pow_le_pow_right (by omega) hn4
      obtain ⟨v', B, pl, h1, h2, h3, h4⟩ := ev37 (fun _ _ _ => none) (d := 4 - T.ch.length) hn4 T.ch.length (A := B0) (v := .nilS) (bv := .fs 1 [.int .i64 0]) (b := [0]) (pl := []) (by simp; omega) ⟨by simp, .inl rfl⟩ ho (by simp; omega)
      rw [show 4 - T.ch.length + T.ch.length = 4 by omega] at h1
      have he : pl.map (·.2) = ordersM T := by rw [h3]; unfold ordersM; rw [if_pos hv, decide_eq_true hb1]; rfl
      refine ⟨v', B, pl, ?_, h2.g, he, hst.trans h4⟩
      obtain ⟨t, ht⟩ : ∃ t, t = toolA T chv := ⟨_, rfl⟩
      rw [← ht] at bx ct lt ft m nr ⊢
      simp [mf15, bx, ct, ct1, lt, ft, m, f4, f0, l0, l4, b0, hlen, h1, -frz, -evLenSl, -evLoad, -evFieldAddr, -evBox, -evBin, -evBuildSlice, -cellsOf]
  · rw [decide_eq_false hv] at m
    have e : ordersM T = [] := by unfold ordersM; rw [if_neg hv]
    refine ⟨.nilS, B0, [], ?_, ⟨fun _ h => by simp at h, .inl ⟨rfl, rfl⟩⟩, by rw [e]; rfl, hst⟩
    obtain ⟨t, ht⟩ : ∃ t, t = toolA T chv := ⟨_, rfl⟩
    rw [← ht] at bx ct lt ft m nr ⊢
    simp [mf15, bx, ct, lt, ft, m, -frz, -evLenSl, -evLoad, -evFieldAddr, -evBox, -evBin, -evBuildSlice, -cellsOf]
theorem M15_eq {T : Tool} {chv : AV} (hb : SlA 2 (T.ch.map chA) chv) (hl : T.ch.length ≤ 200) : M15 [toolA T chv] = some (ordA (ordersM T)) := by
  obtain ⟨v, B, pl, h1, h2, h3, _⟩ := H15_eq (fun _ _ _ => none) [] hb hl
  unfold H15 at h1
  unfold M15 evF
  have hf := (h2.frz 1).1
  rw [h3] at hf
  rw [h1]
  simp only [Option.bind_some]
  rw [if_pos (h2.frz 0).2, hf]
end Go.Proofs.Ytemklhljjaniaaa
/-
  Cluster: the reference's Known.
-/
namespace Go.Proofs.Ytemklhljjaniaaa
open Go
open Cy (GC CArc arcA arcsOf isPer ValidA okA smM smT lvM lvT VerOk RefOk Ready Pos frz_i frz_b intsA_len M12_eq idxZ idxZ_some idxZ_none)

noncomputable def fs47 : List (FuncId × HModel) := [(15, pureFH 4 M15), (18, pureH 4 Cy.M18)]
@[simp] theorem fs47_15 : lookM fs47 15 = some (pureFH 4 M15) := rfl
@[simp] theorem fs47_18 : lookM fs47 18 = some (pureH 4 Cy.M18) := rfl
theorem sound47 : ∀ f M, lookM fs47 f = some M → FnSpecY Try.prog GC f M := lookM_cons (FnSpecY.of_pureF spec15 4) (lookM_cons (FnSpecY.of_pure Cy.spec18 4) lookM_nil)
noncomputable def M47 : PModel := fun args => evP (envOf GC fs47) 300 mf47 1 args
theorem spec47 : PureSpec Try.prog GC 47 M47 := PureSpec.of_ev (E := envOf GC fs47) (envOf_sound sound47) rfl at47 comp47 1 fun _ _ h => ⟨300, h⟩
theorem M18_eq {xs ys : List Int} {a b : AV} (h1 : intsOf a = some xs) (h2 : intsOf b = some ys) : Cy.M18 [a, b] = some (.bool (decide (xs = ys))) := by
  unfold Cy.M18
  simp only [h1, h2]

set_option maxRecDepth 100000 in
set_option maxHeartbeats 1000000 in
theorem M47_eq {T : Tool} {chv ov : AV} {o : List Int} (hb : SlA 2 (T.ch.map chA) chv) (hl : T.ch.length ≤ 200) (ho : SlA 1 (intsA o) ov) (hol : o.length ≤ 200) (hoi : ∀ z ∈ o, inI z) : M47 [toolA T chv, ov] = some (.bool (decide (o ∈ ordersM T))) := by
  have m15 := M15_eq hb hl
  have hll := orders_len T
  have hmem : ∀ l ∈ ordersM T, l.length ≤ 200 ∧ ∀ z ∈ l, inI z := fun l hl' => by
    have h1 := orders_mem hl'
    have h2 := orders_bd hl'
    have h3 := h1.1.2.2.2.1
    exact ⟨by have := h1.2.1; omega, fun z hz => by have := h2 z hz; unfold inI; omega⟩
  have ft := fun A => toolA_frz (T := T) (fun A n => hb.frz (A := A) n) A 3
  have nr := toolA_noRef (T := T) (fun n => hb.noRef n) 3
  have fo : ∀ A n, frz A n ov = ov := fun A n => ho.frz n
  have bx : evBox 5 (toolA T chv) [] = some (.ptr 0 0 0, B15 T chv) := rfl
  have ct : (cellsOf (toolA T chv)).length = 5 := rfl
  have lt : evLoad true 5 (B15 T chv) (.ptr 0 0 0) = some (toolA T chv) := rfl
  have hio : intsOf ov = some o := intsOf_of ho (by omega) hoi
  obtain ⟨ll, hlle⟩ : ∃ l, l = ordersM T := ⟨_, rfl⟩
  rw [← hlle] at m15 hll hmem ⊢
  have hbb := slA_holds 1 (ll.map fun l => slA 1 (intsA l))
  rw [show slA 1 (ll.map fun l => slA 1 (intsA l)) = ordA ll from rfl] at hbb
  have fO : ∀ A, frz A 4 (ordA ll) = ordA ll := fun A => hbb.frz 4
  obtain ⟨b, hbv⟩ : ∃ b, b = ordA ll := ⟨_, rfl⟩
  rw [← hbv] at hbb m15 fO
  have hlen := hbb.len
  rw [List.length_map] at hlen
  have round : ∀ (A : Arena) (i : Nat) (hi : i < ll.length), run (envOf GC fs47) 300 [.code lp47x0] (st47x0 ov b (.int .i64 (i : Int))) A =
      if isO o ll[i] = false then some (.normal (st47x0 ov b (.int .i64 ((i + 1 : Nat) : Int))) A) else some (.ret [.undef, ov, .undef, .bool true, b, .int .i64 (i : Int), .bool true, .bool true, .bool true] A) := fun A i hi => by
    have he : (ll.map fun l => slA 1 (intsA l))[i]? = some (slA 1 (intsA ll[i])) := by simp [hi]
    have hs := slA_holds 1 (intsA ll[i])
    have x1 := hbb.index1 (A := A) he (by rcases hs with ⟨h, _⟩ | h <;> rw [h] <;> rfl) (by rcases hs with ⟨h, _⟩ | h <;> rw [h] <;> rfl) .i64
    have ld : evLoad false 1 A (.fp [slA 1 (intsA ll[i])]) = some (slA 1 (intsA ll[i])) := by rcases hs with ⟨h, _⟩ | h <;> rw [h] <;> rfl
    have hm := hmem _ (List.getElem_mem hi)
    have m := M18_eq (intsOf_of hs (by have := hm.1; omega) hm.2) hio
    have b1 := lt_nat i ll.length .i64
    rw [decide_eq_true hi] at b1
    have b3 := add1_nat i (by omega)
    have fz : ∀ A, frz A 4 (slA 1 (intsA ll[i])) = slA 1 (intsA ll[i]) := fun A => hs.frz 4
    obtain ⟨i1, hi1⟩ : ∃ i1 : Nat, i1 = i + 1 := ⟨_, rfl⟩
    rw [← hi1] at b3 ⊢
    obtain ⟨d, hd⟩ : ∃ d, d = isO o ll[i] := ⟨_, rfl⟩
    rw [show decide (ll[i] = o) = d from hd.symm] at m
    rw [← hd]
    obtain ⟨c, hc⟩ : ∃ c, c = slA 1 (intsA ll[i]) := ⟨_, rfl⟩
    rw [← hc] at m ld fz x1
    cases d with
    | false => simp [lp47x0, x1, ld, m, fz, fo, b1, b3, hlen, -frz, -evBin, -evIndexSl, -evLenSl, -evLoad]
    | true => simp [lp47x0, x1, ld, m, fz, fo, b1, hlen, -frz, -evBin, -evIndexSl, -evLenSl, -evLoad]
  have bE := lt_nat ll.length ll.length .i64
  rw [decide_eq_false (by omega)] at bE
  obtain ⟨B, hB⟩ : ∃ B, B = B15 T chv := ⟨_, rfl⟩
  rw [← hB] at bx lt
  unfold M47
  rw [evP_run _ _ rfl]
  obtain ⟨t, ht⟩ : ∃ t, t = toolA T chv := ⟨_, rfl⟩
  rw [← ht] at bx ct lt ft m15 nr ⊢
  rcases iter_search (E := envOf GC fs47) (fuel := 300) (a := lp47x0) (mask := mask47x0) (fun i => st47x0 ov b (.int .i64 (i : Int))) (fun _ => B) ll.length (fun i => ¬ ∀ hi : i < ll.length, isO o ll[i] = false)
    (oF := fun i => .ret [.undef, ov, .undef, .bool true, b, .int .i64 (i : Int), .bool true, .bool true, .bool true] B) (oE := .exit 0 ((st47x0 ov b (.int .i64 (ll.length : Int))).set 7 (.bool false)) B)
    (fun _ => cl47x0) (fun _ _ _ h => by cases h) (fun _ _ h => by cases h)
    (fun i hi hp => by
      rw [round B i hi]
      exact if_pos (Classical.not_not.1 hp hi))
    (fun i hi hp => by
      rw [round B i hi]
      exact if_neg fun h => hp fun _ => h)
    (by simp [lp47x0, hlen, bE, -evBin, -evLenSl]) (show ll.length < 300 by omega) with ⟨i, hi, hp, hj, lp⟩ | ⟨hp, lp⟩
  · have lp : iter (evC (envOf GC fs47) 300 lp47x0) mask47x0 300 (st47x0 ov b (.int .i64 0)) B = _ := lp
    have e : decide (o ∈ ll) = true := by
      rw [decide_eq_true_eq]
      cases h' : isO o ll[i] with
      | true =>
        have := of_decide_eq_true h'
        exact this ▸ List.getElem_mem hi
      | false => exact absurd (fun _ => h') hp
    rw [e]
    simp [mf47, bx, ct, lt, ft, m15, go47x0 lp, frz_b, -frz, -evLenSl, -evLoad, -evFieldAddr, -evBox, -evBin, -cellsOf]
  · have lp : iter (evC (envOf GC fs47) 300 lp47x0) mask47x0 300 (st47x0 ov b (.int .i64 0)) B = _ := lp
    have e : decide (o ∈ ll) = false := by
      rw [decide_eq_false_iff_not]
      intro h
      obtain ⟨i, hi, h⟩ := List.mem_iff_getElem.1 h
      have := Classical.not_not.1 (hp i hi) hi
      unfold isO at this
      rw [decide_eq_true h] at this; cases this
    rw [e]
    simp [mf47, bx, ct, lt, ft, m15, go47x0 lp, frz_b, -frz, -evLenSl, -evLoad, -evFieldAddr, -evBox, -evBin, -cellsOf]
end Go.Proofs.Ytemklhljjaniaaa
