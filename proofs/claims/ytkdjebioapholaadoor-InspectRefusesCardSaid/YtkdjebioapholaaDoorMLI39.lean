/-
  Inspect: the law Refuses, run.
-/
import Derived.Test.YtkdjebioapholaaDoorMLI38a
namespace Go.Proofs.YtkdjebioapholaaDoor
open Go

/-! ### tests of the arena -/
def EltOf (A : Arena) (e : AV) (t : List Int) : Prop := e = testA t ∨ ∃ id z, t = [z] ∧ e = .agg [.sl id 0 1] ∧ A[id]? = some (.row 1 false [.int .i64 z])
def TSl (A : Arena) (v : AV) (ts : List (List Int)) : Prop := (ts = [] ∧ v = .nilS) ∨ ∃ id gr es, v = .sl id 0 es.length ∧ A[id]? = some (.row 1 gr es) ∧ es ≠ [] ∧ es.length = ts.length ∧ ∀ i (h : i < es.length) (h' : i < ts.length), EltOf A es[i] ts[i]
/-- rows of integers stay -/
def KeepI (A B : Arena) : Prop := ∀ (o : Nat) (gr : Bool) (zs : List Int), A[o]? = some (Ent.row 1 gr (intsA zs)) → B[o]? = some (Ent.row 1 gr (intsA zs))
theorem KeepI.trans {A B C : Arena} (h : KeepI A B) (k : KeepI B C) : KeepI A C := fun o gr zs e => k o gr zs (h o gr zs e)
theorem KeepI.app (A T : Arena) : KeepI A (A ++ T) := fun o gr zs e => by
  rw [List.getElem?_append_left (List.getElem?_eq_some_iff.1 e).1]; exact e
theorem EltOf.keep {A B : Arena} (h : KeepI A B) {e : AV} {t : List Int} (he : EltOf A e t) : EltOf B e t := by
  rcases he with h1 | ⟨id, z, h1, h2, h3⟩
  · exact .inl h1
  · exact .inr ⟨id, z, h1, h2, h id false [z] h3⟩
theorem EltOf.agg {A : Arena} {e : AV} {t : List Int} (h : EltOf A e t) : ∃ s, e = .agg [s] := by
  rcases h with rfl | ⟨id, z, _, rfl, _⟩
  · exact ⟨_, rfl⟩
  · exact ⟨_, rfl⟩
theorem TSl.app {A : Arena} {v : AV} {ts : List (List Int)} (h : TSl A v ts) (T : Arena) : TSl (A ++ T) v ts := by
  rcases h with h | ⟨id, gr, es, h1, h2, h3, h4, h5⟩
  · exact .inl h
  · exact .inr ⟨id, gr, es, h1, by rw [List.getElem?_append_left (List.getElem?_eq_some_iff.1 h2).1]; exact h2, h3, h4, fun i h h' => (h5 i h h').keep (KeepI.app A T)⟩
theorem TSl.len {A : Arena} {v : AV} {ts : List (List Int)} (h : TSl A v ts) : evLenSl v = some (.int .i64 (ts.length : Int)) := by
  rcases h with ⟨rfl, rfl⟩ | ⟨id, gr, es, rfl, h2, h3, h4, h5⟩
  · rfl
  · rw [← h4]; rfl
theorem TSl.frz {A : Arena} {v : AV} {ts : List (List Int)} (h : TSl A v ts) : frz A 4 v = testsA ts := by
  rcases h with ⟨rfl, rfl⟩ | ⟨id, gr, es, rfl, h2, h3, h4, h5⟩
  · rfl
  · simp only [Go.Proofs.YtkdjebioapholaaDoor.frz, h2]
    rw [List.drop_zero, List.take_length]
    have e : es.map (Go.Proofs.YtkdjebioapholaaDoor.frz A 3) = ts.map testA := by
      apply List.ext_getElem (by simpa using h4)
      intro i k1 k2
      simp only [List.getElem_map]
      rcases h5 i (by simpa using k1) (by simpa using k2) with e | ⟨id', z, e1, e2, e3⟩
      · rw [e]; simp [testA, Go.Proofs.YtkdjebioapholaaDoor.frz]
      · rw [e1, e2]
        simp [Go.Proofs.YtkdjebioapholaaDoor.frz, e3, testA, slA, intsA]
    rw [e]
    unfold testsA
    cases ts with
    | nil => simp at h4; exact absurd h4 h3
    | cons t r => rfl
/-- a test of one wafer, appended -/
theorem TSl.push {A : Arena} {v : AV} {ts : List (List Int)} (h : TSl A v ts) (hl : ts.length ≤ 20) (z : Int) : ∃ v' A', evAppend 1 24 (A ++ [.row 1 false [.int .i64 z], .row 1 false [.agg [.sl A.length 0 1]]]) v (.sl (A.length + 1) 0 1) = some (v', A') ∧ TSl A' v' (ts ++ [[z]]) ∧ KeepI A A' := by
  obtain ⟨T, hT⟩ : ∃ T : Arena, T = [.row 1 false [.int .i64 z], .row 1 false [.agg [.sl A.length 0 1]]] := ⟨_, rfl⟩
  have hrow : (A ++ T)[A.length]? = some (.row 1 false [.int .i64 z]) := by
    rw [List.getElem?_append_right (Nat.le_refl _), hT]; simp
  have hrow2 : (A ++ T)[A.length + 1]? = some (.row 1 false [.agg [.sl A.length 0 1]]) := by
    rw [List.getElem?_append_right (by omega), hT]; simp
  have hTl : (A ++ T).length = A.length + 2 := by rw [hT]; simp
  rw [← hT]
  have src : srcElems 1 (A ++ T) (.sl (A.length + 1) 0 1) = some [.agg [.sl A.length 0 1]] := by
    rw [srcElems_sl hrow2]; rfl
  rcases h with ⟨rfl, rfl⟩ | ⟨id, gr, es, rfl, h2, h3, h4, h5⟩
  · refine ⟨.sl (A.length + 2) 0 1, A ++ T ++ [.row 1 false [.agg [.sl A.length 0 1]]], by simp [evAppend, src, hTl], .inr ⟨A.length + 2, false, [.agg [.sl A.length 0 1]], rfl, ?_, by simp, by simp, fun i hi hi' => ?_⟩, ?_⟩
    · rw [List.getElem?_append_right (by omega), hTl]; simp
    · obtain rfl : i = 0 := by simp at hi; omega
      exact .inr ⟨A.length, z, by simp, by simp, by rw [List.getElem?_append_left (by omega)]; exact hrow⟩
    · exact (KeepI.app A _).trans (KeepI.app _ _)
  · have hid : id < A.length := (List.getElem?_eq_some_iff.1 h2).1
    have h2' : (A ++ T)[id]? = some (.row 1 gr es) := by rw [List.getElem?_append_left hid]; exact h2
    have hs : (es.length + 1) * 24 ≤ 140737488355328 := by omega
    have hkeep : KeepI A ((A ++ T).set id (.row 1 true (es ++ [.agg [.sl A.length 0 1]]))) := fun o gr' zs e => by
      have hne : id ≠ o := by
        rintro rfl
        rw [h2] at e
        simp only [Option.some.injEq, Ent.row.injEq] at e
        obtain ⟨_, _, e⟩ := e
        cases es with
        | nil => exact h3 rfl
        | cons a r =>
          obtain ⟨s, hs⟩ := (h5 0 (by simp) (by rw [← h4]; simp)).agg
          simp only [List.getElem_cons_zero] at hs
          cases zs with
          | nil => cases e
          | cons z r => rw [hs] at e; cases e
      rw [List.getElem?_set_ne hne]
      exact KeepI.app A _ o gr' zs e
    refine ⟨.sl id 0 (es.length + 1), (A ++ T).set id (.row 1 true (es ++ [.agg [.sl A.length 0 1]])), ?_, .inr ⟨id, true, es ++ [.agg [.sl A.length 0 1]], by simp, ?_, by simp, by simp [h4], fun i hi hi' => ?_⟩, hkeep⟩
    · simp [evAppend, src, h2', hs]
    · rw [List.getElem?_set_self (by omega)]
    · simp only [List.length_append, List.length_singleton] at hi
      by_cases hlt : i < es.length
      · rw [List.getElem_append_left hlt, List.getElem_append_left (by omega)]
        exact (h5 i hlt (by omega)).keep hkeep
      · have : i = es.length := by omega
        subst this
        rw [List.getElem_append_right (by omega), List.getElem_append_right (by omega)]
        refine .inr ⟨A.length, z, by simp, by simp, ?_⟩
        rw [List.getElem?_set_ne (by omega)]
        exact hrow

/-- tests, made in the arena -/
theorem tsl_oA (A : Arena) (ts : List (List Int)) : TSl (aA A 1 (ts.map testA)) (oA A (ts.map testA)) ts := by
  match ts with
  | [] => exact .inl ⟨rfl, rfl⟩
  | [x] => exact .inr ⟨A.length, false, [testA x], rfl, by simp [aA], by simp, rfl, fun i h h' => by
      obtain rfl : i = 0 := by simp at h; omega
      exact .inl rfl⟩
  | x :: y :: r => exact .inr ⟨A.length, true, (x :: y :: r).map testA, by simp [oA], by simp [aA], by simp, by simp, fun i h h' => by
      simp only [List.getElem_map]; exact .inl rfl⟩

noncomputable def fs10 : List (FuncId × HModel) := [(11, pureH 4 M11), (13, fun _ => evFun (envOf GI fs13) 20 mf13), (15, pureFH 4 M15), (17, pureH 4 M17), (20, pureH 4 M20), (22, pureFH 4 M22), (25, pureH 4 M25)]
@[simp] theorem fs10_11 : lookM fs10 11 = some (pureH 4 M11) := rfl
@[simp] theorem fs10_13 : lookM fs10 13 = some (fun _ => evFun (envOf GI fs13) 20 mf13) := rfl
@[simp] theorem fs10_15 : lookM fs10 15 = some (pureFH 4 M15) := rfl
@[simp] theorem fs10_17 : lookM fs10 17 = some (pureH 4 M17) := rfl
@[simp] theorem fs10_20 : lookM fs10 20 = some (pureH 4 M20) := rfl
@[simp] theorem fs10_22 : lookM fs10 22 = some (pureFH 4 M22) := rfl
@[simp] theorem fs10_25 : lookM fs10 25 = some (pureH 4 M25) := rfl
theorem spec13R : FnSpec Tryd.prog GI 13 (evFun (envOf GI fs13) 20 mf13) := evFun_sound (envOf_sound sound13) rfl at13 comp13 PureIn.nil
theorem sound10 : ∀ f M, lookM fs10 f = some M → FnSpecY Tryd.prog GI f M :=
  lookM_cons (FnSpecY.of_pure spec11 4) (lookM_cons spec13R.y (lookM_cons (FnSpecY.of_pureF spec15F 4) (lookM_cons (FnSpecY.of_pure spec17 4) (lookM_cons (FnSpecY.of_pure spec20 4) (lookM_cons (FnSpecY.of_pureF spec22F 4) (lookM_cons (FnSpecY.of_pure spec25 4) lookM_nil))))))

set_option maxRecDepth 100000 in
theorem loop10 (v2 v4 v6 : AV) : ∀ (c m : Nat) (ts : List (List Int)) (A : Arena) (v : AV), TSl A v ts → c + ts.length = 17 → c < m →
    ∃ A' v', TSl A' v' (ts ++ List.replicate c [3]) ∧ KeepI A A' ∧ iter (evC (envOf GI fs10) 50 lp10zx0) mask10zx0 m (st10zx0 v2 v4 v v6) A = some (.exit 1 ((st10zx0 v2 v4 v' v6).set 11 (.bool false)) A') := by
  intro c
  induction c with
  | zero =>
    intro m ts A v h hc hm
    obtain ⟨m, rfl⟩ : ∃ j, m = j + 1 := ⟨m - 1, by omega⟩
    refine ⟨A, v, by simpa using h, fun _ _ _ e => e, ?_⟩
    have hl := h.len
    have b1 : evBin .leq (.int .i64 (ts.length : Int)) (.int .i64 16) = some (.bool false) := by
      simp only [evBin]; rw [if_pos trivial, decide_eq_false (by omega)]
    rw [iter_succ, cl10zx0]
    simp [lp10zx0, hl, b1, -evBin, -evLenSl]
  | succ c ih =>
    intro m ts A v h hc hm
    obtain ⟨m, rfl⟩ : ∃ j, m = j + 1 := ⟨m - 1, by omega⟩
    have hl := h.len
    have b1 : evBin .leq (.int .i64 (ts.length : Int)) (.int .i64 16) = some (.bool true) := by
      simp only [evBin]; rw [if_pos trivial, decide_eq_true (by omega)]
    obtain ⟨v1, A1, ap, h1, hk⟩ := h.push (by omega) 3
    obtain ⟨A2, v2', h2, hk2, hi⟩ := ih m (ts ++ [[3]]) A1 v1 h1 (by simp; omega) (by omega)
    refine ⟨A2, v2', ?_, hk.trans hk2, ?_⟩
    · rw [List.append_assoc] at h2
      exact h2
    · rw [iter_succ, cl10zx0]
      have hrun : run (envOf GI fs10) 50 [.code lp10zx0] (st10zx0 v2 v4 v v6) A = some (.normal (st10zx0 v2 v4 v1 v6) A1) := by
        simp [lp10zx0, hl, b1, ap, -evBin, -evLenSl]
      rw [hrun]
      exact hi

theorem not_good_one {z : Int} (h : ¬ (1 ≤ z ∧ z ≤ 1000000)) : ¬ Good [z] := fun hg => by
  have := hg.2 0 (by simp)
  simp only [List.getElem_cons_zero] at this
  omega
theorem not_good_33 : ¬ Good [3, 3] := fun hg => by
  have := (hg.2 1 (by simp)).2.2 (by omega)
  simp at this

open Classical in
set_option maxRecDepth 100000 in
theorem ev10 {x : AV} {xs : List Int} (hx : SlA 1 (xs.map (.int .i64)) x) (hr : ∀ z ∈ xs, inI z) (wafer what : Int) (hw : inI wafer) (hs : inI what) :
    evP (envOf GI fs10) 50 mf10z 1 [x, .int .i64 wafer, .int .i64 what] = some (.bool true) := by
  have m1 := ev13 (A := []) (a := x) (xs := xs) (.inl hx) hr
  have hL := tests_len xs
  have h0 := tsl_oA [] (tests xs)
  have hg := tests_good xs
  have htok : ∀ t ∈ tests xs, t.length ≤ 9223372036854775807 ∧ ∀ z ∈ t, inI z := fun t ht => by
    obtain ⟨y, _, rfl⟩ := List.mem_map.1 ht
    exact ⟨Nat.le_trans (waf_len y) (by omega), waf_in y⟩
  have m1 : evFun (envOf GI fs13) 20 mf13 [x] [] = some (oA [] ((tests xs).map testA), aA [] 1 ((tests xs).map testA)) := m1
  obtain ⟨T, hT⟩ : ∃ T, T = tests xs := ⟨_, rfl⟩
  rw [← hT] at m1 hL h0 hg htok
  obtain ⟨v, hv⟩ : ∃ v, v = oA [] (T.map testA) := ⟨_, rfl⟩
  obtain ⟨A, hA⟩ : ∃ A, A = aA [] 1 (T.map testA) := ⟨_, rfl⟩
  rw [← hv, ← hA] at m1 h0
  obtain ⟨k, hk, hk4⟩ := pick_nat what 4 (by omega)
  have m2 := M25_eq hs (n := 4) (by omega)
  rw [show ((4 : Nat) : Int) = 4 from rfl] at hk
  rw [hk] at m2
  have c0 : evBin .eql (.int .i64 (k : Int)) (.int .i64 0) = some (.bool (decide (k = 0))) := by simp [evBin]
  have c1 : evBin .eql (.int .i64 (k : Int)) (.int .i64 1) = some (.bool (decide (k = 1))) := by simp [evBin]; omega
  have c2 : evBin .eql (.int .i64 (k : Int)) (.int .i64 2) = some (.bool (decide (k = 2))) := by simp [evBin]; omega
  have c3 : evBin .lss (.int .i64 (k : Int)) (.int .i64 2) = some (.bool (decide (k < 2))) := by simp [evBin]; omega
  -- the wafer
  obtain ⟨z, hz, hzi, hrunw⟩ : ∃ z : Int, ¬ (1 ≤ z ∧ z ≤ 1000000) ∧ inI z ∧ ((evBin .geq (.int .i64 wafer) (.int .i64 1) = some (.bool true) ∧ evBin .leq (.int .i64 wafer) (.int .i64 1000000) = some (.bool true) ∧ z = 0) ∨
      (evBin .geq (.int .i64 wafer) (.int .i64 1) = some (.bool true) ∧ evBin .leq (.int .i64 wafer) (.int .i64 1000000) = some (.bool false) ∧ z = wafer) ∨ (evBin .geq (.int .i64 wafer) (.int .i64 1) = some (.bool false) ∧ z = wafer)) := by
    have d1 : evBin .geq (.int .i64 wafer) (.int .i64 1) = some (.bool (decide (1 ≤ wafer))) := by simp [evBin]
    have d2 : evBin .leq (.int .i64 wafer) (.int .i64 1000000) = some (.bool (decide (wafer ≤ 1000000))) := by simp [evBin]
    rw [d1, d2]
    by_cases e1 : 1 ≤ wafer
    · by_cases e2 : wafer ≤ 1000000
      · exact ⟨0, by omega, by unfold inI; omega, .inl ⟨by rw [decide_eq_true e1], by rw [decide_eq_true e2], rfl⟩⟩
      · exact ⟨wafer, by omega, hw, .inr (.inl ⟨by rw [decide_eq_true e1], by rw [decide_eq_false e2], rfl⟩)⟩
    · exact ⟨wafer, by omega, hw, .inr (.inr ⟨by rw [decide_eq_false e1], rfl⟩)⟩
  -- what the calls say of wafers and tests that are not valid
  have calls : ∀ (o : List Int) (ts : List (List Int)), (∀ y ∈ o, inI y) → o.length ≤ 10 → o ≠ [] → (∀ t ∈ ts, t.length ≤ 9223372036854775807 ∧ ∀ y ∈ t, inI y) → ts.length ≤ 17 → ¬ (Good o ∧ GoodT ts) →
      M15 [.fs 1 (intsA o), testsA ts] = some (.tup [.nilS, .bool false]) ∧ M20 [.fs 1 (intsA o), testsA ts, .nilS] = some (.bool false) ∧ M22 [.fs 1 (intsA o), testsA ts] = some .nilS := fun o ts h1 h2 h3 h4 h5 h6 => by
    have ha : intsOf (.fs 1 (intsA o)) = some o := intsOf_of (.inr rfl) (by omega) h1
    have hl : testsOf (testsA ts) = some ts := testsOf_testsA (by omega) h4
    have hn : intsOf .nilS = some [] := rfl
    exact ⟨m15_bad ha hl h6, m20_bad ha hl hn (by omega) (fun h => h6 ⟨h.1, h.2.1⟩), m22_bad ha hl (by omega) h6⟩
  have valid : ∀ (ts : List (List Int)), (∀ t ∈ ts, t.length ≤ 9223372036854775807 ∧ ∀ y ∈ t, inI y) → ts.length ≤ 17 → ∀ b : Bool, (GoodT ts ↔ b = true) → M17 [testsA ts] = some (.bool b) := fun ts h1 h2 b hb => by
    have hl : testsOf (testsA ts) = some ts := testsOf_testsA (by omega) h1
    simp only [M17, hl, Option.map_some]
    congr 2
    rw [Bool.eq_iff_iff, decide_eq_true_eq, hb]
  have h37 : ∀ y ∈ ([3, 7] : List Int), inI y := fun y hy => by
    simp only [List.mem_cons, List.not_mem_nil, or_false] at hy
    unfold inI; omega
  rw [evP_run _ _ rfl]
  rcases (by omega : k = 0 ∨ k = 1 ∨ k = 2 ∨ k = 3) with h | h | h | h
  · rw [decide_eq_true h] at c0
    rw [decide_eq_true (by omega)] at c3
    obtain ⟨t1, t2, t3⟩ := calls [z] T (fun y hy => by rw [List.mem_singleton.1 hy]; exact hzi) (by simp) (by simp) htok (by omega) (fun hh => not_good_one hz hh.1)
    have t4 := valid T htok (by omega) true ⟨fun _ => rfl, fun _ => hg⟩
    simp only [intsA, List.map_cons, List.map_nil] at t1 t2 t3
    have z1 := (h0.app [.row 1 false [.int .i64 3, .int .i64 7], .row 1 false [.int .i64 z]]).frz
    have z2 : (A ++ [Ent.row 1 false [.int .i64 3, .int .i64 7], .row 1 false [.int .i64 z]])[A.length + 1]? = some (.row 1 false [.int .i64 z]) := by
      rw [List.getElem?_append_right (by omega)]; simp
    obtain ⟨lF, hlF⟩ : ∃ lF, lF = testsA T := ⟨_, rfl⟩
    rw [← hlF] at t1 t2 t3 t4 z1
    rcases hrunw with ⟨w1, w2, e⟩ | ⟨w1, w2, e⟩ | ⟨w1, e⟩
    · subst e
      simp [mf10z, m1, m2, c0, c3, w1, w2, z1, z2, t1, t2, t3, t4, len_nilS, eql_00, frz, -evBin, -evLenSl]
    · subst e
      simp [mf10z, m1, m2, c0, c3, w1, w2, z1, z2, t1, t2, t3, t4, len_nilS, eql_00, frz, -evBin, -evLenSl]
    · subst e
      simp [mf10z, m1, m2, c0, c3, w1, z1, z2, t1, t2, t3, t4, len_nilS, eql_00, frz, -evBin, -evLenSl]
  · rw [decide_eq_false (by omega)] at c0
    rw [decide_eq_true h] at c1
    rw [decide_eq_true (by omega)] at c3
    obtain ⟨t1, t2, t3⟩ := calls [3, 3] T (fun y hy => by
      simp only [List.mem_cons, List.not_mem_nil, or_false] at hy
      unfold inI; omega) (by simp) (by simp) htok (by omega) (fun hh => not_good_33 hh.1)
    have t4 := valid T htok (by omega) true ⟨fun _ => rfl, fun _ => hg⟩
    simp only [intsA, List.map_cons, List.map_nil] at t1 t2 t3
    have z1 := (h0.app [.row 1 false [.int .i64 3, .int .i64 7], .row 1 false [.int .i64 3, .int .i64 3]]).frz
    have z2 : (A ++ [Ent.row 1 false [.int .i64 3, .int .i64 7], .row 1 false [.int .i64 3, .int .i64 3]])[A.length + 1]? = some (.row 1 false [.int .i64 3, .int .i64 3]) := by
      rw [List.getElem?_append_right (by omega)]; simp
    obtain ⟨lF, hlF⟩ : ∃ lF, lF = testsA T := ⟨_, rfl⟩
    rw [← hlF] at t1 t2 t3 t4 z1
    rcases hrunw with ⟨w1, w2, e⟩ | ⟨w1, w2, e⟩ | ⟨w1, e⟩
    · subst e
      simp [mf10z, m1, m2, c0, c1, c3, w1, w2, z1, z2, t1, t2, t3, t4, len_nilS, eql_00, frz, -evBin, -evLenSl]
    · subst e
      simp [mf10z, m1, m2, c0, c1, c3, w1, w2, z1, z2, t1, t2, t3, t4, len_nilS, eql_00, frz, -evBin, -evLenSl]
    · subst e
      simp [mf10z, m1, m2, c0, c1, c3, w1, z1, z2, t1, t2, t3, t4, len_nilS, eql_00, frz, -evBin, -evLenSl]
  · rw [decide_eq_false (by omega)] at c0 c1
    rw [decide_eq_true h] at c2
    rw [decide_eq_false (by omega)] at c3
    obtain ⟨v', A', ap, h1, hkp⟩ := (h0.app [.row 1 false [.int .i64 3, .int .i64 7]]).push (by omega) z
    have ap : evAppend 1 24 (A ++ [.row 1 false [.int .i64 3, .int .i64 7], .row 1 false [.int .i64 z], .row 1 false [.agg [.sl (A.length + 1) 0 1]]]) v (.sl (A.length + 2) 0 1) = some (v', A') := by simpa using ap
    have hbad : ¬ GoodT (T ++ [[z]]) := fun hh => not_good_one hz (hh.2 [z] (by simp))
    have htok' : ∀ t ∈ T ++ [[z]], t.length ≤ 9223372036854775807 ∧ ∀ y ∈ t, inI y := fun t ht => by
      rcases List.mem_append.1 ht with ht | ht
      · exact htok t ht
      · rw [List.mem_singleton.1 ht]
        exact ⟨by simp, fun y hy => by rw [List.mem_singleton.1 hy]; exact hzi⟩
    obtain ⟨t1, t2, t3⟩ := calls [3, 7] (T ++ [[z]]) h37 (by simp) (by simp) htok' (by simp; omega) (fun hh => hbad hh.2)
    have t4 := valid (T ++ [[z]]) htok' (by simp; omega) false ⟨fun hh => absurd hh hbad, fun hh => by cases hh⟩
    simp only [intsA, List.map_cons, List.map_nil] at t1 t2 t3
    have z1 := h1.frz
    have z2 : A'[A.length]? = some (.row 1 false [.int .i64 3, .int .i64 7]) := hkp A.length false [3, 7] (by rw [List.getElem?_append_right (Nat.le_refl _)]; simp [intsA])
    obtain ⟨lF, hlF⟩ : ∃ lF, lF = testsA (T ++ [[z]]) := ⟨_, rfl⟩
    rw [← hlF] at t1 t2 t3 t4 z1
    rcases hrunw with ⟨w1, w2, e⟩ | ⟨w1, w2, e⟩ | ⟨w1, e⟩
    · subst e
      simp [mf10z, m1, m2, c0, c1, c2, c3, ap, w1, w2, z1, z2, t1, t2, t3, t4, len_nilS, eql_00, frz, -evBin, -evLenSl]
    · subst e
      simp [mf10z, m1, m2, c0, c1, c2, c3, ap, w1, w2, z1, z2, t1, t2, t3, t4, len_nilS, eql_00, frz, -evBin, -evLenSl]
    · subst e
      simp [mf10z, m1, m2, c0, c1, c2, c3, ap, w1, z1, z2, t1, t2, t3, t4, len_nilS, eql_00, frz, -evBin, -evLenSl]
  · rw [decide_eq_false (by omega)] at c0 c1 c2 c3
    obtain ⟨A', v', h1, hkp, lp⟩ := loop10 (.int .i64 what) (.bool true) (.sl A.length 0 2) (17 - T.length) 50 T (A ++ [.row 1 false [.int .i64 3, .int .i64 7]]) v (h0.app _) (by omega) (by omega)
    obtain ⟨T', hT'⟩ : ∃ T', T' = T ++ List.replicate (17 - T.length) [3] := ⟨_, rfl⟩
    rw [← hT'] at h1
    have hTl : T'.length = 17 := by rw [hT']; simp; omega
    have hbad : ¬ GoodT T' := fun hh => by have := hh.1; omega
    have htok' : ∀ t ∈ T', t.length ≤ 9223372036854775807 ∧ ∀ y ∈ t, inI y := fun t ht => by
      rw [hT'] at ht
      rcases List.mem_append.1 ht with ht | ht
      · exact htok t ht
      · rw [List.eq_of_mem_replicate ht]
        exact ⟨by simp, fun y hy => by rw [List.mem_singleton.1 hy]; unfold inI; omega⟩
    obtain ⟨t1, t2, t3⟩ := calls [3, 7] T' h37 (by simp) (by simp) htok' (by omega) (fun hh => hbad hh.2)
    have t4 := valid T' htok' (by omega) false ⟨fun hh => absurd hh hbad, fun hh => by cases hh⟩
    simp only [intsA, List.map_cons, List.map_nil] at t1 t2 t3
    have z1 := h1.frz
    have z2 : A'[A.length]? = some (.row 1 false [.int .i64 3, .int .i64 7]) := hkp A.length false [3, 7] (by rw [List.getElem?_append_right (Nat.le_refl _)]; simp [intsA])
    obtain ⟨lF, hlF⟩ : ∃ lF, lF = testsA T' := ⟨_, rfl⟩
    rw [← hlF] at t1 t2 t3 t4 z1
    rcases hrunw with ⟨w1, w2, e⟩ | ⟨w1, w2, e⟩ | ⟨w1, e⟩
    · subst e
      simp [mf10z, m1, m2, c0, c1, c2, c3, go10zx0 lp, w1, w2, z1, z2, t1, t2, t3, t4, len_nilS, eql_00, frz, -evBin, -evLenSl]
    · subst e
      simp [mf10z, m1, m2, c0, c1, c2, c3, go10zx0 lp, w1, w2, z1, z2, t1, t2, t3, t4, len_nilS, eql_00, frz, -evBin, -evLenSl]
    · subst e
      simp [mf10z, m1, m2, c0, c1, c2, c3, go10zx0 lp, w1, z1, z2, t1, t2, t3, t4, len_nilS, eql_00, frz, -evBin, -evLenSl]

theorem ev10L (args : List AV) (h : LawArgs Tryd.prog 8 Tryd.f10.params.toList args) : ∃ fuel, evP (envOf GI fs10) fuel mf10z 1 args = some (.bool true) := by
  rw [Tryd.params10] at h
  obtain ⟨a, r, rfl, h0, h⟩ := h.cons
  obtain ⟨b, r, rfl, h1, h⟩ := h.cons
  obtain ⟨c, r, rfl, h2, h⟩ := h.cons
  obtain rfl := h.nil
  obtain ⟨xs, hx, _, hr⟩ := TA.ints Tryd.underlying23 Tryd.underlying3 (by kernel_rfl) h0
  obtain ⟨n, rfl, hn⟩ := TA.i64 Tryd.underlying3 h1
  obtain ⟨s, rfl, hs⟩ := TA.i64 Tryd.underlying3 h2
  exact ⟨50, ev10 hx hr n s hn hs⟩
end Go.Proofs.YtkdjebioapholaaDoor
