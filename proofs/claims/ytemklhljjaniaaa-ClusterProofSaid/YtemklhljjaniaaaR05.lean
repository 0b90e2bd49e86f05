/-
  What the proof is built on (KC17 to K8).
-/
import Derived.Test.YtemklhljjaniaaaR04
import Derived.Test.YtemklhljjaniaaaChecked
import Derived.KernelRfl
/-
  Cycle: excess; Refutes.
-/
namespace Go.Proofs.Ytemklhljjaniaaa
namespace Cy
open Go

def arcZ (l : List CArc) (i : Int) : CArc := l.getD i.toNat ⟨0, 0, 0, 0⟩
def exL (p : Int) (l : List CArc) : List Int → Int → Int → Int → Option (Int × Int)
  | [], _, s, t => some (s, t)
  | i :: r, at_, s, t => if (arcZ l i).f = at_ then exL p l r (arcZ l i).t (s + (arcZ l i).len p) (t + (arcZ l i).k) else none
def inIdx (l : List CArc) (xs : List Int) : Prop := ∀ x ∈ xs, 0 ≤ x ∧ x ≤ (l.length : Int) - 1
instance (l : List CArc) (xs : List Int) : Decidable (inIdx l xs) := inferInstanceAs (Decidable (∀ x ∈ xs, _))
/-- the sums of lengths and of tokens, if it is a cycle -/
def exM (p : Int) (l : List CArc) (xs : List Int) : Option (Int × Int) := if (1 ≤ xs.length ∧ xs.length ≤ 200) ∧ inIdx l xs then exL p l xs (arcZ l (xs.getLastD 0)).t 0 0 else none
theorem any_wrongI (l : List CArc) (s : List Int) : s.any (wrongI l.length) = false ↔ inIdx l s := by
  rw [List.any_eq_false]; unfold wrongI inIdx; simp
theorem arcZ_at {l : List CArc} {x : Int} (h : 0 ≤ x ∧ x ≤ (l.length : Int) - 1) : ∃ (j : Nat) (hj : j < l.length), x = (j : Int) ∧ arcZ l x = l[j] := by
  refine ⟨x.toNat, by omega, by omega, ?_⟩
  unfold arcZ
  rw [List.getD_eq_getElem?_getD, List.getElem?_eq_getElem (by omega)]; rfl
def R40a : MC := .region [⟨none, .indexSl 1 (.var 12) (.var 14), none⟩, ⟨none, .load false 1 (.tmp 0), none⟩, ⟨some 8, .mv (.tmp 1), none⟩]
def R40b : MC := .region [⟨none, .load false 1 (.var 2), none⟩, ⟨none, .nilCheck (.tmp 0), none⟩, ⟨none, .fieldAddr 1 (.tmp 1), none⟩, ⟨none, .load false 1 (.tmp 2), none⟩, ⟨none, .mv (.var 8), none⟩, ⟨none, .indexSl 6 (.tmp 3) (.tmp 4), none⟩, ⟨none, .load true 6 (.tmp 5), none⟩, ⟨some 9, .alloc 6 (.agg [.int .i64 0, .int .i64 0, .int .i64 0, .int .i64 0, .int .i64 0, .int .i64 0]), none⟩, ⟨none, .store 6 (.var 9) (.tmp 6), none⟩]
def R40c : MC := .region [⟨none, .fieldAddr 0 (.var 9), none⟩, ⟨none, .fieldAddr 0 (.tmp 0), none⟩, ⟨none, .load false 1 (.tmp 1), none⟩, ⟨none, .mv (.var 7), none⟩, ⟨some 16, .bin .neq (.tmp 2) (.tmp 3), none⟩]
def R40d : MC := .region [⟨some 3, .mv (.cst (.int .i64 0)), none⟩, ⟨some 4, .mv (.cst (.int .i64 0)), none⟩, ⟨some 5, .mv (.cst (.bool false)), none⟩]
def R40e : MC := .region [⟨none, .mv (.var 3), none⟩, ⟨none, .fieldAddr 5 (.var 9), none⟩, ⟨none, .load false 1 (.tmp 1), none⟩, ⟨none, .bin .add (.tmp 0) (.tmp 2), none⟩, ⟨none, .mv (.var 4), none⟩, ⟨none, .fieldAddr 0 (.var 9), none⟩, ⟨none, .fieldAddr 3 (.tmp 5), none⟩, ⟨none, .load false 1 (.tmp 6), none⟩, ⟨none, .bin .add (.tmp 4) (.tmp 7), none⟩, ⟨none, .fieldAddr 0 (.var 9), none⟩, ⟨none, .fieldAddr 1 (.tmp 9), none⟩, ⟨none, .load false 1 (.tmp 10), none⟩, ⟨some 3, .mv (.tmp 3), none⟩, ⟨some 4, .mv (.tmp 8), none⟩, ⟨some 7, .mv (.tmp 11), none⟩]
theorem R40_eq : lp40x0 = .seq (.region [⟨some 15, .bin .lss (.var 14) (.var 13), none⟩]) (.seq (.cond (.var 15) .skip (.exit 0)) (.seq (.seq (.block 1 (.seq R40a (.seq R40b (.seq (.seq R40c (.cond (.var 16) (.seq R40d .ret) .skip)) R40e)))) (.kill [0, 1, 5, 6, 8, 9, 10, 11, 15, 16])) (.region [⟨none, .bin .add (.var 14) (.cst (.int .i64 1)), none⟩, ⟨some 14, .mv (.tmp 0), none⟩]))) := rfl
set_option maxRecDepth 100000 in
theorem r40ab (E : Env) (fuel : Nat) (K : List KC) (X : MC) {A : Arena} {n j i : Nat} {p : Int} {l : List CArc} {xs : List Int} {c : AV} (hc : SlA 1 (intsA xs) c) (hi : i < xs.length) (hx : xs[i] = (j : Int)) (hj : j < l.length) (hA : A[0]? = some (.row 1 false [webT n p l])) (v3 v4 v7 v13 v15 v16 : AV) :
    run E fuel (.code (.seq R40a (.seq R40b X)) :: K) [.undef, .undef, .ptr 0 0 0, v3, v4, .undef, .undef, v7, .undef, .undef, .undef, .undef, c, v13, .int .i64 (i : Int), v15, v16] A =
      run E fuel (.code X :: K) [.undef, .undef, .ptr 0 0 0, v3, v4, .undef, .undef, v7, .int .i64 (j : Int), .ptr A.length 0 0, .undef, .undef, c, v13, .int .i64 (i : Int), v15, v16] (A ++ [.row 6 false [wA p (l[j], j)]]) := by
  have x1 := hc.int (A := A) _ _ (List.getElem?_eq_getElem hi) .i64
  rw [hx] at x1
  have x2 := web_at p hj A .i64
  obtain ⟨W1, O, hW, hW1⟩ : ∃ W1 O, webT n p l = .fp [.int .i64 (n : Int), W1, O] ∧ W1 = slA 6 (wAs p (num l)) := ⟨_, _, rfl, rfl⟩
  rw [← hW1] at x2
  rw [hW] at hA
  simp [R40a, R40b, x1, x2, hA, wA, -evIndexSl]
set_option maxRecDepth 100000 in
theorem round40 (E : Env) (fuel : Nat) {A : Arena} {n i : Nat} {p : Int} {l : List CArc} (hr : Ready n l p) {xs : List Int} {c : AV} (hc : SlA 1 (intsA xs) c) (hl : xs.length ≤ 200) (hin : inIdx l xs) (hi : i < xs.length) (hA : A[0]? = some (.row 1 false [webT n p l])) {s t at_ : Int} (hs : -(3000000 * (i : Int)) ≤ s ∧ s ≤ 3000000 * i) (ht : -(2 * (i : Int)) ≤ t ∧ t ≤ 2 * i) :
    ∃ A', A'[0]? = some (.row 1 false [webT n p l]) ∧ ∃ v8 v9 v15 v16, run E fuel [.code lp40x0] (st40x0 (.ptr 0 0 0) (.int .i64 s) (.int .i64 t) (.int .i64 at_) c (.int .i64 (xs.length : Int)) (.int .i64 (i : Int))) A =
      if (arcZ l xs[i]).f = at_ then some (.normal (st40x0 (.ptr 0 0 0) (.int .i64 (s + (arcZ l xs[i]).len p)) (.int .i64 (t + (arcZ l xs[i]).k)) (.int .i64 (arcZ l xs[i]).t) c (.int .i64 (xs.length : Int)) (.int .i64 ((i + 1 : Nat) : Int))) A')
      else some (.ret [.undef, .undef, .ptr 0 0 0, .int .i64 0, .int .i64 0, .bool false, .undef, .int .i64 at_, v8, v9, .undef, .undef, c, .int .i64 (xs.length : Int), .int .i64 (i : Int), v15, v16] A') := by
  obtain ⟨j, hj, hx, he⟩ := arcZ_at (hin _ (List.getElem_mem hi))
  rw [he]
  have hmem := hr.1.2.2 _ (List.getElem_mem hj)
  have hn32 := hr.1.1
  have hlen := len_in (n := 32) (a := l[j]) ⟨⟨by have := hmem.1; omega, by have := hmem.1; omega⟩, ⟨by have := hmem.2.1; omega, by have := hmem.2.1; omega⟩, hmem.2.2.1, hmem.2.2.2⟩ hr.2
  have htok := hmem.2.2.2
  have r1 := fun K X => r40ab E fuel K X hc hi hx hj hA (.int .i64 s) (.int .i64 t) (.int .i64 at_) (.int .i64 (xs.length : Int)) (.bool true) .undef
  obtain ⟨B, hB⟩ : ∃ B, B = A ++ [.row 6 false [wA p (l[j], j)]] := ⟨_, rfl⟩
  have hBv : B[A.length]? = some (.row 6 false [wA p (l[j], j)]) := by rw [hB]; simp
  have hB0 : B[0]? = some (.row 1 false [webT n p l]) := by rw [hB, List.getElem?_append_left (List.getElem?_eq_some_iff.1 hA).1]; exact hA
  rw [← hB] at r1
  unfold wA at hBv
  simp only at hBv
  have b1 := lt_nat i xs.length .i64
  rw [decide_eq_true hi] at b1
  have b3 := add1_nat i (by omega)
  obtain ⟨i1, hi1⟩ : ∃ i1 : Nat, i1 = i + 1 := ⟨_, rfl⟩
  rw [← hi1] at b3 ⊢
  have b2 : evBin .neq (.int .i64 l[j].f) (.int .i64 at_) = some (.bool (decide (l[j].f ≠ at_))) := by simp [evBin]
  obtain ⟨w, hw⟩ : ∃ w, w = l[j].len p := ⟨_, rfl⟩
  rw [← hw] at hlen hBv ⊢
  have b4 : evBin .add (.int .i64 s) (.int .i64 w) = some (.int .i64 (s + w)) := by
    simp only [evBin]; rw [if_pos trivial, wrapI (by unfold inI; omega)]
  have b5 : evBin .add (.int .i64 t) (.int .i64 l[j].k) = some (.int .i64 (t + l[j].k)) := by
    simp only [evBin]; rw [if_pos trivial, wrapI (by unfold inI; omega)]
  obtain ⟨vid, hvid⟩ : ∃ vid, vid = A.length := ⟨_, rfl⟩
  rw [← hvid] at r1 hBv
  refine ⟨B, hB0, .int .i64 (j : Int), .ptr vid 0 0, .bool true, .bool true, ?_⟩
  by_cases h : l[j].f = at_
  · rw [if_pos h]
    rw [decide_eq_false (not_not_intro h)] at b2
    rw [R40_eq]
    simp [b1, b3, r1, R40c, R40d, R40e, hBv, b2, b4, b5, -evBin]
  · rw [if_neg h]
    rw [decide_eq_true h] at b2
    rw [R40_eq]
    simp [b1, r1, R40c, R40d, R40e, hBv, b2, -evBin]
noncomputable def fs40 : List (FuncId × HModel) := [(60, pureH 4 M32), (61, pureH 4 M36)]
@[simp] theorem fs40_32 : lookM fs40 60 = some (pureH 4 M32) := rfl
@[simp] theorem fs40_36 : lookM fs40 61 = some (pureH 4 M36) := rfl
theorem sound40 : ∀ f M, lookM fs40 f = some M → FnSpecY Try.prog GC f M := lookM_cons (FnSpecY.of_pure spec32 4) (lookM_cons (FnSpecY.of_pure spec36 4) lookM_nil)
noncomputable def M40 : PModel := fun args => evP (envOf GC fs40) 300 mf40 5 args
theorem spec40 : PureSpec Try.prog GC 57 M40 := PureSpec.of_ev (E := envOf GC fs40) (envOf_sound sound40) rfl at40 comp40 5 fun _ _ h => ⟨300, h⟩
def exT (r : Option (Int × Int)) : AV := .tup [.int .i64 (r.getD (0, 0)).1, .int .i64 (r.getD (0, 0)).2, .bool r.isSome]
set_option maxRecDepth 100000 in
theorem M40_eq {n : Nat} {p : Int} {l : List CArc} (hr : Ready n l p) {xs : List Int} {c : AV} (hc : SlA 1 (intsA xs) c) (hmx : xs.length ≤ 9223372036854775807) : M40 [webT n p l, c] = some (exT (exM p l xs)) := by
  have hlen := hc.len
  rw [intsA_len] at hlen
  have m32 := M32_eq (xs.length : Int) 1 200
  have f1 : ∀ A n, frz A n c = c := fun A n => hc.frz n
  unfold M40
  rw [evP_run _ _ rfl]
  obtain ⟨W1, O, hW, hW1⟩ : ∃ W1 O, webT n p l = .fp [.int .i64 (n : Int), W1, O] ∧ W1 = slA 6 (wAs p (num l)) := ⟨_, _, rfl, rfl⟩
  by_cases h1 : 1 ≤ xs.length ∧ xs.length ≤ 200
  rotate_left
  · rw [decide_eq_false (by omega)] at m32
    have e : exM p l xs = none := if_neg fun h => h1 h.1
    rw [e, hW]
    simp [mf40, hlen, m32, exT, -evLenSl]
  rw [decide_eq_true (by omega)] at m32
  have m45 := M45_eq (f := 75) (cap := [.fp [webT n p l]]) (Mf := M46) rfl (q := wrongI l.length) (xs := xs) (fun x _ A => M46_eq hr.1.2.1 x) hc h1.2
  have m36 := M36_eq (q := wrongI l.length) hc (fun A => rfl) m45
  have hfz : frz [.row 1 false [webT n p l]] 4 (.func (.func 75) [] [.ptr 0 0 0]) = .func (.func 75) [] [.fp [webT n p l]] := rfl
  by_cases h2 : inIdx l xs
  rotate_left
  · have h2' : xs.any (wrongI l.length) = true := by
      cases h : xs.any (wrongI l.length) with
      | true => rfl
      | false => exact absurd ((any_wrongI l xs).1 h) h2
    rw [h2'] at m36
    have e : exM p l xs = none := if_neg fun h => h2 h.2
    rw [e]
    rw [hW] at m36 hfz ⊢
    simp [mf40, hlen, m32, f1, hfz, m36, exT, scalarB, frz_i, -evLenSl, -frz]
    simp [frz]
  rw [(any_wrongI l xs).2 h2] at m36
  have hex : exM p l xs = exL p l xs (arcZ l (xs.getLastD 0)).t 0 0 := if_pos ⟨h1, h2⟩
  -- the last arc
  have hlast : xs.length - 1 < xs.length := by omega
  obtain ⟨j, hj, hx, he⟩ := arcZ_at (h2 _ (List.getElem_mem hlast))
  have hgl : xs.getLastD 0 = xs[xs.length - 1] := by
    rw [List.getLastD_eq_getLast?, List.getLast?_eq_getElem?, List.getElem?_eq_getElem hlast]; rfl
  rw [hgl, he] at hex
  have x1 : ∀ A, evIndexSl 1 A c (.int .i64 ((xs.length - 1 : Nat) : Int)) = some (.fp [.int .i64 (j : Int)]) := fun A => by
    have := hc.int (A := A) _ _ (List.getElem?_eq_getElem hlast) .i64
    rwa [hx] at this
  have x2 := fun A => web_at p hj A .i64
  have b0 : evBin .sub (.int .i64 (xs.length : Int)) (.int .i64 1) = some (.int .i64 ((xs.length - 1 : Nat) : Int)) := by
    simp only [evBin]; rw [if_pos trivial, wrapI (by unfold inI; omega)]; congr 2; omega
  obtain ⟨o, lp, ho⟩ := iter_inv (E := envOf GC fs40) (fuel := 300) (a := lp40x0) (mask := mask40x0)
    (fun κ σ A => ∃ (i : Nat) (s t at_ : Int), i + κ = xs.length ∧ σ = st40x0 (.ptr 0 0 0) (.int .i64 s) (.int .i64 t) (.int .i64 at_) c (.int .i64 (xs.length : Int)) (.int .i64 (i : Int)) ∧ A[0]? = some (.row 1 false [webT n p l]) ∧ exL p l xs l[j].t 0 0 = exL p l (xs.drop i) at_ s t ∧ (-(3000000 * (i : Int)) ≤ s ∧ s ≤ 3000000 * i) ∧ (-(2 * (i : Int)) ≤ t ∧ t ≤ 2 * i))
    (fun o => (∃ s t at_ A', exL p l xs l[j].t 0 0 = some (s, t) ∧ o = .exit 0 ((st40x0 (.ptr 0 0 0) (.int .i64 s) (.int .i64 t) (.int .i64 at_) c (.int .i64 (xs.length : Int)) (.int .i64 (xs.length : Int))).set 15 (.bool false)) A') ∨
      (exL p l xs l[j].t 0 0 = none ∧ ∃ v7 v8 v9 v14 v15 v16 A', o = .ret [.undef, .undef, .ptr 0 0 0, .int .i64 0, .int .i64 0, .bool false, .undef, v7, v8, v9, .undef, .undef, c, .int .i64 (xs.length : Int), v14, v15, v16] A'))
    (by
      rintro κ σ A ⟨i, s, t, at_, hik, rfl, hA, hexi, hs, ht⟩
      rw [cl40x0]
      by_cases hi : i < xs.length
      · obtain ⟨A', hA', v8, v9, v15, v16, hrun⟩ := round40 (envOf GC fs40) 300 hr hc h1.2 h2 hi hA (at_ := at_) hs ht
        have hd : xs.drop i = xs[i] :: xs.drop (i + 1) := List.drop_eq_getElem_cons hi
        by_cases hf : (arcZ l xs[i]).f = at_
        · rw [if_pos hf] at hrun
          rw [hd, exL, if_pos hf] at hexi
          obtain ⟨j2, hj2, hx2, he2⟩ := arcZ_at (h2 _ (List.getElem_mem hi))
          have hmem := hr.1.2.2 _ (List.getElem_mem hj2)
          have hn32 := hr.1.1
          have hlen2 := len_in (n := 32) (a := l[j2]) ⟨⟨by have := hmem.1; omega, by have := hmem.1; omega⟩, ⟨by have := hmem.2.1; omega, by have := hmem.2.1; omega⟩, hmem.2.2.1, hmem.2.2.2⟩ hr.2
          have htok := hmem.2.2.2
          rw [he2] at hrun hexi
          exact .inl ⟨_, _, hrun, κ - 1, by omega, i + 1, _, _, _, by omega, rfl, hA', hexi, by omega, by omega⟩
        · rw [if_neg hf] at hrun
          rw [hd, exL, if_neg hf] at hexi
          exact .inr ⟨_, hrun, (fun _ _ h => by cases h), .inr ⟨hexi, _, _, _, _, _, _, _, rfl⟩⟩
      · obtain rfl : i = xs.length := by omega
        rw [List.drop_length, exL] at hexi
        refine .inr ⟨_, ?_, ?_, .inl ⟨s, t, at_, A, hexi, rfl⟩⟩
        · simp [lp40x0]
        · intro _ _ h; cases h)
    300 xs.length (st40x0 (.ptr 0 0 0) (.int .i64 0) (.int .i64 0) (.int .i64 l[j].t) c (.int .i64 (xs.length : Int)) (.int .i64 0)) [.row 1 false [webT n p l]] (by omega) ⟨0, 0, 0, _, by omega, rfl, rfl, rfl, by omega, by omega⟩
  rw [hex]
  rw [← hW1] at x2
  rw [hW] at m36 hfz lp ⊢
  obtain ⟨q, hq⟩ : ∃ q, q = xs.length - 1 := ⟨_, rfl⟩
  rw [← hq] at x1 b0
  rcases ho with ⟨s, t, at_, A', he1, rfl⟩ | ⟨he1, v7, v8, v9, v14, v15, v16, A', rfl⟩
  · rw [he1]
    simp [mf40, hlen, m32, f1, hfz, m36, b0, x1, x2, go40x0 lp, exT, scalarB, frz_i, -evLenSl, -frz, -evBin, -evIndexSl]
    simp [frz]
  · rw [he1]
    simp [mf40, hlen, m32, f1, hfz, m36, b0, x1, x2, go40x0 lp, exT, scalarB, frz_i, -evLenSl, -frz, -evBin, -evIndexSl]
    simp [frz]
end Cy
end Go.Proofs.Ytemklhljjaniaaa
/-
  Cycle, plain: what home, walk and cycle find.
-/
namespace Go.Proofs.Ytemklhljjaniaaa
namespace Cy
open Go

/-- lengths of ways with j arcs -/
def WL (L : List LArc) (u v j : Nat) (z : Int) : Prop := ∃ r, isW L u r v ∧ r.length = j ∧ lenW r = z
/-- the greatest one, if there is one -/
def bestOf (P : Int → Prop) (y : LP) : Prop := (y = noL ∧ ∀ z, ¬ P z) ∨ (y.2 = true ∧ P y.1 ∧ ∀ z, P z → z ≤ y.1)
theorem bestOf.congr {P Q : Int → Prop} {y : LP} (h : bestOf P y) (hpq : ∀ z, P z ↔ Q z) : bestOf Q y := by
  rcases h with ⟨h1, h2⟩ | ⟨h1, h2, h3⟩
  · exact .inl ⟨h1, fun z hz => h2 z ((hpq z).2 hz)⟩
  · exact .inr ⟨h1, (hpq _).1 h2, fun z hz => h3 z ((hpq z).2 hz)⟩
theorem best_more {P Q : Int → Prop} {x y : LP} (h1 : bestOf P x) (h2 : bestOf Q y) : bestOf (fun z => P z ∨ Q z) (moreP x y) := by
  obtain ⟨x1, x2⟩ := x
  obtain ⟨y1, y2⟩ := y
  rcases h1 with ⟨e1, a1⟩ | ⟨e1, a1, b1⟩
  · have : moreP (x1, x2) (y1, y2) = (y1, y2) := if_pos (.inl (by rw [e1]; rfl))
    rw [this]
    exact h2.congr fun z => ⟨.inr, fun h => h.elim (fun h => absurd h (a1 z)) id⟩
  · simp only at e1 a1 b1
    rcases h2 with ⟨e2, a2⟩ | ⟨e2, a2, b2⟩
    · have : moreP (x1, x2) (y1, y2) = (x1, x2) := if_neg (by
        rw [e2, e1]
        rintro (h | ⟨h, _⟩) <;> cases h)
      rw [this]
      exact .inr ⟨e1, .inl a1, fun z h => h.elim (b1 z) fun h => absurd h (a2 z)⟩
    · simp only at e2 a2 b2
      by_cases h : y1 > x1
      · have : moreP (x1, x2) (y1, y2) = (y1, y2) := if_pos (.inr ⟨e2, h⟩)
        rw [this]
        exact .inr ⟨e2, .inr a2, fun z hz => hz.elim (fun hz => by have := b1 z hz; simp only; omega) (b2 z)⟩
      · have : moreP (x1, x2) (y1, y2) = (x1, x2) := if_neg (by
          rw [e1]
          rintro (h' | ⟨_, h'⟩)
          · cases h'
          · exact h h')
        rw [this]
        exact .inr ⟨e1, .inl a1, fun z hz => hz.elim (b1 z) fun hz => by have := b2 z hz; simp only; omega⟩
theorem best_plus {P : Int → Prop} {x : LP} (h : bestOf P x) (w : Int) : bestOf (fun z => ∃ z', P z' ∧ z = w + z') (plusP x w) := by
  rcases h with ⟨e, a⟩ | ⟨e, a, b⟩
  · rw [e]
    exact .inl ⟨rfl, fun z ⟨z', h, _⟩ => a z' h⟩
  · have : plusP x w = (x.1 + w, x.2) := if_neg (by rw [e]; rintro ⟨h, _⟩; cases h)
    rw [this]
    refine .inr ⟨e, ⟨_, a, by simp only; omega⟩, ?_⟩
    rintro z ⟨z', h, rfl⟩
    have := b z' h
    simp only; omega
theorem best_none : bestOf (fun _ => False) noL := .inl ⟨rfl, fun _ h => h⟩
theorem WL_zero {L : List LArc} {u v : Nat} {z : Int} : WL L u v 0 z ↔ u = v ∧ z = 0 := by
  constructor
  · rintro ⟨r, h1, h2, h3⟩
    have : r = [] := List.length_eq_zero_iff.1 h2
    subst this
    exact ⟨h1, h3.symm⟩
  · rintro ⟨rfl, rfl⟩
    exact ⟨[], rfl, rfl, rfl⟩
theorem WL_succ {L : List LArc} {u v j : Nat} {z : Int} : WL L u v (j + 1) z ↔ ∃ a ∈ L, a.1 = u ∧ ∃ z', WL L a.2.1 v j z' ∧ z = a.2.2 + z' := by
  constructor
  · rintro ⟨r, h1, h2, h3⟩
    cases r with
    | nil => simp at h2
    | cons a r =>
      obtain ⟨k1, k2, k3⟩ := h1
      exact ⟨a, k1, k2, lenW r, ⟨r, k3, by simpa using h2, rfl⟩, h3.symm⟩
  · rintro ⟨a, h1, h2, z', ⟨r, k1, k2, rfl⟩, rfl⟩
    exact ⟨a :: r, ⟨h1, h2, k1⟩, by simp [k2], rfl⟩
theorem rep_get (n v : Nat) : (List.replicate n noL).getD v noL = noL := by
  rw [List.getD_eq_getElem?_getD]
  by_cases h : v < n <;> simp [h]
theorem hst_best {L0 : List LArc} {n to j : Nat} (hok : ArcsOk n L0) {h : List LP} (hh : ∀ u, u < n → bestOf (WL L0 u to j) (h.getD u noL)) : ∀ (L : List LArc), (∀ a ∈ L, a ∈ L0) → ∀ (next : List LP) (D : Nat → Int → Prop), next.length = n → (∀ u, u < n → bestOf (D u) (next.getD u noL)) →
    ∀ u, u < n → bestOf (fun z => D u z ∨ ∃ a ∈ L, a.1 = u ∧ ∃ z', WL L0 a.2.1 to j z' ∧ z = a.2.2 + z') ((L.foldl (hst h) next).getD u noL)
  | [], _, next, D, hn, hD, u, hu => (hD u hu).congr fun z => ⟨.inl, fun h => h.elim id fun ⟨a, h, _⟩ => by cases h⟩
  | a :: L, hL, next, D, hn, hD, u, hu => by
    obtain ⟨o1, o2, _⟩ := hok a (hL a (by simp))
    have := hst_best hok hh L (fun b hb => hL b (by simp [hb])) (hst h next a) (fun u z => D u z ∨ (a.1 = u ∧ ∃ z', WL L0 a.2.1 to j z' ∧ z = a.2.2 + z')) (by rw [hst_len, hn]) (fun v hv => by
      unfold hst
      rw [getD_setP _ _ _ _ _ (by omega)]
      by_cases hav : a.1 = v
      · rw [if_pos hav]
        subst hav
        exact (best_more (hD _ o1) (best_plus (hh _ o2) a.2.2)).congr fun z => by simp
      · rw [if_neg hav]
        exact (hD v hv).congr fun z => ⟨.inl, fun h => h.elim id fun h => absurd h.1 hav⟩) u hu
    rw [List.foldl_cons]
    refine this.congr fun z => ?_
    constructor
    · rintro ((h | ⟨h1, h2⟩) | ⟨b, h1, h2⟩)
      · exact .inl h
      · exact .inr ⟨a, by simp, h1, h2⟩
      · exact .inr ⟨b, by simp [h1], h2⟩
    · rintro (h | ⟨b, h1, h2⟩)
      · exact .inl (.inl h)
      · rcases List.mem_cons.1 h1 with rfl | h1
        · exact .inl (.inr h2)
        · exact .inr ⟨b, h1, h2⟩
theorem hm_best {L : List LArc} {n to : Nat} (hok : ArcsOk n L) (hto : to < n) : ∀ (j u : Nat), u < n → bestOf (WL L u to j) ((hm L n to j).getD u noL)
  | 0, u, hu => by
    unfold hm
    rw [getD_setP _ _ _ _ _ (by simpa using hto)]
    by_cases h : to = u
    · rw [if_pos h]
      exact .inr ⟨rfl, WL_zero.2 ⟨h.symm, rfl⟩, fun z hz => by have := (WL_zero.1 hz).2; simp only; omega⟩
    · rw [if_neg h, rep_get]
      exact .inl ⟨rfl, fun z hz => h (WL_zero.1 hz).1.symm⟩
  | j + 1, u, hu => by
    have := hst_best hok (hm_best hok hto j) L (fun _ h => h) (List.replicate n noL) (fun _ _ => False) (by simp) (fun u _ => by rw [rep_get]; exact best_none) u hu
    refine this.congr fun z => ?_
    rw [WL_succ]
    exact ⟨fun h => h.elim False.elim id, .inr⟩

/-! ### ways of arcs with numbers -/
def isNW (l : List CArc) : Int → List NArc → Int → Prop
  | u, [], v => u = v
  | u, x :: r, v => x ∈ num l ∧ x.1.f = u ∧ isNW l x.1.t r v
def lenN (p : Int) (xs : List NArc) : Int := (xs.map fun x => x.1.len p).sum
def tokN (xs : List NArc) : Int := (xs.map fun x => x.1.k).sum
def wgtN (xs : List NArc) : Int := (xs.map fun x => x.1.w).sum
theorem lenN_eq (p : Int) : ∀ xs : List NArc, lenN p xs = wgtN xs - p * tokN xs
  | [] => by simp [lenN, wgtN, tokN]
  | x :: r => by
    have := lenN_eq p r
    simp only [lenN, wgtN, tokN, List.map_cons, List.sum_cons, CArc.len] at this ⊢
    rw [this, Int.mul_add]; omega
def larO (p : Int) (x : NArc) : LArc := (x.1.f.toNat, x.1.t.toNat, x.1.len p)
theorem num_lar {p : Int} {l : List CArc} {x : NArc} (h : x ∈ num l) : larO p x ∈ lar p l := by
  obtain ⟨hi, he⟩ := num_mem h
  exact List.mem_map.2 ⟨x.1, by rw [← he]; exact List.getElem_mem hi, rfl⟩
theorem lar_num {p : Int} {l : List CArc} {a : LArc} (h : a ∈ lar p l) : ∃ x ∈ num l, larO p x = a := by
  obtain ⟨c, hc, rfl⟩ := List.mem_map.1 h
  obtain ⟨i, hi, rfl⟩ := List.mem_iff_getElem.1 hc
  exact ⟨(l[i], i), List.mem_of_getElem? (num_get l i hi), rfl⟩
theorem num_ok {n : Int} {l : List CArc} (hv : ∀ x ∈ l, okA n x) {x : NArc} (h : x ∈ num l) : okA n x.1 := by
  obtain ⟨hi, he⟩ := num_mem h
  rw [← he]; exact hv _ (List.getElem_mem hi)
theorem NW_W {n p : Int} {l : List CArc} (hv : ∀ x ∈ l, okA n x) : ∀ {xs : List NArc} {u v : Int}, isNW l u xs v → isW (lar p l) u.toNat (xs.map (larO p)) v.toNat ∧ lenW (xs.map (larO p)) = lenN p xs
  | [], u, v, h => ⟨by rw [show u = v from h]; rfl, rfl⟩
  | x :: r, u, v, ⟨h1, h2, h3⟩ => by
    obtain ⟨k1, k2⟩ := NW_W hv h3
    refine ⟨⟨num_lar h1, by rw [← h2]; rfl, k1⟩, ?_⟩
    simp only [List.map_cons, lenW, k2, lenN, List.sum_cons]
    rfl
theorem W_NW {n p : Int} {l : List CArc} (hv : ∀ x ∈ l, okA n x) : ∀ {r : List LArc} {u v : Nat}, isW (lar p l) u r v → ∃ xs : List NArc, isNW l (u : Int) xs (v : Int) ∧ xs.map (larO p) = r
  | [], u, v, h => ⟨[], by rw [show u = v from h]; rfl, rfl⟩
  | a :: r, u, v, ⟨h1, h2, h3⟩ => by
    obtain ⟨x, hx, rfl⟩ := lar_num h1
    obtain ⟨xs, k1, k2⟩ := W_NW hv h3
    have hok := num_ok hv hx
    refine ⟨x :: xs, ⟨hx, ?_, ?_⟩, by rw [List.map_cons, k2]⟩
    · have := hok.1
      simp only [larO] at h2
      omega
    · have e : ((larO p x).2.1 : Int) = x.1.t := by
        have := hok.2.1
        simp only [larO]; omega
      rw [e] at k1; exact k1

/-! ### walk -/
section
variable {n to : Nat} {p : Int} {l : List CArc} (hv : ∀ x ∈ l, okA n x) (hn32 : n ≤ 32) (hp : isPer p) (hto : to < n)
include hv hn32 hp hto
theorem good_iff {j : Nat} {sum : Int} {x : NArc} (hx : x ∈ num l) : good (hm (lar p l) n to j) p sum x = true ↔ ∃ z, WL (lar p l) x.1.t.toNat to j z ∧ sum + x.1.len p + z > 0 := by
  have hok := num_ok hv hx
  have ht := hok.2.1
  have hb := hm_best (lar_ok hn32 hp hv) hto j x.1.t.toNat (by omega)
  unfold good
  obtain ⟨y, hy⟩ : ∃ y, y = (hm (lar p l) n to j).getD x.1.t.toNat noL := ⟨_, rfl⟩
  rw [← hy] at hb ⊢
  rcases hb with ⟨e, a⟩ | ⟨e, a, b⟩
  · rw [e]
    constructor
    · intro h
      have : plusP noL (sum + x.1.len p) = noL := rfl
      rw [this] at h
      simp [noL] at h
    · rintro ⟨z, hz, _⟩
      exact absurd hz (a z)
  · have : plusP y (sum + x.1.len p) = (y.1 + (sum + x.1.len p), y.2) := if_neg (by rw [e]; rintro ⟨h, _⟩; cases h)
    rw [this, e]
    simp only [Bool.true_and, decide_eq_true_eq]
    constructor
    · intro h
      exact ⟨y.1, a, by omega⟩
    · rintro ⟨z, hz, h⟩
      have := b z hz
      omega
theorem walk_at : ∀ (r : Nat) (v sum : Int) (out : List Int), 0 ≤ v → (∃ z, WL (lar p l) v.toNat to r z ∧ sum + z > 0) →
    ∃ xs : List NArc, walkM p l (hm (lar p l) n to) r sum (outL l v.toNat) out = some (out ++ xs.map fun x => (x.2 : Int)) ∧ isNW l v xs (to : Int) ∧ xs.length = r ∧ sum + lenN p xs > 0
  | 0, v, sum, out, hv0, ⟨z, h1, h2⟩ => by
    obtain ⟨h3, rfl⟩ := WL_zero.1 h1
    exact ⟨[], by simp [walkM], by show v = (to : Int); omega, rfl, by simpa [lenN] using h2⟩
  | r + 1, v, sum, out, hv0, ⟨z, h1, h2⟩ => by
    obtain ⟨a, ha, haf, z', hz', rfl⟩ := WL_succ.1 h1
    obtain ⟨x, hx, rfl⟩ := lar_num ha
    have hokx := num_ok hv hx
    have hxf : x.1.f = v := by
      have := hokx.1
      simp only [larO] at haf; omega
    have hxo : x ∈ outL l v.toNat := List.mem_filter.2 ⟨hx, by simp; omega⟩
    have hg : good (hm (lar p l) n to r) p sum x = true := (good_iff hv hn32 hp hto hx).2 ⟨z', hz', by simp only [larO] at h2; omega⟩
    cases hf : (outL l v.toNat).find? (good (hm (lar p l) n to r) p sum) with
    | none =>
      rw [List.find?_eq_none] at hf
      exact absurd hg (hf x hxo)
    | some b =>
      have hbg := List.find?_some hf
      have hbo := List.mem_of_find?_eq_some hf
      have hbn := (List.mem_filter.1 hbo).1
      have hbf := (List.mem_filter.1 hbo).2
      simp only [decide_eq_true_eq] at hbf
      have hokb := num_ok hv hbn
      obtain ⟨y, hy1, hy2⟩ := (good_iff hv hn32 hp hto hbn).1 hbg
      obtain ⟨xs, k1, k2, k3, k4⟩ := walk_at r b.1.t (sum + b.1.len p) (out ++ [(b.2 : Int)]) hokb.2.1.1 ⟨y, hy1, hy2⟩
      refine ⟨b :: xs, ?_, ⟨hbn, by omega, k2⟩, by simp [k3], ?_⟩
      · simp only [walkM, hf, k1]
        simp
      · simp only [lenN, List.map_cons, List.sum_cons] at k4 ⊢
        omega
end
section
variable {n : Nat} {p : Int} {l : List CArc} (hv : ∀ x ∈ l, okA n x) (hn32 : n ≤ 32) (hp : isPer p)
include hv hn32 hp
theorem wk_some {k : Nat} {x : NArc} (hx : x ∈ num l) : (wk p l n (k + 1) x = none ∧ ¬ ∃ z, WL (lar p l) x.1.t.toNat x.1.f.toNat k z ∧ x.1.len p + z > 0) ∨
    ∃ xs : List NArc, wk p l n (k + 1) x = some (xs.map fun y => (y.2 : Int)) ∧ isNW l x.1.f xs x.1.f ∧ xs.length = k + 1 ∧ lenN p xs > 0 := by
  have hok := num_ok hv hx
  have hto : x.1.f.toNat < n := by have := hok.1; omega
  unfold wk walkM
  by_cases hg : good (hm (lar p l) n x.1.f.toNat k) p 0 x = true
  · right
    obtain ⟨z, hz1, hz2⟩ := (good_iff hv hn32 hp hto hx).1 hg
    obtain ⟨xs, k1, k2, k3, k4⟩ := walk_at hv hn32 hp hto k x.1.t (0 + x.1.len p) ([] ++ [(x.2 : Int)]) hok.2.1.1 ⟨z, hz1, by omega⟩
    refine ⟨x :: xs, ?_, ⟨hx, rfl, ?_⟩, by simp [k3], ?_⟩
    · simp only [List.find?_cons, hg, k1]
      simp
    · have : ((x.1.f.toNat : Nat) : Int) = x.1.f := by have := hok.1; omega
      rw [this] at k2; exact k2
    · simp only [lenN, List.map_cons, List.sum_cons] at k4 ⊢
      omega
  · left
    refine ⟨?_, fun ⟨z, h1, h2⟩ => hg ((good_iff hv hn32 hp hto hx).2 ⟨z, h1, by omega⟩)⟩
    rw [Bool.not_eq_true] at hg
    simp [hg]
theorem firstK_none {k : Nat} : firstK p l n (k + 1) = none ↔ ∀ u c, isW (lar p l) u c u → c.length = k + 1 → lenW c ≤ 0 := by
  unfold firstK
  rw [List.findSome?_eq_none_iff]
  constructor
  · intro h u c hc hl
    cases c with
    | nil => simp at hl
    | cons a r =>
      obtain ⟨h1, h2, h3⟩ := hc
      obtain ⟨x, hx, rfl⟩ := lar_num h1
      rcases wk_some hv hn32 hp (k := k) hx with ⟨_, h5⟩ | ⟨xs, h4, _⟩
      · rcases Int.lt_or_le 0 (lenW (larO p x :: r)) with h6 | h6
        · refine absurd ⟨lenW r, ⟨r, ?_, by simpa using hl, rfl⟩, ?_⟩ h5
          · have e : x.1.f.toNat = u := h2
            rw [e]; exact h3
          · simp only [lenW, larO] at h6; omega
        · exact h6
      · rw [h x hx] at h4; cases h4
  · intro h x hx
    rcases wk_some hv hn32 hp (k := k) hx with ⟨h4, _⟩ | ⟨xs, h4, h5, h6, h7⟩
    · exact h4
    · obtain ⟨k1, k2⟩ := NW_W (p := p) hv h5
      have := h _ _ k1 (by simp [h6])
      omega
theorem firstK_some {k : Nat} {res : List Int} (h : firstK p l n (k + 1) = some res) : ∃ (u : Int) (xs : List NArc), res = xs.map (fun y => (y.2 : Int)) ∧ isNW l u xs u ∧ xs.length = k + 1 ∧ lenN p xs > 0 := by
  unfold firstK at h
  obtain ⟨x, hx, hw⟩ := List.exists_of_findSome?_eq_some h
  rcases wk_some hv hn32 hp (k := k) hx with ⟨h4, _⟩ | ⟨xs, h4, h5, h6, h7⟩
  · rw [h4] at hw; cases hw
  · rw [h4] at hw
    injection hw with hw
    exact ⟨_, xs, hw.symm, h5, h6, h7⟩
theorem cyc_none : cycM p l n = none ↔ NoPos (lar p l) n := by
  unfold cycM
  rw [List.findSome?_eq_none_iff]
  constructor
  · intro h u c hc h1 h2
    have := (firstK_none hv hn32 hp (k := c.length - 1)).1 (h (c.length - 1) (by simp; omega)) u c hc (by omega)
    exact this
  · intro h j hj
    rw [List.mem_range] at hj
    exact (firstK_none hv hn32 hp).2 fun u c hc hl => h u c hc (by omega) (by omega)
theorem cyc_some {res : List Int} (h : cycM p l n = some res) : ∃ (u : Int) (xs : List NArc), res = xs.map (fun y => (y.2 : Int)) ∧ isNW l u xs u ∧ 1 ≤ xs.length ∧ xs.length ≤ n ∧ lenN p xs > 0 := by
  unfold cycM at h
  obtain ⟨j, hj, hw⟩ := List.exists_of_findSome?_eq_some h
  rw [List.mem_range] at hj
  obtain ⟨u, xs, h1, h2, h3, h4⟩ := firstK_some hv hn32 hp hw
  exact ⟨u, xs, h1, h2, by omega, by omega, h4⟩
end
end Cy
end Go.Proofs.Ytemklhljjaniaaa
/-
  Cycle, plain: starts or a cycle; Smallest.
-/
namespace Go.Proofs.Ytemklhljjaniaaa
namespace Cy
open Go

/-- a closed way whose length is greater than 0 -/
def Pos (l : List CArc) (p : Int) : Prop := ∃ (u : Int) (xs : List NArc), isNW l u xs u ∧ 0 < lenN p xs
theorem arcZ_num {l : List CArc} {x : NArc} (h : x ∈ num l) : arcZ l (x.2 : Int) = x.1 ∧ 0 ≤ (x.2 : Int) ∧ (x.2 : Int) ≤ (l.length : Int) - 1 := by
  obtain ⟨hi, he⟩ := num_mem h
  refine ⟨?_, by omega, by omega⟩
  unfold arcZ
  rw [Int.toNat_natCast, List.getD_eq_getElem?_getD, List.getElem?_eq_getElem hi]
  exact he
theorem exL_NW {p : Int} {l : List CArc} : ∀ {xs : List NArc} {u v s t : Int}, isNW l u xs v → exL p l (xs.map fun y => (y.2 : Int)) u s t = some (s + lenN p xs, t + tokN xs)
  | [], u, v, s, t, _ => by simp [exL, lenN, tokN]
  | x :: r, u, v, s, t, ⟨h1, h2, h3⟩ => by
    obtain ⟨e, _⟩ := arcZ_num h1
    simp only [List.map_cons, exL, e, if_pos h2]
    rw [exL_NW h3]
    simp only [lenN, tokN, List.map_cons, List.sum_cons]
    congr 2 <;> omega
theorem isNW_last {l : List CArc} : ∀ {xs : List NArc} {u v : Int} (h : xs ≠ []), isNW l u xs v → (xs.getLast h).1.t = v ∧ xs.getLast h ∈ num l
  | [x], u, v, _, ⟨h1, h2, h3⟩ => ⟨h3, h1⟩
  | x :: y :: r, u, v, _, ⟨h1, h2, h3⟩ => by
    rw [List.getLast_cons (by simp)]
    exact isNW_last (by simp) h3
theorem exM_cycle {p : Int} {l : List CArc} {u : Int} {xs : List NArc} (h : isNW l u xs u) (h1 : 1 ≤ xs.length) (h2 : xs.length ≤ 200) : exM p l (xs.map fun y => (y.2 : Int)) = some (lenN p xs, tokN xs) := by
  have hne : xs ≠ [] := fun e => by rw [e] at h1; simp at h1
  have hall : ∀ x ∈ xs, x ∈ num l := by
    have : ∀ {ys : List NArc} {a b : Int}, isNW l a ys b → ∀ x ∈ ys, x ∈ num l := by
      intro ys
      induction ys with
      | nil => intro _ _ _ x hx; cases hx
      | cons y r ih =>
        rintro a b ⟨k1, _, k3⟩ x hx
        rcases List.mem_cons.1 hx with rfl | hx
        · exact k1
        · exact ih k3 x hx
    exact this h
  unfold exM
  rw [if_pos ⟨by simpa using ⟨h1, h2⟩, fun x hx => by
    obtain ⟨y, hy, rfl⟩ := List.mem_map.1 hx
    exact (arcZ_num (hall y hy)).2⟩]
  obtain ⟨e1, e2⟩ := isNW_last hne h
  have : (xs.map fun y => (y.2 : Int)).getLastD 0 = ((xs.getLast hne).2 : Int) := by
    rw [List.getLastD_eq_getLast?, List.getLast?_map, List.getLast?_eq_some_getLast hne]; rfl
  rw [this, (arcZ_num e2).1, e1, exL_NW h]
  simp
theorem exL_some {p : Int} {l : List CArc} : ∀ {ys : List Int} {u s t : Int} {r : Int × Int}, inIdx l ys → exL p l ys u s t = some r → ∃ (v : Int) (xs : List NArc), ys = xs.map (fun y => (y.2 : Int)) ∧ isNW l u xs v ∧ r = (s + lenN p xs, t + tokN xs)
  | [], u, s, t, r, _, h => by
    simp only [exL, Option.some.injEq] at h
    exact ⟨u, [], rfl, rfl, by rw [← h]; simp [lenN, tokN]⟩
  | i :: ys, u, s, t, r, hi, h => by
    have hi0 := hi i (by simp)
    obtain ⟨j, hj, rfl, he⟩ := arcZ_at hi0
    simp only [exL] at h
    split at h
    · rename_i hf
      obtain ⟨v, xs, k1, k2, k3⟩ := exL_some (fun x hx => hi x (by simp [hx])) h
      rw [he] at hf k2 k3
      refine ⟨v, (l[j], j) :: xs, by simp [k1], ⟨List.mem_of_getElem? (num_get l j hj), hf, k2⟩, ?_⟩
      rw [k3]
      simp only [lenN, tokN, List.map_cons, List.sum_cons]
      congr 1 <;> omega
    · cases h
theorem exM_some {p : Int} {l : List CArc} {ys : List Int} {s t : Int} (h : exM p l ys = some (s, t)) : ∃ (u : Int) (xs : List NArc), ys = xs.map (fun y => (y.2 : Int)) ∧ isNW l u xs u ∧ 1 ≤ xs.length ∧ xs.length ≤ 200 ∧ s = lenN p xs ∧ t = tokN xs := by
  unfold exM at h
  simp only [Option.ite_none_right_eq_some] at h
  obtain ⟨⟨h1, h2⟩, h3⟩ := h
  obtain ⟨v, xs, rfl, k2, k3⟩ := exL_some h2 h3
  simp only [List.length_map] at h1
  have hne : xs ≠ [] := fun e => by rw [e] at h1; simp at h1
  obtain ⟨e1, e2⟩ := isNW_last hne k2
  have : (xs.map fun y => (y.2 : Int)).getLastD 0 = ((xs.getLast hne).2 : Int) := by
    rw [List.getLastD_eq_getLast?, List.getLast?_map, List.getLast?_eq_some_getLast hne]; rfl
  rw [this, (arcZ_num e2).1, e1] at k2
  simp only [Prod.mk.injEq, Int.zero_add] at k3
  exact ⟨v, xs, rfl, k2, h1.1, h1.2, k3.1, k3.2⟩
/-- what is refuted has no starts -/
theorem keeps_noP {n p : Int} {l : List CArc} (hv : ∀ x ∈ l, okA n x) {s : List Int} (h : Keeps (lar p l) s) : ¬ Pos l p := by
  rintro ⟨u, xs, h1, h2⟩
  obtain ⟨k1, k2⟩ := NW_W (p := p) hv h1
  have := keeps_way h k1
  omega
theorem lar_ends {n : Nat} {p : Int} {l : List CArc} (hv : ∀ x ∈ l, okA n x) : ∀ a ∈ lar p l, a.1 < n ∧ a.2.1 < n := fun a ha => by
  obtain ⟨x, hx, rfl⟩ := List.mem_map.1 ha
  obtain ⟨q1, q2, _⟩ := hv x hx
  simp only; omega
section
variable {n : Nat} {p : Int} {l : List CArc} (hr : Ready n l p)
include hr
theorem lev_iff : (levels (lar p l) n).2 = true ↔ ¬ Pos l p := by
  have hv := hr.1.2.2
  have hn := hr.1.1
  constructor
  · intro h
    exact keeps_noP hv ((levels_least (lar_ends hv)).2.2.2.1 h)
  · intro h
    rw [levels_ok (lar_ends hv), ← cyc_none hv (by omega) hr.2]
    cases hc : cycM p l n with
    | none => rfl
    | some res =>
      obtain ⟨u, xs, _, k2, _, _, k5⟩ := cyc_some hv (by omega) hr.2 hc
      exact absurd ⟨u, xs, k2, k5⟩ h
theorem cyc_of (h : ¬ (levels (lar p l) n).2 = true) : ∃ (res : List Int) (u : Int) (xs : List NArc), cycM p l n = some res ∧ res = xs.map (fun y => (y.2 : Int)) ∧ isNW l u xs u ∧ 1 ≤ xs.length ∧ xs.length ≤ 32 ∧ 0 < lenN p xs ∧ exM p l res = some (lenN p xs, tokN xs) := by
  have hv := hr.1.2.2
  have hn := hr.1.1
  rw [levels_ok (lar_ends hv), ← cyc_none hv (by omega) hr.2] at h
  cases hc : cycM p l n with
  | none => exact absurd hc h
  | some res =>
    obtain ⟨u, xs, k1, k2, k3, k4, k5⟩ := cyc_some hv (by omega) hr.2 hc
    exact ⟨res, u, xs, rfl, k1, k2, k3, by omega, k5, by rw [k1]; exact exM_cycle k2 k3 (by omega)⟩
end
theorem lenN_bd {n p : Int} {l : List CArc} (hn : n ≤ 32) (hp : isPer p) (hv : ∀ x ∈ l, okA n x) : ∀ {xs : List NArc} {u v : Int}, isNW l u xs v → (-(3000000 * (xs.length : Int)) ≤ lenN p xs ∧ lenN p xs ≤ 3000000 * xs.length) ∧ (-(2 * (xs.length : Int)) ≤ tokN xs ∧ tokN xs ≤ 2 * xs.length)
  | [], _, _, _ => by simp [lenN, tokN]
  | x :: r, u, v, ⟨h1, h2, h3⟩ => by
    have h4 := lenN_bd hn hp hv h3
    obtain ⟨q1, q2, q3, q4⟩ := num_ok hv h1
    have hle := len_in (n := 32) (a := x.1) ⟨by omega, by omega, q3, q4⟩ hp
    simp only [lenN, tokN, List.map_cons, List.sum_cons, List.length_cons] at h4 ⊢
    omega

/-! ### Smallest -/
noncomputable def smL (n : Nat) (l : List CArc) (hi : Int) : Nat → Int → Option Int
  | 0, _ => none
  | m + 1, p => open Classical in if p ≤ hi ∧ Ready n l p then
      (if (levels (lar p l) n).2 = true then some p
       else if ((exM p l ((cycM p l n).getD [])).getD (0, 0)).2 ≤ 0 then none
       else smL n l hi m (p + (((exM p l ((cycM p l n).getD [])).getD (0, 0)).1 + ((exM p l ((cycM p l n).getD [])).getD (0, 0)).2 - 1).tdiv ((exM p l ((cycM p l n).getD [])).getD (0, 0)).2))
    else none
noncomputable def smM (n : Int) (l : List CArc) (lo hi : Int) : Option Int := if isPer hi then smL n.toNat l hi (hi - lo + 2).toNat lo else none
theorem step_div {s t : Int} (hs : 0 < s) (ht : 0 < t) : 1 ≤ (s + t - 1).tdiv t ∧ (s + t - 1).tdiv t ≤ s ∧ ((s + t - 1).tdiv t - 1) * t < s ∧ s ≤ (s + t - 1).tdiv t * t := by
  rw [Int.tdiv_eq_ediv_of_nonneg (by omega)]
  have h1 := Int.ediv_mul_add_emod (s + t - 1) t
  have h2 := Int.emod_nonneg (s + t - 1) (show t ≠ 0 by omega)
  have h3 := Int.emod_lt_of_pos (s + t - 1) ht
  obtain ⟨d, hd⟩ : ∃ d, d = (s + t - 1) / t := ⟨_, rfl⟩
  rw [← hd] at h1 ⊢
  have h4 : 1 ≤ d := by
    rcases Int.lt_or_le d 1 with h | h
    · have : d * t ≤ 0 := Int.mul_nonpos_of_nonpos_of_nonneg (by omega) (by omega)
      omega
    · exact h
  have h5 : (d - 1) * t = d * t - t := by rw [Int.sub_mul]; omega
  refine ⟨h4, ?_, by omega, by omega⟩
  rcases Int.lt_or_le s d with h | h
  · have : s * t ≤ (d - 1) * t := Int.mul_le_mul_of_nonneg_right (by omega) (by omega)
    have h6 : s * 1 ≤ s * t := Int.mul_le_mul_of_nonneg_left (by omega) (by omega)
    omega
  · exact h
/-- a cycle that refutes a period refutes others too -/
theorem pos_other {l : List CArc} {p q : Int} {u : Int} {xs : List NArc} (h : isNW l u xs u) (hq : 0 < lenN p xs - (q - p) * tokN xs) : Pos l q := by
  refine ⟨u, xs, h, ?_⟩
  rw [lenN_eq] at hq ⊢
  have : (q - p) * tokN xs = q * tokN xs - p * tokN xs := by rw [Int.sub_mul]
  omega
theorem smL_spec {n : Nat} {l : List CArc} {hi : Int} (hhi : isPer hi) : ∀ (m : Nat) (p : Int), hi - p + 1 < m →
    (∀ r, smL n l hi m p = some r → p ≤ r ∧ r ≤ hi ∧ Ready n l r ∧ ¬ Pos l r ∧ ∀ q, p ≤ q → q < r → Pos l q) ∧ (smL n l hi m p = none → Ready n l p → ∀ q, p ≤ q → q ≤ hi → Pos l q)
  | 0, p, hm => ⟨fun r h => (by cases h), fun _ _ q h1 h2 => by omega⟩
  | m + 1, p, hm => by
    unfold smL
    by_cases hp : p ≤ hi ∧ Ready n l p
    rotate_left
    · rw [if_neg hp]
      exact ⟨fun r h => (by cases h), fun _ h q h1 h2 => absurd ⟨by omega, h⟩ hp⟩
    rw [if_pos hp]
    by_cases hl : (levels (lar p l) n).2 = true
    · rw [if_pos hl]
      refine ⟨fun r h => ?_, fun h => by cases h⟩
      injection h with h; subst h
      exact ⟨Int.le_refl _, hp.1, hp.2, (lev_iff hp.2).1 hl, fun q h1 h2 => by omega⟩
    rw [if_neg hl]
    obtain ⟨res, u, xs, k1, k2, k3, k4, k5, k6, k7⟩ := cyc_of hp.2 hl
    rw [k1, Option.getD_some, k7, Option.getD_some]
    simp only
    by_cases ht : tokN xs ≤ 0
    · rw [if_pos ht]
      refine ⟨fun r h => (by cases h), fun _ _ q h1 h2 => pos_other k3 (p := p) ?_⟩
      have : (q - p) * tokN xs ≤ 0 := Int.mul_nonpos_of_nonneg_of_nonpos (by omega) ht
      omega
    rw [if_neg ht]
    obtain ⟨d1, d2, d3, d4⟩ := step_div k6 (show 0 < tokN xs by omega)
    obtain ⟨d, hd⟩ : ∃ d, d = (lenN p xs + tokN xs - 1).tdiv (tokN xs) := ⟨_, rfl⟩
    rw [← hd] at d1 d2 d3 d4 ⊢
    have hbelow : ∀ q, p ≤ q → q < p + d → Pos l q := fun q h1 h2 => pos_other k3 (p := p) (by
      have : (q - p) * tokN xs ≤ (d - 1) * tokN xs := Int.mul_le_mul_of_nonneg_right (by omega) (by omega)
      omega)
    obtain ⟨i1, i2⟩ := smL_spec hhi m (p + d) (by omega)
    constructor
    · intro r h
      obtain ⟨j1, j2, j3, j4, j5⟩ := i1 r h
      refine ⟨by omega, j2, j3, j4, fun q h1 h2 => ?_⟩
      by_cases hq : q < p + d
      · exact hbelow q h1 hq
      · exact j5 q (by omega) h2
    · intro h _ q h1 h2
      by_cases hq : q < p + d
      · exact hbelow q h1 hq
      · have hR : Ready n l (p + d) := ⟨hp.2.1, by
          have := hp.2.2
          unfold isPer at *
          omega⟩
        exact i2 h hR q (by omega) h2
end Cy
end Go.Proofs.Ytemklhljjaniaaa
/-
  Cycle: Refutes; Smallest.
-/
namespace Go.Proofs.Ytemklhljjaniaaa
namespace Cy
open Go

/-- a cycle refutes a period -/
def RefOk (n : Int) (l : List CArc) (p : Int) (c : List Int) : Prop := Ready n l p ∧ ∃ s t, exM p l c = some (s, t) ∧ 0 < s
open Classical in
noncomputable def M21 : PModel := fun args => match args with
  | [.int .i64 n, a, .int .i64 p, b] => match arcsOf a, intsOf b with
    | some l, some s => some (.bool (decide (RefOk n l p s)))
    | _, _ => none
  | _ => none
noncomputable def fs21 : List (FuncId × HModel) := [(55, pureFH 4 M25), (57, pureH 4 M40)]
@[simp] theorem fs21_25 : lookM fs21 55 = some (pureFH 4 M25) := rfl
@[simp] theorem fs21_40 : lookM fs21 57 = some (pureH 4 M40) := rfl
theorem sound21 : ∀ f M, lookM fs21 f = some M → FnSpecY Try.prog GC f M := lookM_cons (FnSpecY.of_pureF spec25F 4) (lookM_cons (FnSpecY.of_pure spec40 4) lookM_nil)
open Classical in
set_option maxRecDepth 100000 in
theorem spec21 : PureSpec Try.prog GC 51 M21 := by
  refine PureSpec.of_ev (E := envOf GC fs21) (envOf_sound sound21) rfl at21 comp21 1 ?_
  intro args r h
  unfold M21 at h
  split at h
  rotate_left
  · cases h
  rename_i n a p b
  split at h
  rotate_left
  · cases h
  rename_i l s hl hs
  injection h with h; subst h
  refine ⟨0, ?_⟩
  obtain ⟨hb, _, hsl⟩ := intsOf_some hs
  have f1 : ∀ A n, frz A n a = a := fun A n => arcsOf_frz hl A n
  have f2 : ∀ A n, frz A n b = b := fun A n => hb.frz n
  have f4 := intsOf_noRef hs
  have m1 : M25 [.int .i64 n, a, .int .i64 p] = some (if Ready n l p then .tup [webT n.toNat p l, .bool true] else .tup [.nilP, .bool false]) := by simp only [M25, hl, Option.map_some]
  rw [evP_run _ _ rfl]
  by_cases hr : Ready n l p
  rotate_left
  · rw [if_neg hr] at m1
    rw [decide_eq_false (show ¬ RefOk n l p s from fun h => hr h.1)]
    simp [mf21, f1, m1, frz_i, frz_b, -frz]
  rw [if_pos hr] at m1
  obtain ⟨m, rfl⟩ : ∃ m : Nat, n = (m : Int) := ⟨n.toNat, by have := hr.1.1; omega⟩
  rw [Int.toNat_natCast] at m1
  have m40 := M40_eq hr hb hsl
  obtain ⟨W1, O, hW⟩ : ∃ W1 O, webT m p l = .fp [.int .i64 (m : Int), W1, O] := ⟨_, _, rfl⟩
  rw [hW] at m1 m40
  have hfw : ∀ B, frz B 4 (.fp [.int .i64 (m : Int), W1, O]) = .fp [.int .i64 (m : Int), W1, O] := fun _ => rfl
  have hnr : noRefB 4 (.fp [.int .i64 (m : Int), W1, O]) = true := rfl
  cases he : exM p l s with
  | none =>
    rw [he] at m40
    rw [decide_eq_false (show ¬ RefOk m l p s from fun h => by
      obtain ⟨_, x, y, h, _⟩ := h
      rw [he] at h; cases h)]
    simp only [exT, Option.getD_none, Option.isSome_none] at m40
    simp [mf21, f1, f2, m1, m40, hfw, f4, frz_i, frz_b, -frz]
  | some st =>
    obtain ⟨x, y⟩ := st
    rw [he] at m40
    simp only [exT, Option.getD_some, Option.isSome_some] at m40
    have b1 : evBin .gtr (.int .i64 x) (.int .i64 0) = some (.bool (decide (x > 0))) := by simp [evBin]
    have e : decide (RefOk m l p s) = decide (x > 0) := by
      rw [Bool.eq_iff_iff, decide_eq_true_eq, decide_eq_true_eq]
      constructor
      · rintro ⟨_, a', b', h, h2⟩
        rw [he] at h
        injection h with h
        injection h with h h'
        omega
      · intro h
        exact ⟨hr, x, y, he, h⟩
    rw [e]
    obtain ⟨d, hd⟩ : ∃ d, d = decide (x > 0) := ⟨_, rfl⟩
    rw [← hd] at b1 ⊢
    simp [mf21, f1, f2, m1, m40, hfw, f4, b1, frz_i, frz_b, -frz, -evBin]

/-! ### Smallest -/
noncomputable def fs23 : List (FuncId × HModel) := [(55, pureFH 4 M25), (56, pureFH 4 M26), (58, pureH 4 M27), (57, pureH 4 M40), (54, pureH 4 M41)]
@[simp] theorem fs23_25 : lookM fs23 55 = some (pureFH 4 M25) := rfl
@[simp] theorem fs23_26 : lookM fs23 56 = some (pureFH 4 M26) := rfl
@[simp] theorem fs23_27 : lookM fs23 58 = some (pureH 4 M27) := rfl
@[simp] theorem fs23_40 : lookM fs23 57 = some (pureH 4 M40) := rfl
@[simp] theorem fs23_41 : lookM fs23 54 = some (pureH 4 M41) := rfl
theorem sound23 : ∀ f M, lookM fs23 f = some M → FnSpecY Try.prog GC f M := lookM_cons (FnSpecY.of_pureF spec25F 4) (lookM_cons (FnSpecY.of_pureF spec26F 4) (lookM_cons (FnSpecY.of_pure spec27 4) (lookM_cons (FnSpecY.of_pure spec40 4) (lookM_cons (FnSpecY.of_pure spec41 4) lookM_nil))))
def smT (r : Option Int) : AV := .tup [.int .i64 (r.getD 0), .bool r.isSome]
open Classical in
set_option maxRecDepth 100000 in
theorem loop23 (fuel : Nat) {a : AV} {l : List CArc} (ha : arcsOf a = some l) (n : Int) {hi : Int} (hhi : isPer hi) : ∀ (m : Nat) (p : Int), 0 < m → hi - p + 1 < m →
    match smL n.toNat l hi m p with
    | some q => ∃ v7 v8 v9 v10 v11 v12 v13 v14 v15 v16, iter (evC (envOf GC fs23) fuel lp23x0) mask23x0 m (st23x0 (.int .i64 n) a (.int .i64 hi) (.int .i64 p)) [] = some (.ret [.int .i64 n, a, .undef, .int .i64 hi, .int .i64 q, .bool true, .int .i64 q, v7, v8, v9, v10, v11, v12, v13, v14, v15, v16] [])
    | none => ∃ v6 v7 v8 v9 v10 v11 v12 v13 v14 v15 v16, iter (evC (envOf GC fs23) fuel lp23x0) mask23x0 m (st23x0 (.int .i64 n) a (.int .i64 hi) (.int .i64 p)) [] = some (.exit 0 [.int .i64 n, a, .undef, .int .i64 hi, .undef, .undef, v6, v7, v8, v9, v10, v11, v12, v13, v14, v15, v16] [])
  | 0, p, h0, hm => by omega
  | m + 1, p, h0, hm => by
    have f1 : ∀ A n, frz A n a = a := fun A n => arcsOf_frz ha A n
    have m1 : M25 [.int .i64 n, a, .int .i64 p] = some (if Ready n l p then .tup [webT n.toNat p l, .bool true] else .tup [.nilP, .bool false]) := by simp only [M25, ha, Option.map_some]
    have b1 : evBin .leq (.int .i64 p) (.int .i64 hi) = some (.bool (decide (p ≤ hi))) := by simp [evBin]
    unfold smL
    rw [iter_succ, cl23x0]
    by_cases hp : p ≤ hi
    rotate_left
    · rw [if_neg (fun h => hp h.1)]
      rw [decide_eq_false hp] at b1
      refine ⟨.int .i64 p, .undef, .undef, .undef, .undef, .undef, .undef, .bool false, .undef, .undef, .undef, ?_⟩
      simp [lp23x0, b1, -evBin]
    rw [decide_eq_true hp] at b1
    by_cases hr : Ready n l p
    rotate_left
    · rw [if_neg (fun h => hr (by
        have h2 := h.2
        have h3 := h2.1.1
        have : ((n.toNat : Nat) : Int) = n := by omega
        rw [this] at h2; exact h2))]
      rw [if_neg hr] at m1
      refine ⟨.int .i64 p, .nilP, .bool false, .undef, .undef, .undef, .undef, .bool true, .bool true, .undef, .undef, ?_⟩
      simp [lp23x0, b1, m1, f1, frz_i, -frz, -evBin]
    rw [if_pos hr] at m1
    obtain ⟨k, rfl⟩ : ∃ k : Nat, n = (k : Int) := ⟨n.toNat, by have := hr.1.1; omega⟩
    rw [Int.toNat_natCast] at m1 ⊢
    rw [if_pos ⟨hp, hr⟩]
    have m2 := M26_eq hr
    have m3 := M27_eq hr
    obtain ⟨W1, O, hW⟩ : ∃ W1 O, webT k p l = .fp [.int .i64 (k : Int), W1, O] := ⟨_, _, rfl⟩
    have hfw : ∀ B, frz B 4 (.fp [.int .i64 (k : Int), W1, O]) = .fp [.int .i64 (k : Int), W1, O] := fun _ => rfl
    have hnr : noRefB 4 (.fp [.int .i64 (k : Int), W1, O]) = true := rfl
    by_cases hok : (levels (lar p l) k).2 = true
    · rw [if_pos hok]
      rw [hok] at m2
      rw [hW] at m1 m2
      refine ⟨.fp [.int .i64 (k : Int), W1, O], .bool true, .bool true, .undef, .undef, .undef, .bool true, .bool false, .bool true, .undef, ?_⟩
      obtain ⟨S, hS⟩ : ∃ S, S = slA 1 (intsA (levels (lar p l) k).1) := ⟨_, rfl⟩
      rw [← hS] at m2
      simp [lp23x0, b1, m1, m2, f1, hfw, frz_i, -frz, -evBin]
    rw [if_neg hok]
    obtain ⟨res, u, xs, k1, k2, k3, k4, k5, k6, k7⟩ := cyc_of hr hok
    have hbd := lenN_bd (n := (k : Int)) (by have := hr.1.1; omega) hr.2 hr.1.2.2 k3
    have m4 := M40_eq hr (slA_holds 1 (intsA res)) (by rw [k2]; simp; omega)
    rw [k1, Option.getD_some] at m3
    rw [k7] at m4
    rw [k1, Option.getD_some, k7, Option.getD_some]
    simp only [exT, Option.getD_some, Option.isSome_some] at m4
    simp only
    rw [Bool.not_eq_true] at hok
    rw [hok] at m2
    rw [hW] at m1 m2 m3 m4
    obtain ⟨S, hS⟩ : ∃ S, S = slA 1 (intsA (levels (lar p l) k).1) := ⟨_, rfl⟩
    rw [← hS] at m2
    have hnc : ∀ n, noRefB n (slA 1 (intsA res)) = true := fun n => noRef_slA n 1 _
    have hfc : ∀ A n, frz A n (slA 1 (intsA res)) = slA 1 (intsA res) := fun A n => frz_slA A n 1 _
    obtain ⟨C, hC⟩ : ∃ C, C = slA 1 (intsA res) := ⟨_, rfl⟩
    rw [← hC] at m3 m4 hnc hfc
    obtain ⟨s, hs⟩ : ∃ s, s = lenN p xs := ⟨_, rfl⟩
    obtain ⟨t, ht⟩ : ∃ t, t = tokN xs := ⟨_, rfl⟩
    rw [← hs, ← ht] at m4 hbd ⊢
    rw [← hs] at k6
    have b2 : evBin .leq (.int .i64 t) (.int .i64 0) = some (.bool (decide (t ≤ 0))) := by simp [evBin]
    by_cases ht0 : t ≤ 0
    · rw [if_pos ht0]
      rw [decide_eq_true ht0] at b2
      refine ⟨.int .i64 p, .fp [.int .i64 (k : Int), W1, O], .bool true, .bool false, .int .i64 s, .int .i64 t, .undef, .bool true, .bool false, .bool false, .bool true, ?_⟩
      simp [lp23x0, b1, b2, m1, m2, m3, m4, f1, hfw, hnc, hfc, frz_i, -frz, -evBin]
    rw [if_neg ht0]
    rw [decide_eq_false ht0] at b2
    obtain ⟨d1, d2, d3, d4⟩ := step_div k6 (show 0 < t by omega)
    have hper := hr.2
    unfold isPer at hper hhi
    have b3 : evBin .add (.int .i64 s) (.int .i64 t) = some (.int .i64 (s + t)) := by
      simp only [evBin]; rw [if_pos trivial, wrapI (by unfold inI; omega)]
    have b4 : evBin .sub (.int .i64 (s + t)) (.int .i64 1) = some (.int .i64 (s + t - 1)) := by
      simp only [evBin]; rw [if_pos trivial, wrapI (by unfold inI; omega)]
    have b5 : evBin .quo (.int .i64 (s + t - 1)) (.int .i64 t) = some (.int .i64 ((s + t - 1).tdiv t)) := by
      simp only [evBin]; rw [if_pos trivial, if_neg (show ¬ t = 0 by omega), wrapI (by unfold inI; omega)]
    obtain ⟨d, hd⟩ : ∃ d, d = (s + t - 1).tdiv t := ⟨_, rfl⟩
    rw [← hd] at b5 d1 d2 ⊢
    have b6 : evBin .add (.int .i64 p) (.int .i64 d) = some (.int .i64 (p + d)) := by
      simp only [evBin]; rw [if_pos trivial, wrapI (by unfold inI; omega)]
    have ih := loop23 fuel ha (k : Int) hhi m (p + d) (by omega) (by omega)
    rw [Int.toNat_natCast] at ih
    obtain ⟨p2, hp2⟩ : ∃ p2, p2 = p + d := ⟨_, rfl⟩
    rw [← hp2] at b6 ih ⊢
    obtain ⟨st, hst⟩ : ∃ st, st = s + t := ⟨_, rfl⟩
    rw [← hst] at b3 b4 b5
    obtain ⟨st1, hst1⟩ : ∃ st1, st1 = st - 1 := ⟨_, rfl⟩
    rw [← hst1] at b4 b5
    have hrun : run (envOf GC fs23) fuel [.code lp23x0] (st23x0 (.int .i64 (k : Int)) a (.int .i64 hi) (.int .i64 p)) [] = some (.normal (st23x0 (.int .i64 (k : Int)) a (.int .i64 hi) (.int .i64 p2)) []) := by
      simp [lp23x0, b1, b2, b3, b4, b5, b6, m1, m2, m3, m4, f1, hfw, hnc, hfc, frz_i, -frz, -evBin]
    rw [hrun]
    exact ih
noncomputable def M23 : PModel := fun args => match args with
  | [.int .i64 n, a, .int .i64 lo, .int .i64 hi] => (arcsOf a).map fun l => smT (smM n l lo hi)
  | _ => none
set_option maxRecDepth 100000 in
theorem spec23 : PureSpec Try.prog GC 28 M23 := by
  refine PureSpec.of_ev (E := envOf GC fs23) (envOf_sound sound23) rfl at23 comp23 5 ?_
  intro args r h
  unfold M23 at h
  split at h
  rotate_left
  · cases h
  rename_i n a lo hi
  simp only [Option.map_eq_some_iff] at h
  obtain ⟨l, hl, rfl⟩ := h
  obtain ⟨m, hm⟩ : ∃ m, m = (hi - lo + 2).toNat + 1 := ⟨_, rfl⟩
  have m1 : M41 [.int .i64 hi] = some (.bool (decide (isPer hi))) := rfl
  by_cases hp : isPer hi
  rotate_left
  · refine ⟨0, ?_⟩
    rw [decide_eq_false hp] at m1
    rw [show smM n l lo hi = none from if_neg hp]
    rw [evP_run _ _ rfl]
    simp [mf23, m1, smT]
  rw [decide_eq_true hp] at m1
  rw [show smM n l lo hi = smL n.toNat l hi (hi - lo + 2).toNat lo from if_pos hp]
  by_cases hz : (hi - lo + 2).toNat = 0
  · -- nothing is in between
    refine ⟨1, ?_⟩
    rw [hz]
    have b1 : evBin .leq (.int .i64 lo) (.int .i64 hi) = some (.bool false) := by simp [evBin]; omega
    have lp : iter (evC (envOf GC fs23) 1 lp23x0) mask23x0 1 (st23x0 (.int .i64 n) a (.int .i64 hi) (.int .i64 lo)) [] = some (.exit 0 [.int .i64 n, a, .undef, .int .i64 hi, .undef, .undef, .int .i64 lo, .undef, .undef, .undef, .undef, .undef, .undef, .bool false, .undef, .undef, .undef] []) := by
      rw [iter_succ, cl23x0]
      simp [lp23x0, b1, -evBin]
    rw [evP_run _ _ rfl]
    simp [mf23, m1, go23x0 lp, smL, smT]
  · obtain ⟨F, hF⟩ : ∃ F, F = (hi - lo + 2).toNat := ⟨_, rfl⟩
    have hl23 := loop23 F hl n hp F lo (by omega) (by omega)
    refine ⟨F, ?_⟩
    rw [← hF]
    rw [evP_run _ _ rfl]
    cases hs : smL n.toNat l hi F lo with
    | none =>
      rw [hs] at hl23
      obtain ⟨v6, v7, v8, v9, v10, v11, v12, v13, v14, v15, v16, lp⟩ := hl23
      simp [mf23, m1, go23x0 lp, smT]
    | some q =>
      rw [hs] at hl23
      obtain ⟨v7, v8, v9, v10, v11, v12, v13, v14, v15, v16, lp⟩ := hl23
      simp [mf23, m1, go23x0 lp, smT]
end Cy
end Go.Proofs.Ytemklhljjaniaaa
/-
  The functions, compiled; written by wip/gen.
-/
namespace Go.Proofs.Ytemklhljjaniaaa
open Go
def mf11 : MFun := ⟨0, 16, .seq (.region [⟨some 0, .mv (.cst (.bool false)), none⟩]) (.seq (.region [⟨none, .build [.int .i64 0, .int .i64 0] [(0, (1, .cst (.int .i64 20))), (1, (1, .cst (.int .i64 12)))], none⟩, ⟨none, .build [.int .i64 0, .int .i64 0] [(0, (1, .cst (.int .i64 30))), (1, (1, .cst (.int .i64 12)))], none⟩, ⟨none, .buildSlice 2 [.tmp 0, .tmp 1], none⟩, ⟨none, .build [.nilS, .int .i64 0, .int .i64 0, .int .i64 0, .int .i64 0] [(0, (1, .tmp 2)), (1, (1, .cst (.int .i64 1))), (2, (1, .cst (.int .i64 1))), (3, (1, .cst (.int .i64 2))), (4, (1, .cst (.int .i64 1)))], none⟩, ⟨some 1, .alloc 5 (.agg [.nilS, .int .i64 0, .int .i64 0, .int .i64 0, .int .i64 0]), none⟩, ⟨none, .store 5 (.var 1) (.tmp 3), none⟩]) (.seq (.region [⟨none, .load true 5 (.var 1), none⟩, ⟨none, .call (.fn 14) [.tmp 0], none⟩, ⟨some 2, .mv (.tmp 1), none⟩]) (.seq (.region [⟨none, .load true 5 (.var 1), none⟩, ⟨none, .buildF 1 [.cst (.int .i64 0), .cst (.int .i64 2), .cst (.int .i64 1)], none⟩, ⟨none, .call (.fn 19) [.tmp 0, .tmp 1], none⟩, ⟨none, .mv (.tmp 2), none⟩, ⟨none, .extract (.tmp 3) 0, none⟩, ⟨none, .extract (.tmp 3) 1, none⟩, ⟨some 3, .mv (.tmp 4), none⟩, ⟨some 4, .mv (.tmp 5), none⟩]) (.seq (.region [⟨none, .load true 5 (.var 1), none⟩, ⟨none, .call (.fn 22) [.tmp 0], none⟩, ⟨none, .mv (.tmp 1), none⟩, ⟨none, .extract (.tmp 2) 0, none⟩, ⟨none, .extract (.tmp 2) 1, none⟩, ⟨some 5, .alloc 4 (.agg [.int .i64 0, .nilS, .nilS, .nilS]), none⟩, ⟨none, .store 4 (.var 5) (.tmp 3), none⟩, ⟨some 6, .mv (.tmp 4), none⟩]) (.seq (.region [⟨none, .load true 5 (.var 1), none⟩, ⟨some 7, .alloc 5 (.agg [.nilS, .int .i64 0, .int .i64 0, .int .i64 0, .int .i64 0]), none⟩, ⟨none, .store 5 (.var 7) (.tmp 0), none⟩]) (.seq (.region [⟨none, .fieldAddr 4 (.var 7), none⟩, ⟨none, .store 1 (.tmp 0) (.cst (.int .i64 2)), none⟩]) (.seq (.region [⟨none, .load true 5 (.var 7), none⟩, ⟨none, .call (.fn 22) [.tmp 0], none⟩, ⟨none, .mv (.tmp 1), none⟩, ⟨none, .extract (.tmp 2) 0, none⟩, ⟨none, .extract (.tmp 2) 1, none⟩, ⟨some 8, .alloc 4 (.agg [.int .i64 0, .nilS, .nilS, .nilS]), none⟩, ⟨none, .store 4 (.var 8) (.tmp 3), none⟩, ⟨some 9, .mv (.tmp 4), none⟩]) (.seq (.region [⟨none, .load true 5 (.var 7), none⟩, ⟨some 10, .alloc 5 (.agg [.nilS, .int .i64 0, .int .i64 0, .int .i64 0, .int .i64 0]), none⟩, ⟨none, .store 5 (.var 10) (.tmp 0), none⟩]) (.seq (.region [⟨none, .build [.int .i64 0, .int .i64 0] [(0, (1, .cst (.int .i64 20))), (1, (1, .cst (.int .i64 9)))], none⟩, ⟨none, .build [.int .i64 0, .int .i64 0] [(0, (1, .cst (.int .i64 30))), (1, (1, .cst (.int .i64 9)))], none⟩, ⟨none, .buildSlice 2 [.tmp 0, .tmp 1], none⟩, ⟨none, .fieldAddr 0 (.var 10), none⟩, ⟨none, .store 1 (.tmp 3) (.tmp 2), none⟩]) (.seq (.region [⟨none, .load true 5 (.var 10), none⟩, ⟨none, .call (.fn 22) [.tmp 0], none⟩, ⟨none, .mv (.tmp 1), none⟩, ⟨none, .extract (.tmp 2) 0, none⟩, ⟨none, .extract (.tmp 2) 1, none⟩, ⟨none, .alloc 4 (.agg [.int .i64 0, .nilS, .nilS, .nilS]), none⟩, ⟨none, .store 4 (.tmp 5) (.tmp 3), none⟩, ⟨some 11, .mv (.tmp 4), none⟩]) (.seq (.region [⟨none, .load true 5 (.var 1), none⟩, ⟨none, .buildF 1 [.cst (.int .i64 0), .cst (.int .i64 1)], none⟩, ⟨none, .call (.fn 19) [.tmp 0, .tmp 1], none⟩, ⟨none, .mv (.tmp 2), none⟩, ⟨none, .extract (.tmp 3) 0, none⟩, ⟨none, .extract (.tmp 3) 1, none⟩, ⟨none, .mv (.tmp 4), none⟩, ⟨some 12, .mv (.tmp 5), none⟩]) (.seq (.region [⟨none, .build [.int .i64 0, .int .i64 0, .int .i64 0, .int .i64 0] [(0, (1, .cst (.int .i64 0))), (1, (1, .cst (.int .i64 2))), (2, (1, .cst (.int .i64 6)))], none⟩, ⟨none, .build [.int .i64 0, .int .i64 0, .int .i64 0, .int .i64 0] [(0, (1, .cst (.int .i64 2))), (1, (1, .cst (.int .i64 1))), (2, (1, .cst (.int .i64 6)))], none⟩, ⟨none, .build [.int .i64 0, .int .i64 0, .int .i64 0, .int .i64 0] [(0, (1, .cst (.int .i64 1))), (1, (1, .cst (.int .i64 0))), (2, (1, .cst (.int .i64 6))), (3, (1, .cst (.int .i64 1)))], none⟩, ⟨none, .build [.int .i64 0, .int .i64 0, .int .i64 0, .int .i64 0] [(0, (1, .cst (.int .i64 0))), (1, (1, .cst (.int .i64 1))), (2, (1, .cst (.int .i64 24)))], none⟩, ⟨none, .build [.int .i64 0, .int .i64 0, .int .i64 0, .int .i64 0] [(0, (1, .cst (.int .i64 1))), (1, (1, .cst (.int .i64 0))), (2, (1, .cst (.int .i64 (-36))))], none⟩, ⟨none, .build [.int .i64 0, .int .i64 0, .int .i64 0, .int .i64 0] [(0, (1, .cst (.int .i64 1))), (1, (1, .cst (.int .i64 2))), (2, (1, .cst (.int .i64 34))), (3, (1, .cst (.int .i64 1)))], none⟩, ⟨none, .build [.int .i64 0, .int .i64 0, .int .i64 0, .int .i64 0] [(0, (1, .cst (.int .i64 2))), (1, (1, .cst (.int .i64 1))), (2, (1, .cst (.int .i64 (-46)))), (3, (1, .cst (.int .i64 (-1))))], none⟩, ⟨none, .buildSlice 4 [.tmp 0, .tmp 1, .tmp 2, .tmp 3, .tmp 4, .tmp 5, .tmp 6], none⟩, ⟨some 13, .mv (.tmp 7), none⟩]) (.seq (.seq (.region [⟨none, .mv (.var 2), none⟩, ⟨none, .lenSl (.tmp 0), none⟩, ⟨none, .bin .neq (.tmp 1) (.cst (.int .i64 2)), none⟩, ⟨none, .mv (.tmp 2), none⟩, ⟨none, .mv (.var 4), some (.tmp 3, false)⟩, ⟨none, .bin .neq (.tmp 4) (.cst (.int .i64 0)), some (.tmp 3, false)⟩, ⟨none, .pick (.tmp 3) (.cst (.bool true)) (.tmp 5), none⟩, ⟨none, .mv (.tmp 6), none⟩, ⟨none, .mv (.var 6), some (.tmp 7, false)⟩, ⟨none, .bin .neq (.tmp 8) (.cst (.int .i64 0)), some (.tmp 7, false)⟩, ⟨none, .pick (.tmp 7) (.cst (.bool true)) (.tmp 9), none⟩, ⟨none, .mv (.tmp 10), none⟩, ⟨none, .mv (.var 9), some (.tmp 11, false)⟩, ⟨none, .bin .neq (.tmp 12) (.cst (.int .i64 0)), some (.tmp 11, false)⟩, ⟨none, .pick (.tmp 11) (.cst (.bool true)) (.tmp 13), none⟩, ⟨none, .mv (.tmp 14), none⟩, ⟨none, .mv (.var 11), some (.tmp 15, false)⟩, ⟨none, .bin .neq (.tmp 16) (.cst (.int .i64 130)), some (.tmp 15, false)⟩, ⟨none, .pick (.tmp 15) (.cst (.bool true)) (.tmp 17), none⟩, ⟨none, .mv (.tmp 18), none⟩, ⟨none, .mv (.var 12), some (.tmp 19, false)⟩, ⟨none, .bin .neq (.tmp 20) (.cst (.int .i64 130)), some (.tmp 19, false)⟩, ⟨some 15, .pick (.tmp 19) (.cst (.bool true)) (.tmp 21), none⟩]) (.cond (.var 15) (.seq (.region [⟨some 0, .mv (.cst (.bool false)), none⟩]) .ret) .skip)) (.seq (.region [⟨none, .fieldAddr 0 (.var 5), none⟩, ⟨none, .load false 1 (.tmp 0), none⟩, ⟨none, .bin .eql (.tmp 1) (.cst (.int .i64 40)), none⟩, ⟨none, .mv (.tmp 2), none⟩, ⟨none, .fieldAddr 1 (.var 5), some (.tmp 3, true)⟩, ⟨none, .load false 1 (.tmp 4), some (.tmp 3, true)⟩, ⟨none, .buildF 1 [.cst (.int .i64 0), .cst (.int .i64 2), .cst (.int .i64 1)], some (.tmp 3, true)⟩, ⟨none, .call (.fn 18) [.tmp 5, .tmp 6], some (.tmp 3, true)⟩, ⟨none, .pick (.tmp 3) (.tmp 7) (.cst (.bool false)), none⟩, ⟨none, .mv (.tmp 8), none⟩, ⟨none, .fieldAddr 2 (.var 5), some (.tmp 9, true)⟩, ⟨none, .load false 1 (.tmp 10), some (.tmp 9, true)⟩, ⟨none, .buildF 1 [.cst (.int .i64 0), .cst (.int .i64 24), .cst (.int .i64 18)], some (.tmp 9, true)⟩, ⟨none, .call (.fn 18) [.tmp 11, .tmp 12], some (.tmp 9, true)⟩, ⟨none, .pick (.tmp 9) (.tmp 13) (.cst (.bool false)), none⟩, ⟨none, .mv (.tmp 14), none⟩, ⟨none, .fieldAddr 0 (.var 8), some (.tmp 15, true)⟩, ⟨none, .load false 1 (.tmp 16), some (.tmp 15, true)⟩, ⟨none, .bin .eql (.tmp 17) (.cst (.int .i64 32)), some (.tmp 15, true)⟩, ⟨none, .pick (.tmp 15) (.tmp 18) (.cst (.bool false)), none⟩, ⟨none, .mv (.tmp 19), none⟩, ⟨none, .fieldAddr 2 (.var 8), some (.tmp 20, true)⟩, ⟨none, .load false 1 (.tmp 21), some (.tmp 20, true)⟩, ⟨none, .buildF 1 [.cst (.int .i64 0), .cst (.int .i64 4), .cst (.int .i64 8)], some (.tmp 20, true)⟩, ⟨none, .call (.fn 18) [.tmp 22, .tmp 23], some (.tmp 20, true)⟩, ⟨none, .pick (.tmp 20) (.tmp 24) (.cst (.bool false)), none⟩, ⟨some 14, .mv (.tmp 25), none⟩]) (.seq (.region [⟨none, .mv (.var 3), none⟩, ⟨none, .mv (.var 13), none⟩, ⟨none, .call (.fn 21) [.tmp 0, .tmp 1], none⟩, ⟨none, .mv (.tmp 2), none⟩, ⟨none, .mv (.var 14), some (.tmp 3, true)⟩, ⟨none, .pick (.tmp 3) (.tmp 4) (.cst (.bool false)), none⟩, ⟨none, .mv (.tmp 5), none⟩, ⟨none, .load true 5 (.var 1), some (.tmp 6, true)⟩, ⟨none, .load true 4 (.var 5), some (.tmp 6, true)⟩, ⟨none, .call (.fn 26) [.tmp 7, .tmp 8], some (.tmp 6, true)⟩, ⟨none, .pick (.tmp 6) (.tmp 9) (.cst (.bool false)), none⟩, ⟨none, .mv (.tmp 10), none⟩, ⟨none, .load true 5 (.var 7), some (.tmp 11, true)⟩, ⟨none, .load true 4 (.var 8), some (.tmp 11, true)⟩, ⟨none, .call (.fn 26) [.tmp 12, .tmp 13], some (.tmp 11, true)⟩, ⟨none, .pick (.tmp 11) (.tmp 14) (.cst (.bool false)), none⟩, ⟨none, .mv (.tmp 15), none⟩, ⟨none, .load true 5 (.var 7), some (.tmp 16, true)⟩, ⟨none, .load true 4 (.var 5), some (.tmp 16, true)⟩, ⟨none, .call (.fn 26) [.tmp 17, .tmp 18], some (.tmp 16, true)⟩, ⟨none, .un .not (.tmp 19), some (.tmp 16, true)⟩, ⟨none, .pick (.tmp 16) (.tmp 20) (.cst (.bool false)), none⟩, ⟨none, .mv (.tmp 21), none⟩, ⟨none, .load true 5 (.var 1), some (.tmp 22, true)⟩, ⟨none, .build [.int .i64 0, .nilS, .nilS, .nilS] [], some (.tmp 22, true)⟩, ⟨none, .call (.fn 26) [.tmp 23, .tmp 24], some (.tmp 22, true)⟩, ⟨none, .un .not (.tmp 25), some (.tmp 22, true)⟩, ⟨none, .pick (.tmp 22) (.tmp 26) (.cst (.bool false)), none⟩, ⟨none, .mv (.tmp 27), none⟩, ⟨none, .build [.nilS, .int .i64 0, .int .i64 0, .int .i64 0, .int .i64 0] [], some (.tmp 28, true)⟩, ⟨none, .call (.fn 16) [.tmp 29], some (.tmp 28, true)⟩, ⟨none, .un .not (.tmp 30), some (.tmp 28, true)⟩, ⟨none, .pick (.tmp 28) (.tmp 31) (.cst (.bool false)), none⟩, ⟨none, .mv (.tmp 32), none⟩, ⟨none, .build [.nilS, .int .i64 0, .int .i64 0, .int .i64 0, .int .i64 0] [], some (.tmp 33, true)⟩, ⟨none, .call (.fn 14) [.tmp 34], some (.tmp 33, true)⟩, ⟨none, .lenSl (.tmp 35), some (.tmp 33, true)⟩, ⟨none, .bin .eql (.tmp 36) (.cst (.int .i64 0)), some (.tmp 33, true)⟩, ⟨none, .pick (.tmp 33) (.tmp 37) (.cst (.bool false)), none⟩, ⟨some 0, .mv (.tmp 38), none⟩]) .ret))))))))))))))), [.tmp 0]⟩
set_option maxHeartbeats 4000000 in
theorem comp11 : compFun Try.prog Try.f11 0 [0, 1, 2, 3, 4, 5, 6, 7, 8, 9, 10, 12, 14, 15, 16, 87] [] true ([], []) = some mf11 := by kernel_rfl
theorem at11 : Try.prog.funcs[11]? = some Try.f11 := by kernel_rfl
def lp13x0 : MC := .seq (.seq (.region [⟨none, .mv (.var 5), none⟩, ⟨none, .mv (.var 1), none⟩, ⟨none, .lenSl (.tmp 1), none⟩, ⟨none, .minmax false (.tmp 2) [.cst (.int .i64 4)], none⟩, ⟨none, .minmax true (.cst (.int .i64 1)) [.tmp 3], none⟩, ⟨some 7, .bin .lss (.tmp 0) (.tmp 4), none⟩]) (.cond (.var 7) .skip (.exit 0))) (.seq (.seq (.block 1 (.seq (.region [⟨none, .indexArr 5 1 (.var 2) (.cst (.int .i64 4)), none⟩, ⟨none, .load false 1 (.tmp 0), none⟩, ⟨none, .indexArr 5 1 (.var 2) (.cst (.int .i64 4)), none⟩, ⟨none, .load false 1 (.tmp 2), none⟩, ⟨none, .build [.int .i64 0, .int .i64 0] [(0, (1, .tmp 1)), (1, (1, .tmp 3))], none⟩, ⟨some 6, .alloc 2 (.agg [.int .i64 0, .int .i64 0]), none⟩, ⟨none, .store 2 (.var 6) (.tmp 4), none⟩]) (.seq (.seq (.region [⟨none, .mv (.var 5), none⟩, ⟨none, .mv (.var 1), none⟩, ⟨none, .lenSl (.tmp 1), none⟩, ⟨some 8, .bin .lss (.tmp 0) (.tmp 2), none⟩]) (.cond (.var 8) (.region [⟨none, .mv (.var 1), none⟩, ⟨none, .mv (.var 5), none⟩, ⟨none, .indexSl 2 (.tmp 0) (.tmp 1), none⟩, ⟨none, .load true 2 (.tmp 2), none⟩, ⟨none, .store 2 (.var 6) (.tmp 3), none⟩]) .skip)) (.region [⟨none, .fieldAddr 0 (.var 4), none⟩, ⟨none, .load false 1 (.tmp 0), none⟩, ⟨none, .indexArr 2 1 (.var 6) (.cst (.int .i64 0)), none⟩, ⟨none, .load false 1 (.tmp 2), none⟩, ⟨none, .call (.fn 33) [.tmp 3, .cst (.int .i64 60)], none⟩, ⟨none, .indexArr 2 1 (.var 6) (.cst (.int .i64 1)), none⟩, ⟨none, .load false 1 (.tmp 5), none⟩, ⟨none, .call (.fn 33) [.tmp 6, .cst (.int .i64 40)], none⟩, ⟨none, .build [.int .i64 0, .int .i64 0] [(0, (1, .tmp 4)), (1, (1, .tmp 7))], none⟩, ⟨none, .buildF 2 [.tmp 8], none⟩, ⟨none, .append 2 16 (.tmp 1) (.tmp 9), none⟩, ⟨none, .fieldAddr 0 (.var 4), none⟩, ⟨none, .store 1 (.tmp 11) (.tmp 10), none⟩])))) (.kill [0, 6, 7, 8])) (.region [⟨none, .mv (.var 5), none⟩, ⟨none, .bin .add (.tmp 0) (.cst (.int .i64 1)), none⟩, ⟨some 5, .mv (.tmp 1), none⟩]))
def mf13 : MFun := ⟨2, 9, .seq (.region [⟨some 2, .box (.var 0), none⟩, ⟨some 3, .alloc 5 (.agg [.nilS, .int .i64 0, .int .i64 0, .int .i64 0, .int .i64 0]), none⟩]) (.seq (.regionD [33] [⟨none, .indexArr 5 1 (.var 2) (.cst (.int .i64 0)), none⟩, ⟨none, .load false 1 (.tmp 0), none⟩, ⟨none, .call (.fn 33) [.tmp 1, .cst (.int .i64 5)], none⟩, ⟨none, .bin .add (.cst (.int .i64 1)) (.tmp 2), none⟩, ⟨none, .indexArr 5 1 (.var 2) (.cst (.int .i64 1)), none⟩, ⟨none, .load false 1 (.tmp 4), none⟩, ⟨none, .call (.fn 33) [.tmp 5, .cst (.int .i64 5)], none⟩, ⟨none, .bin .add (.cst (.int .i64 1)) (.tmp 6), none⟩, ⟨none, .indexArr 5 1 (.var 2) (.cst (.int .i64 2)), none⟩, ⟨none, .load false 1 (.tmp 8), none⟩, ⟨none, .call (.fn 33) [.tmp 9, .cst (.int .i64 9)], none⟩, ⟨none, .indexArr 5 1 (.var 2) (.cst (.int .i64 3)), none⟩, ⟨none, .load false 1 (.tmp 11), none⟩, ⟨none, .call (.fn 33) [.tmp 12, .cst (.int .i64 2)], none⟩, ⟨none, .bin .add (.cst (.int .i64 1)) (.tmp 13), none⟩, ⟨none, .build [.nilS, .int .i64 0, .int .i64 0, .int .i64 0, .int .i64 0] [(1, (1, .tmp 3)), (2, (1, .tmp 7)), (3, (1, .tmp 10)), (4, (1, .tmp 14))], none⟩, ⟨some 4, .alloc 5 (.agg [.nilS, .int .i64 0, .int .i64 0, .int .i64 0, .int .i64 0]), none⟩, ⟨none, .store 5 (.var 4) (.tmp 15), none⟩] [(0, 16), (1, 16), (2, 16), (4, 16), (5, 16), (6, 16), (8, 16), (9, 16), (10, 16), (11, 16), (12, 16), (13, 16)]) (.seq (.seq (.region [⟨some 5, .mv (.cst (.int .i64 0)), none⟩]) (.seq (.block 0 (.loop [0, 6, 7, 8] lp13x0)) (.kill [0, 1, 2, 5, 6, 7, 8]))) (.seq (.region [⟨none, .load true 5 (.var 4), none⟩, ⟨none, .store 5 (.var 3) (.tmp 0), none⟩]) .ret))), [.cell 3 true 5]⟩
def mask13x0 : List Nat := [0, 6, 7, 8]
abbrev st13x0 (v1 v2 v3 v4 v5 : AV) : List AV := [.undef, v1, v2, v3, v4, v5, .undef, .undef, .undef]
theorem cl13x0 {d0 v1 v2 v3 v4 v5 d6 d7 d8 : AV} : clear mask13x0 [d0, v1, v2, v3, v4, v5, d6, d7, d8] = st13x0 v1 v2 v3 v4 v5 := by simp only [mask13x0, clear, List.foldl_cons, List.foldl_nil, List.set_cons_zero, List.set_cons_succ]
theorem go13x0 {E : Env} {fuel : Nat} {A : Arena} {o : Out} {k : List KC} {d0 v1 v2 v3 v4 v5 d6 d7 d8 : AV} (h : iter (evC E fuel lp13x0) mask13x0 fuel (st13x0 v1 v2 v3 v4 v5) A = some o) :
    run E fuel (.code (.loop [0, 6, 7, 8] lp13x0) :: k) [d0, v1, v2, v3, v4, v5, d6, d7, d8] A = after E fuel k o := run_loopC mask13x0 _ _ (by rw [cl13x0]; exact h)
set_option maxHeartbeats 4000000 in
theorem comp13 : compFun Try.prog Try.f13 2 [0, 1, 2, 4, 5, 6, 7, 29, 40] [33] true ([[0, 6, 7, 8]], [[0, 6, 7, 8], [0, 1, 2, 5, 6, 7, 8]]) = some mf13 := by kernel_rfl
theorem at13 : Try.prog.funcs[13]? = some Try.f13 := by kernel_rfl
def mf14 : MFun := ⟨1, 7, .seq (.region [⟨some 1, .box (.var 0), none⟩, ⟨some 2, .mv (.cst .nilS), none⟩]) (.seq (.seq (.region [⟨none, .load true 5 (.var 1), none⟩, ⟨none, .call (.fn 16) [.tmp 0], none⟩, ⟨some 6, .un .not (.tmp 1), none⟩]) (.cond (.var 6) (.seq (.region [⟨some 2, .mv (.cst .nilS), none⟩]) .ret) .skip)) (.seq (.region [⟨none, .fieldAddr 0 (.var 1), none⟩, ⟨none, .load false 1 (.tmp 0), none⟩, ⟨none, .lenSl (.tmp 1), none⟩, ⟨some 3, .alloc 1 (.int .i64 0), none⟩, ⟨none, .store 1 (.var 3) (.tmp 2), none⟩]) (.seq (.region [⟨some 4, .alloc 1 .nilS, none⟩]) (.seq (.region [⟨some 5, .alloc 1 .nilF, none⟩]) (.seq (.region [⟨none, .makeFunc (.func 34) [] [.var 3, .var 4, .var 1, .var 5], none⟩, ⟨none, .store 1 (.var 5) (.tmp 0), none⟩]) (.seq (.region [⟨none, .load false 1 (.var 5), none⟩, ⟨none, .buildSlice 1 [.cst (.int .i64 0)], none⟩, ⟨none, .call (.tmp 0) [.tmp 1], none⟩]) (.seq (.region [⟨none, .load false 1 (.var 4), none⟩, ⟨some 2, .mv (.tmp 0), none⟩]) .ret))))))), [.tmp 2]⟩
set_option maxHeartbeats 4000000 in
theorem comp14 : compFun Try.prog Try.f14 1 [0, 1, 2, 3, 4, 5, 8] [] false ([], []) = some mf14 := by kernel_rfl
theorem at14 : Try.prog.funcs[14]? = some Try.f14 := by kernel_rfl
def mf16 : MFun := ⟨1, 6, .seq (.region [⟨some 1, .box (.var 0), none⟩, ⟨some 2, .mv (.cst (.bool false)), none⟩]) (.seq (.region [⟨some 3, .alloc 1 .nilF, none⟩, ⟨none, .store 1 (.var 3) (.fn 38), none⟩]) (.seq (.region [⟨none, .fieldAddr 0 (.var 1), none⟩, ⟨none, .load false 1 (.tmp 0), none⟩, ⟨none, .makeFunc (.func 40) [] [.var 3], none⟩, ⟨none, .call (.fn 39) [.tmp 1, .tmp 2], none⟩, ⟨some 4, .mv (.tmp 3), none⟩]) (.seq (.region [⟨none, .load false 1 (.var 3), none⟩, ⟨none, .fieldAddr 1 (.var 1), none⟩, ⟨none, .load false 1 (.tmp 1), none⟩, ⟨none, .call (.tmp 0) [.tmp 2, .cst (.int .i64 10000)], none⟩, ⟨none, .mv (.tmp 3), none⟩, ⟨none, .load false 1 (.var 3), some (.tmp 4, true)⟩, ⟨none, .fieldAddr 2 (.var 1), some (.tmp 4, true)⟩, ⟨none, .load false 1 (.tmp 6), some (.tmp 4, true)⟩, ⟨none, .call (.tmp 5) [.tmp 7, .cst (.int .i64 10000)], some (.tmp 4, true)⟩, ⟨none, .pick (.tmp 4) (.tmp 8) (.cst (.bool false)), none⟩, ⟨none, .mv (.tmp 9), none⟩, ⟨none, .load false 1 (.var 3), some (.tmp 10, true)⟩, ⟨none, .fieldAddr 3 (.var 1), some (.tmp 10, true)⟩, ⟨none, .load false 1 (.tmp 12), some (.tmp 10, true)⟩, ⟨none, .call (.tmp 11) [.tmp 13, .cst (.int .i64 10000)], some (.tmp 10, true)⟩, ⟨none, .pick (.tmp 10) (.tmp 14) (.cst (.bool false)), none⟩, ⟨some 5, .mv (.tmp 15), none⟩]) (.seq (.region [⟨none, .mv (.var 4), none⟩, ⟨none, .un .not (.tmp 0), none⟩, ⟨none, .mv (.tmp 1), none⟩, ⟨none, .mv (.var 5), some (.tmp 2, true)⟩, ⟨none, .pick (.tmp 2) (.tmp 3) (.cst (.bool false)), none⟩, ⟨none, .mv (.tmp 4), none⟩, ⟨none, .fieldAddr 0 (.var 1), some (.tmp 5, true)⟩, ⟨none, .load false 1 (.tmp 6), some (.tmp 5, true)⟩, ⟨none, .lenSl (.tmp 7), some (.tmp 5, true)⟩, ⟨none, .bin .geq (.tmp 8) (.cst (.int .i64 1)), some (.tmp 5, true)⟩, ⟨none, .pick (.tmp 5) (.tmp 9) (.cst (.bool false)), none⟩, ⟨none, .mv (.tmp 10), none⟩, ⟨none, .fieldAddr 0 (.var 1), some (.tmp 11, true)⟩, ⟨none, .load false 1 (.tmp 12), some (.tmp 11, true)⟩, ⟨none, .lenSl (.tmp 13), some (.tmp 11, true)⟩, ⟨none, .bin .leq (.tmp 14) (.cst (.int .i64 4)), some (.tmp 11, true)⟩, ⟨none, .pick (.tmp 11) (.tmp 15) (.cst (.bool false)), none⟩, ⟨none, .mv (.tmp 16), none⟩, ⟨none, .fieldAddr 4 (.var 1), some (.tmp 17, true)⟩, ⟨none, .load false 1 (.tmp 18), some (.tmp 17, true)⟩, ⟨none, .bin .eql (.tmp 19) (.cst (.int .i64 1)), some (.tmp 17, true)⟩, ⟨none, .mv (.tmp 20), some (.tmp 17, true)⟩, ⟨none, .fieldAddr 4 (.var 1), some (.tmp 21, false)⟩, ⟨none, .load false 1 (.tmp 22), some (.tmp 21, false)⟩, ⟨none, .bin .eql (.tmp 23) (.cst (.int .i64 2)), some (.tmp 21, false)⟩, ⟨none, .pick (.tmp 21) (.cst (.bool true)) (.tmp 24), some (.tmp 17, true)⟩, ⟨none, .pick (.tmp 17) (.tmp 25) (.cst (.bool false)), none⟩, ⟨some 2, .mv (.tmp 26), none⟩]) .ret)))), [.tmp 2]⟩
set_option maxHeartbeats 4000000 in
theorem comp16 : compFun Try.prog Try.f16 1 [0, 1, 2, 3, 4, 5] [] true ([], []) = some mf16 := by kernel_rfl
theorem at16 : Try.prog.funcs[16]? = some Try.f16 := by kernel_rfl
def lp19x0 : MC := .seq (.region [⟨some 19, .bin .lss (.var 18) (.var 17), none⟩]) (.seq (.cond (.var 19) .skip (.exit 0)) (.seq (.seq (.block 1 (.seq (.region [⟨none, .mv (.var 18), none⟩, ⟨none, .indexSl 1 (.var 16) (.var 18), none⟩, ⟨none, .load false 1 (.tmp 1), none⟩, ⟨some 8, .mv (.tmp 0), none⟩, ⟨some 9, .mv (.tmp 2), none⟩]) (.seq (.region [⟨none, .mv (.var 9), none⟩, ⟨none, .mv (.var 6), none⟩, ⟨none, .build [.int .i64 0, .int .i64 0, .int .i64 0, .int .i64 0] [(0, (1, .tmp 0)), (2, (1, .tmp 1)), (3, (1, .cst (.int .i64 1)))], none⟩, ⟨some 10, .alloc 4 (.agg [.int .i64 0, .int .i64 0, .int .i64 0, .int .i64 0]), none⟩, ⟨none, .store 4 (.var 10) (.tmp 2), none⟩]) (.seq (.seq (.region [⟨none, .mv (.var 8), none⟩, ⟨none, .bin .add (.tmp 0) (.cst (.int .i64 1)), none⟩, ⟨none, .load false 1 (.var 3), none⟩, ⟨none, .lenSl (.tmp 2), none⟩, ⟨some 20, .bin .lss (.tmp 1) (.tmp 3), none⟩]) (.cond (.var 20) (.region [⟨none, .load false 1 (.var 3), none⟩, ⟨none, .mv (.var 8), none⟩, ⟨none, .bin .add (.tmp 1) (.cst (.int .i64 1)), none⟩, ⟨none, .indexSl 1 (.tmp 0) (.tmp 2), none⟩, ⟨none, .load false 1 (.tmp 3), none⟩, ⟨none, .fieldAddr 1 (.var 10), none⟩, ⟨none, .store 1 (.tmp 5) (.tmp 4), none⟩, ⟨none, .fieldAddr 3 (.var 10), none⟩, ⟨none, .store 1 (.tmp 7) (.cst (.int .i64 0)), none⟩]) .skip)) (.seq (.seq (.region [⟨none, .fieldAddr 4 (.var 2), none⟩, ⟨none, .load false 1 (.tmp 0), none⟩, ⟨none, .bin .eql (.tmp 1) (.cst (.int .i64 2)), none⟩, ⟨none, .mv (.tmp 2), none⟩, ⟨none, .fieldAddr 1 (.var 10), some (.tmp 3, false)⟩, ⟨none, .load false 1 (.tmp 4), some (.tmp 3, false)⟩, ⟨none, .mv (.var 9), some (.tmp 3, false)⟩, ⟨none, .bin .add (.tmp 6) (.cst (.int .i64 1)), some (.tmp 3, false)⟩, ⟨none, .bin .neq (.tmp 5) (.tmp 7), some (.tmp 3, false)⟩, ⟨some 21, .pick (.tmp 3) (.cst (.bool true)) (.tmp 8), none⟩]) (.cond (.var 21) (.region [⟨none, .fieldAddr 2 (.var 10), none⟩, ⟨none, .load false 1 (.tmp 0), none⟩, ⟨none, .fieldAddr 3 (.var 2), none⟩, ⟨none, .load false 1 (.tmp 2), none⟩, ⟨none, .bin .add (.tmp 1) (.tmp 3), none⟩, ⟨none, .fieldAddr 2 (.var 10), none⟩, ⟨none, .store 1 (.tmp 5) (.tmp 4), none⟩]) .skip)) (.region [⟨none, .load true 4 (.var 10), none⟩, ⟨none, .buildF 4 [.tmp 0], none⟩, ⟨none, .call (.fn 45) [.var 7, .tmp 1], none⟩])))))) (.kill [0, 1, 4, 5, 8, 9, 10, 11, 12, 13, 14, 15, 19, 20, 21, 22, 23, 24, 25])) (.region [⟨none, .bin .add (.var 18) (.cst (.int .i64 1)), none⟩, ⟨some 18, .mv (.tmp 0), none⟩])))
def lp19x1 : MC := .seq (.region [⟨some 25, .bin .lss (.var 24) (.var 23), none⟩]) (.seq (.cond (.var 25) .skip (.exit 2)) (.seq (.seq (.block 3 (.seq (.region [⟨none, .mv (.var 24), none⟩, ⟨none, .indexSl 2 (.var 22) (.var 24), none⟩, ⟨none, .load true 2 (.tmp 1), none⟩, ⟨some 13, .alloc 2 (.agg [.int .i64 0, .int .i64 0]), none⟩, ⟨some 12, .mv (.tmp 0), none⟩, ⟨none, .store 2 (.var 13) (.tmp 2), none⟩]) (.seq (.region [⟨none, .mv (.var 11), none⟩, ⟨none, .load false 1 (.var 3), none⟩, ⟨none, .mv (.var 12), none⟩, ⟨none, .bin .add (.tmp 2) (.cst (.int .i64 1)), none⟩, ⟨none, .call (.tmp 0) [.tmp 1, .tmp 3], none⟩, ⟨some 14, .alloc 3 (.agg [.int .i64 0, .int .i64 0, .int .i64 0]), none⟩, ⟨none, .store 3 (.var 14) (.tmp 4), none⟩]) (.region [⟨none, .fieldAddr 0 (.var 14), none⟩, ⟨none, .load false 1 (.tmp 0), none⟩, ⟨none, .fieldAddr 1 (.var 14), none⟩, ⟨none, .load false 1 (.tmp 2), none⟩, ⟨none, .mv (.var 6), none⟩, ⟨none, .fieldAddr 0 (.var 13), none⟩, ⟨none, .load false 1 (.tmp 5), none⟩, ⟨none, .bin .add (.tmp 4) (.tmp 6), none⟩, ⟨none, .fieldAddr 2 (.var 14), none⟩, ⟨none, .load false 1 (.tmp 8), none⟩, ⟨none, .build [.int .i64 0, .int .i64 0, .int .i64 0, .int .i64 0] [(0, (1, .tmp 1)), (1, (1, .tmp 3)), (2, (1, .tmp 7)), (3, (1, .tmp 9))], none⟩, ⟨none, .fieldAddr 1 (.var 14), none⟩, ⟨none, .load false 1 (.tmp 11), none⟩, ⟨none, .fieldAddr 0 (.var 14), none⟩, ⟨none, .load false 1 (.tmp 13), none⟩, ⟨none, .mv (.var 6), none⟩, ⟨none, .fieldAddr 0 (.var 13), none⟩, ⟨none, .load false 1 (.tmp 16), none⟩, ⟨none, .bin .add (.tmp 15) (.tmp 17), none⟩, ⟨none, .fieldAddr 1 (.var 13), none⟩, ⟨none, .load false 1 (.tmp 19), none⟩, ⟨none, .bin .add (.tmp 18) (.tmp 20), none⟩, ⟨none, .un .neg (.tmp 21), none⟩, ⟨none, .fieldAddr 2 (.var 14), none⟩, ⟨none, .load false 1 (.tmp 23), none⟩, ⟨none, .un .neg (.tmp 24), none⟩, ⟨none, .build [.int .i64 0, .int .i64 0, .int .i64 0, .int .i64 0] [(0, (1, .tmp 12)), (1, (1, .tmp 14)), (2, (1, .tmp 22)), (3, (1, .tmp 25))], none⟩, ⟨none, .buildF 4 [.tmp 10, .tmp 26], none⟩, ⟨none, .call (.fn 45) [.var 7, .tmp 27], none⟩])))) (.kill [0, 1, 2, 4, 5, 8, 9, 10, 12, 13, 14, 15, 16, 17, 18, 19, 20, 21, 25])) (.region [⟨none, .bin .add (.var 24) (.cst (.int .i64 1)), none⟩, ⟨some 24, .mv (.tmp 0), none⟩])))
def mf19 : MFun := ⟨2, 26, .seq (.region [⟨some 2, .box (.var 0), none⟩, ⟨some 3, .box (.var 1), none⟩, ⟨some 4, .mv (.cst .nilS), none⟩, ⟨some 5, .mv (.cst (.int .i64 0)), none⟩]) (.seq (.seq (.region [⟨none, .load true 5 (.var 2), none⟩, ⟨none, .call (.fn 14) [.tmp 0], none⟩, ⟨none, .makeFunc (.func 42) [] [.var 3], none⟩, ⟨none, .call (.fn 41) [.tmp 1, .tmp 2], none⟩, ⟨some 15, .un .not (.tmp 3), none⟩]) (.cond (.var 15) (.seq (.region [⟨some 4, .mv (.cst .nilS), none⟩, ⟨some 5, .mv (.cst (.int .i64 130)), none⟩]) .ret) .skip)) (.seq (.region [⟨none, .load true 5 (.var 2), none⟩, ⟨none, .call (.fn 44) [.tmp 0], none⟩, ⟨some 6, .mv (.tmp 1), none⟩]) (.seq (.region [⟨some 7, .alloc 1 .nilS, none⟩]) (.seq (.seq (.region [⟨some 16, .load false 1 (.var 3), none⟩, ⟨some 17, .lenSl (.var 16), none⟩, ⟨some 18, .mv (.cst (.int .i64 0)), none⟩]) (.seq (.block 0 (.loop [0, 1, 4, 5, 8, 9, 10, 11, 12, 13, 14, 15, 19, 20, 21, 22, 23, 24, 25] lp19x0)) (.kill [0, 1, 4, 5, 8, 9, 10, 11, 12, 13, 14, 15, 16, 17, 18, 19, 20, 21, 22, 23, 24, 25]))) (.seq (.region [⟨none, .call (.fn 46) [], none⟩, ⟨none, .fieldAddr 4 (.var 2), none⟩, ⟨none, .load false 1 (.tmp 1), none⟩, ⟨none, .indexVal false 3 1 (.tmp 0) (.tmp 2), none⟩, ⟨some 11, .mv (.tmp 3), none⟩]) (.seq (.seq (.region [⟨none, .fieldAddr 0 (.var 2), none⟩, ⟨some 22, .load false 1 (.tmp 0), none⟩, ⟨some 23, .lenSl (.var 22), none⟩, ⟨some 24, .mv (.cst (.int .i64 0)), none⟩]) (.seq (.block 2 (.loop [0, 1, 2, 4, 5, 8, 9, 10, 12, 13, 14, 15, 16, 17, 18, 19, 20, 21, 25] lp19x1)) (.kill [0, 1, 2, 3, 4, 5, 6, 8, 9, 10, 11, 12, 13, 14, 15, 16, 17, 18, 19, 20, 21, 22, 23, 24, 25]))) (.seq (.region [⟨none, .load false 1 (.var 7), none⟩, ⟨some 4, .mv (.tmp 0), none⟩, ⟨some 5, .mv (.cst (.int .i64 0)), none⟩]) .ret))))))), [.tmp 4, .tmp 5]⟩
def mask19x0 : List Nat := [0, 1, 4, 5, 8, 9, 10, 11, 12, 13, 14, 15, 19, 20, 21, 22, 23, 24, 25]
abbrev st19x0 (v2 v3 v6 v7 v16 v17 v18 : AV) : List AV := [.undef, .undef, v2, v3, .undef, .undef, v6, v7, .undef, .undef, .undef, .undef, .undef, .undef, .undef, .undef, v16, v17, v18, .undef, .undef, .undef, .undef, .undef, .undef, .undef]
theorem cl19x0 {d0 d1 v2 v3 d4 d5 v6 v7 d8 d9 d10 d11 d12 d13 d14 d15 v16 v17 v18 d19 d20 d21 d22 d23 d24 d25 : AV} : clear mask19x0 [d0, d1, v2, v3, d4, d5, v6, v7, d8, d9, d10, d11, d12, d13, d14, d15, v16, v17, v18, d19, d20, d21, d22, d23, d24, d25] = st19x0 v2 v3 v6 v7 v16 v17 v18 := by simp only [mask19x0, clear, List.foldl_cons, List.foldl_nil, List.set_cons_zero, List.set_cons_succ]
theorem go19x0 {E : Env} {fuel : Nat} {A : Arena} {o : Out} {k : List KC} {d0 d1 v2 v3 d4 d5 v6 v7 d8 d9 d10 d11 d12 d13 d14 d15 v16 v17 v18 d19 d20 d21 d22 d23 d24 d25 : AV} (h : iter (evC E fuel lp19x0) mask19x0 fuel (st19x0 v2 v3 v6 v7 v16 v17 v18) A = some o) :
    run E fuel (.code (.loop [0, 1, 4, 5, 8, 9, 10, 11, 12, 13, 14, 15, 19, 20, 21, 22, 23, 24, 25] lp19x0) :: k) [d0, d1, v2, v3, d4, d5, v6, v7, d8, d9, d10, d11, d12, d13, d14, d15, v16, v17, v18, d19, d20, d21, d22, d23, d24, d25] A = after E fuel k o := run_loopC mask19x0 _ _ (by rw [cl19x0]; exact h)
def mask19x1 : List Nat := [0, 1, 2, 4, 5, 8, 9, 10, 12, 13, 14, 15, 16, 17, 18, 19, 20, 21, 25]
abbrev st19x1 (v3 v6 v7 v11 v22 v23 v24 : AV) : List AV := [.undef, .undef, .undef, v3, .undef, .undef, v6, v7, .undef, .undef, .undef, v11, .undef, .undef, .undef, .undef, .undef, .undef, .undef, .undef, .undef, .undef, v22, v23, v24, .undef]
theorem cl19x1 {d0 d1 d2 v3 d4 d5 v6 v7 d8 d9 d10 v11 d12 d13 d14 d15 d16 d17 d18 d19 d20 d21 v22 v23 v24 d25 : AV} : clear mask19x1 [d0, d1, d2, v3, d4, d5, v6, v7, d8, d9, d10, v11, d12, d13, d14, d15, d16, d17, d18, d19, d20, d21, v22, v23, v24, d25] = st19x1 v3 v6 v7 v11 v22 v23 v24 := by simp only [mask19x1, clear, List.foldl_cons, List.foldl_nil, List.set_cons_zero, List.set_cons_succ]
theorem go19x1 {E : Env} {fuel : Nat} {A : Arena} {o : Out} {k : List KC} {d0 d1 d2 v3 d4 d5 v6 v7 d8 d9 d10 v11 d12 d13 d14 d15 d16 d17 d18 d19 d20 d21 v22 v23 v24 d25 : AV} (h : iter (evC E fuel lp19x1) mask19x1 fuel (st19x1 v3 v6 v7 v11 v22 v23 v24) A = some o) :
    run E fuel (.code (.loop [0, 1, 2, 4, 5, 8, 9, 10, 12, 13, 14, 15, 16, 17, 18, 19, 20, 21, 25] lp19x1) :: k) [d0, d1, d2, v3, d4, d5, v6, v7, d8, d9, d10, v11, d12, d13, d14, d15, d16, d17, d18, d19, d20, d21, v22, v23, v24, d25] A = after E fuel k o := run_loopC mask19x1 _ _ (by rw [cl19x1]; exact h)
set_option maxHeartbeats 4000000 in
theorem comp19 : compFun Try.prog Try.f19 2 [0, 1, 2, 3, 4, 5, 6, 7, 8, 9, 10, 11, 12, 13, 14, 19, 22, 23, 24, 25, 36, 53, 69, 70, 71, 72] [46] true ([[0, 1, 4, 5, 8, 9, 10, 11, 12, 13, 14, 15, 19, 20, 21, 22, 23, 24, 25], [0, 1, 2, 4, 5, 8, 9, 10, 12, 13, 14, 15, 16, 17, 18, 19, 20, 21, 25]], [[0, 1, 4, 5, 8, 9, 10, 11, 12, 13, 14, 15, 19, 20, 21, 22, 23, 24, 25], [0, 1, 4, 5, 8, 9, 10, 11, 12, 13, 14, 15, 16, 17, 18, 19, 20, 21, 22, 23, 24, 25], [0, 1, 2, 4, 5, 8, 9, 10, 12, 13, 14, 15, 16, 17, 18, 19, 20, 21, 25], [0, 1, 2, 3, 4, 5, 6, 8, 9, 10, 11, 12, 13, 14, 15, 16, 17, 18, 19, 20, 21, 22, 23, 24, 25]]) = some mf19 := by kernel_rfl
theorem at19 : Try.prog.funcs[19]? = some Try.f19 := by kernel_rfl
def lp21x0 : MC := .seq (.seq (.region [⟨none, .mv (.var 3), none⟩, ⟨none, .mv (.var 0), none⟩, ⟨none, .lenSl (.tmp 1), none⟩, ⟨some 5, .bin .lss (.tmp 0) (.tmp 2), none⟩]) (.cond (.var 5) .skip (.exit 0))) (.seq (.seq (.block 1 (.seq (.region [⟨none, .mv (.var 0), none⟩, ⟨none, .mv (.var 3), none⟩, ⟨none, .indexSl 4 (.tmp 0) (.tmp 1), none⟩, ⟨none, .load true 4 (.tmp 2), none⟩, ⟨none, .mv (.var 1), none⟩, ⟨none, .mv (.var 3), none⟩, ⟨none, .indexSl 4 (.tmp 4) (.tmp 5), none⟩, ⟨none, .load true 4 (.tmp 6), none⟩, ⟨some 6, .eqAgg true [(0, 1), (1, 1), (2, 1), (3, 1)] (.tmp 3) (.tmp 7), none⟩]) (.cond (.var 6) (.seq (.region [⟨some 2, .mv (.cst (.bool false)), none⟩]) .ret) .skip))) (.kill [2, 4, 5, 6])) (.region [⟨none, .mv (.var 3), none⟩, ⟨none, .bin .add (.tmp 0) (.cst (.int .i64 1)), none⟩, ⟨some 3, .mv (.tmp 1), none⟩]))
def mf21 : MFun := ⟨2, 7, .seq (.region [⟨some 2, .mv (.cst (.bool false)), none⟩]) (.seq (.seq (.region [⟨none, .mv (.var 0), none⟩, ⟨none, .lenSl (.tmp 0), none⟩, ⟨none, .mv (.var 1), none⟩, ⟨none, .lenSl (.tmp 2), none⟩, ⟨some 4, .bin .neq (.tmp 1) (.tmp 3), none⟩]) (.cond (.var 4) (.seq (.region [⟨some 2, .mv (.cst (.bool false)), none⟩]) .ret) .skip)) (.seq (.seq (.region [⟨some 3, .mv (.cst (.int .i64 0)), none⟩]) (.seq (.block 0 (.loop [2, 4, 5, 6] lp21x0)) (.kill [0, 1, 2, 3, 4, 5, 6]))) (.seq (.region [⟨some 2, .mv (.cst (.bool true)), none⟩]) .ret))), [.tmp 2]⟩
def mask21x0 : List Nat := [2, 4, 5, 6]
abbrev st21x0 (v0 v1 v3 : AV) : List AV := [v0, v1, .undef, v3, .undef, .undef, .undef]
theorem cl21x0 {v0 v1 d2 v3 d4 d5 d6 : AV} : clear mask21x0 [v0, v1, d2, v3, d4, d5, d6] = st21x0 v0 v1 v3 := by simp only [mask21x0, clear, List.foldl_cons, List.foldl_nil, List.set_cons_zero, List.set_cons_succ]
theorem go21x0 {E : Env} {fuel : Nat} {A : Arena} {o : Out} {k : List KC} {v0 v1 d2 v3 d4 d5 d6 : AV} (h : iter (evC E fuel lp21x0) mask21x0 fuel (st21x0 v0 v1 v3) A = some o) :
    run E fuel (.code (.loop [2, 4, 5, 6] lp21x0) :: k) [v0, v1, d2, v3, d4, d5, d6] A = after E fuel k o := run_loopC mask21x0 _ _ (by rw [cl21x0]; exact h)
set_option maxHeartbeats 4000000 in
theorem comp21 : compFun Try.prog Try.f21 2 [0, 1, 4, 5, 10, 14, 25] [] true ([[2, 4, 5, 6]], [[2, 4, 5, 6], [0, 1, 2, 3, 4, 5, 6]]) = some mf21 := by kernel_rfl
theorem at21 : Try.prog.funcs[21]? = some Try.f21 := by kernel_rfl
def lp22x0 : MC := .seq (.region [⟨some 14, .bin .lss (.var 13) (.var 12), none⟩]) (.seq (.cond (.var 14) .skip (.exit 0)) (.seq (.seq (.block 1 (.seq (.region [⟨none, .indexSl 1 (.var 11) (.var 13), none⟩, ⟨none, .load false 1 (.tmp 0), none⟩, ⟨some 6, .mv (.tmp 1), none⟩]) (.seq (.region [⟨none, .load true 5 (.var 1), none⟩, ⟨none, .mv (.var 6), none⟩, ⟨none, .call (.fn 19) [.tmp 0, .tmp 1], none⟩, ⟨none, .mv (.tmp 2), none⟩, ⟨none, .extract (.tmp 3) 0, none⟩, ⟨none, .extract (.tmp 3) 1, none⟩, ⟨some 7, .mv (.tmp 4), none⟩, ⟨none, .mv (.tmp 5), none⟩]) (.seq (.region [⟨some 8, .mv (.cst (.int .i64 1000000)), none⟩]) (.seq (.seq (.region [⟨none, .fieldAddr 0 (.var 4), none⟩, ⟨none, .load false 1 (.tmp 0), none⟩, ⟨some 15, .bin .gtr (.tmp 1) (.cst (.int .i64 0)), none⟩]) (.cond (.var 15) (.region [⟨none, .fieldAddr 0 (.var 4), none⟩, ⟨none, .load false 1 (.tmp 0), none⟩, ⟨none, .bin .sub (.tmp 1) (.cst (.int .i64 1)), none⟩, ⟨some 8, .mv (.tmp 2), none⟩]) .skip)) (.seq (.seq (.region [⟨none, .mv (.var 8), none⟩, ⟨some 16, .bin .lss (.tmp 0) (.cst (.int .i64 1)), none⟩]) (.cond (.var 16) (.exit 0) .skip)) (.seq (.region [⟨none, .mv (.var 6), none⟩, ⟨none, .lenSl (.tmp 0), none⟩, ⟨none, .mv (.var 7), none⟩, ⟨none, .mv (.var 8), none⟩, ⟨none, .call (.fn 28) [.tmp 1, .tmp 2, .cst (.int .i64 1), .tmp 3], none⟩, ⟨none, .mv (.tmp 4), none⟩, ⟨none, .extract (.tmp 5) 0, none⟩, ⟨none, .extract (.tmp 5) 1, none⟩, ⟨some 9, .mv (.tmp 6), none⟩, ⟨some 10, .mv (.tmp 7), none⟩]) (.seq (.region [⟨some 17, .mv (.var 10), none⟩]) (.cond (.var 17) (.region [⟨none, .mv (.var 9), none⟩, ⟨none, .mv (.var 6), none⟩, ⟨none, .build [.int .i64 0, .nilS, .nilS, .nilS] [(0, (1, .tmp 0)), (1, (1, .tmp 1))], none⟩, ⟨none, .mv (.var 7), none⟩, ⟨none, .store 4 (.var 4) (.tmp 2), none⟩, ⟨some 5, .mv (.tmp 3), none⟩]) .skip))))))))) (.kill [0, 3, 6, 7, 8, 9, 10, 14, 15, 16, 17, 18, 19])) (.region [⟨none, .bin .add (.var 13) (.cst (.int .i64 1)), none⟩, ⟨some 13, .mv (.tmp 0), none⟩])))
def mf22 : MFun := ⟨1, 20, .seq (.region [⟨some 1, .box (.var 0), none⟩, ⟨some 2, .alloc 4 (.agg [.int .i64 0, .nilS, .nilS, .nilS]), none⟩, ⟨some 3, .mv (.cst (.int .i64 0)), none⟩]) (.seq (.region [⟨some 4, .alloc 4 (.agg [.int .i64 0, .nilS, .nilS, .nilS]), none⟩]) (.seq (.region [⟨some 5, .mv (.cst .nilS), none⟩]) (.seq (.seq (.region [⟨none, .load true 5 (.var 1), none⟩, ⟨some 11, .call (.fn 14) [.tmp 0], none⟩, ⟨some 12, .lenSl (.var 11), none⟩, ⟨some 13, .mv (.cst (.int .i64 0)), none⟩]) (.seq (.block 0 (.loop [0, 3, 6, 7, 8, 9, 10, 14, 15, 16, 17, 18, 19] lp22x0)) (.kill [0, 1, 3, 6, 7, 8, 9, 10, 11, 12, 13, 14, 15, 16, 17, 18, 19]))) (.seq (.seq (.region [⟨none, .fieldAddr 0 (.var 4), none⟩, ⟨none, .load false 1 (.tmp 0), none⟩, ⟨some 18, .bin .eql (.tmp 1) (.cst (.int .i64 0)), none⟩]) (.cond (.var 18) (.seq (.region [⟨none, .build [.int .i64 0, .nilS, .nilS, .nilS] [], none⟩, ⟨none, .store 4 (.var 2) (.tmp 0), none⟩, ⟨some 3, .mv (.cst (.int .i64 130)), none⟩]) .ret) .skip)) (.seq (.region [⟨none, .fieldAddr 1 (.var 4), none⟩, ⟨none, .load false 1 (.tmp 0), none⟩, ⟨none, .lenSl (.tmp 1), none⟩, ⟨none, .mv (.var 5), none⟩, ⟨none, .fieldAddr 0 (.var 4), none⟩, ⟨none, .load false 1 (.tmp 4), none⟩, ⟨none, .call (.fn 31) [.tmp 2, .tmp 3, .tmp 5], none⟩, ⟨none, .mv (.tmp 6), none⟩, ⟨none, .extract (.tmp 7) 0, none⟩, ⟨none, .extract (.tmp 7) 1, none⟩, ⟨none, .extract (.tmp 7) 2, none⟩, ⟨none, .fieldAddr 2 (.var 4), none⟩, ⟨none, .store 1 (.tmp 11) (.tmp 8), none⟩]) (.seq (.seq (.region [⟨none, .fieldAddr 0 (.var 4), none⟩, ⟨none, .load false 1 (.tmp 0), none⟩, ⟨some 19, .bin .gtr (.tmp 1) (.cst (.int .i64 1)), none⟩]) (.cond (.var 19) (.region [⟨none, .fieldAddr 1 (.var 4), none⟩, ⟨none, .load false 1 (.tmp 0), none⟩, ⟨none, .lenSl (.tmp 1), none⟩, ⟨none, .mv (.var 5), none⟩, ⟨none, .fieldAddr 0 (.var 4), none⟩, ⟨none, .load false 1 (.tmp 4), none⟩, ⟨none, .bin .sub (.tmp 5) (.cst (.int .i64 1)), none⟩, ⟨none, .call (.fn 31) [.tmp 2, .tmp 3, .tmp 6], none⟩, ⟨none, .mv (.tmp 7), none⟩, ⟨none, .extract (.tmp 8) 0, none⟩, ⟨none, .extract (.tmp 8) 1, none⟩, ⟨none, .extract (.tmp 8) 2, none⟩, ⟨none, .fieldAddr 3 (.var 4), none⟩, ⟨none, .store 1 (.tmp 12) (.tmp 10), none⟩]) .skip)) (.seq (.region [⟨none, .load true 4 (.var 4), none⟩, ⟨none, .store 4 (.var 2) (.tmp 0), none⟩, ⟨some 3, .mv (.cst (.int .i64 0)), none⟩]) .ret))))))), [.cell 2 true 4, .tmp 3]⟩
def mask22x0 : List Nat := [0, 3, 6, 7, 8, 9, 10, 14, 15, 16, 17, 18, 19]
abbrev st22x0 (v1 v2 v4 v5 v11 v12 v13 : AV) : List AV := [.undef, v1, v2, .undef, v4, v5, .undef, .undef, .undef, .undef, .undef, v11, v12, v13, .undef, .undef, .undef, .undef, .undef, .undef]
theorem cl22x0 {d0 v1 v2 d3 v4 v5 d6 d7 d8 d9 d10 v11 v12 v13 d14 d15 d16 d17 d18 d19 : AV} : clear mask22x0 [d0, v1, v2, d3, v4, v5, d6, d7, d8, d9, d10, v11, v12, v13, d14, d15, d16, d17, d18, d19] = st22x0 v1 v2 v4 v5 v11 v12 v13 := by simp only [mask22x0, clear, List.foldl_cons, List.foldl_nil, List.set_cons_zero, List.set_cons_succ]
theorem go22x0 {E : Env} {fuel : Nat} {A : Arena} {o : Out} {k : List KC} {d0 v1 v2 d3 v4 v5 d6 d7 d8 d9 d10 v11 v12 v13 d14 d15 d16 d17 d18 d19 : AV} (h : iter (evC E fuel lp22x0) mask22x0 fuel (st22x0 v1 v2 v4 v5 v11 v12 v13) A = some o) :
    run E fuel (.code (.loop [0, 3, 6, 7, 8, 9, 10, 14, 15, 16, 17, 18, 19] lp22x0) :: k) [d0, v1, v2, d3, v4, v5, d6, d7, d8, d9, d10, v11, v12, v13, d14, d15, d16, d17, d18, d19] A = after E fuel k o := run_loopC mask22x0 _ _ (by rw [cl22x0]; exact h)
set_option maxHeartbeats 4000000 in
theorem comp22 : compFun Try.prog Try.f22 1 [0, 1, 2, 3, 4, 5, 7, 8, 10, 11, 12, 14, 15, 16, 17, 28, 33, 42, 50, 66] [] true ([[0, 3, 6, 7, 8, 9, 10, 14, 15, 16, 17, 18, 19]], [[0, 3, 6, 7, 8, 9, 10, 14, 15, 16, 17, 18, 19], [0, 1, 3, 6, 7, 8, 9, 10, 11, 12, 13, 14, 15, 16, 17, 18, 19]]) = some mf22 := by kernel_rfl
theorem at22 : Try.prog.funcs[22]? = some Try.f22 := by kernel_rfl
def mf26 : MFun := ⟨2, 10, .seq (.region [⟨some 2, .box (.var 0), none⟩, ⟨some 3, .box (.var 1), none⟩, ⟨some 4, .mv (.cst (.bool false)), none⟩]) (.seq (.region [⟨none, .load true 5 (.var 2), none⟩, ⟨none, .fieldAddr 1 (.var 3), none⟩, ⟨none, .load false 1 (.tmp 1), none⟩, ⟨none, .call (.fn 19) [.tmp 0, .tmp 2], none⟩, ⟨none, .mv (.tmp 3), none⟩, ⟨none, .extract (.tmp 4) 0, none⟩, ⟨none, .extract (.tmp 4) 1, none⟩, ⟨some 5, .mv (.tmp 5), none⟩, ⟨some 6, .mv (.tmp 6), none⟩]) (.seq (.region [⟨none, .fieldAddr 1 (.var 3), none⟩, ⟨none, .load false 1 (.tmp 0), none⟩, ⟨none, .lenSl (.tmp 1), none⟩, ⟨some 7, .mv (.tmp 2), none⟩]) (.seq (.seq (.block 0 (.seq (.region [⟨none, .mv (.var 6), none⟩, ⟨none, .bin .neq (.tmp 0) (.cst (.int .i64 0)), none⟩, ⟨none, .mv (.tmp 1), none⟩, ⟨none, .fieldAddr 0 (.var 3), some (.tmp 2, false)⟩, ⟨none, .load false 1 (.tmp 3), some (.tmp 2, false)⟩, ⟨none, .bin .lss (.tmp 4) (.cst (.int .i64 1)), some (.tmp 2, false)⟩, ⟨none, .pick (.tmp 2) (.cst (.bool true)) (.tmp 5), none⟩, ⟨none, .mv (.tmp 6), none⟩, ⟨none, .fieldAddr 0 (.var 3), some (.tmp 7, false)⟩, ⟨none, .load false 1 (.tmp 8), some (.tmp 7, false)⟩, ⟨none, .bin .gtr (.tmp 9) (.cst (.int .i64 1000000)), some (.tmp 7, false)⟩, ⟨none, .pick (.tmp 7) (.cst (.bool true)) (.tmp 10), none⟩, ⟨none, .mv (.tmp 11), none⟩, ⟨none, .mv (.var 7), some (.tmp 12, false)⟩, ⟨none, .mv (.var 5), some (.tmp 12, false)⟩, ⟨none, .fieldAddr 0 (.var 3), some (.tmp 12, false)⟩, ⟨none, .load false 1 (.tmp 15), some (.tmp 12, false)⟩, ⟨none, .fieldAddr 2 (.var 3), some (.tmp 12, false)⟩, ⟨none, .load false 1 (.tmp 17), some (.tmp 12, false)⟩, ⟨none, .call (.fn 32) [.tmp 13, .tmp 14, .tmp 16, .tmp 18], some (.tmp 12, false)⟩, ⟨none, .un .not (.tmp 19), some (.tmp 12, false)⟩, ⟨none, .pick (.tmp 12) (.cst (.bool true)) (.tmp 20), none⟩, ⟨some 8, .mv (.tmp 21), none⟩]) (.cond (.var 8) (.seq (.region [⟨some 4, .mv (.cst (.bool false)), none⟩]) .ret) (.seq (.region [⟨none, .fieldAddr 0 (.var 3), none⟩, ⟨none, .load false 1 (.tmp 0), none⟩, ⟨none, .bin .eql (.tmp 1) (.cst (.int .i64 1)), none⟩, ⟨some 9, .mv (.tmp 2), none⟩]) (.cond (.var 9) (.seq (.region [⟨none, .fieldAddr 3 (.var 3), none⟩, ⟨none, .load false 1 (.tmp 0), none⟩, ⟨none, .lenSl (.tmp 1), none⟩, ⟨none, .bin .eql (.tmp 2) (.cst (.int .i64 0)), none⟩, ⟨some 4, .mv (.tmp 3), none⟩]) .ret) .skip))))) (.kill [0, 1, 2, 4, 6, 8, 9])) (.seq (.region [⟨none, .mv (.var 7), none⟩, ⟨none, .mv (.var 5), none⟩, ⟨none, .fieldAddr 0 (.var 3), none⟩, ⟨none, .load false 1 (.tmp 2), none⟩, ⟨none, .bin .sub (.tmp 3) (.cst (.int .i64 1)), none⟩, ⟨none, .fieldAddr 3 (.var 3), none⟩, ⟨none, .load false 1 (.tmp 5), none⟩, ⟨none, .call (.fn 51) [.tmp 0, .tmp 1, .tmp 4, .tmp 6], none⟩, ⟨some 4, .mv (.tmp 7), none⟩]) .ret)))), [.tmp 4]⟩
set_option maxHeartbeats 4000000 in
theorem comp26 : compFun Try.prog Try.f26 2 [0, 1, 2, 3, 4, 5, 6, 7, 18, 41] [] true ([], [[0, 1, 2, 4, 6, 8, 9]]) = some mf26 := by kernel_rfl
theorem at26 : Try.prog.funcs[26]? = some Try.f26 := by kernel_rfl
def mf33 : MFun := ⟨2, 4, .seq (.region [⟨some 2, .mv (.cst (.int .i64 0)), none⟩]) (.seq (.seq (.region [⟨none, .mv (.var 0), none⟩, ⟨some 3, .bin .lss (.tmp 0) (.cst (.int .i64 0)), none⟩]) (.cond (.var 3) (.region [⟨none, .mv (.var 0), none⟩, ⟨none, .bin .add (.tmp 0) (.cst (.int .i64 1)), none⟩, ⟨none, .un .neg (.tmp 1), none⟩, ⟨some 0, .mv (.tmp 2), none⟩]) .skip)) (.seq (.region [⟨none, .mv (.var 0), none⟩, ⟨none, .mv (.var 1), none⟩, ⟨none, .bin .rem (.tmp 0) (.tmp 1), none⟩, ⟨some 2, .mv (.tmp 2), none⟩]) .ret)), [.tmp 2]⟩
set_option maxHeartbeats 4000000 in
theorem comp33 : compFun Try.prog Try.f33 2 [0, 1, 4, 6] [] true ([], []) = some mf33 := by kernel_rfl
theorem at33 : Try.prog.funcs[33]? = some Try.f33 := by kernel_rfl
def lp34x0 : MC := .seq (.seq (.region [⟨none, .mv (.var 6), none⟩, ⟨none, .load false 1 (.var 1), none⟩, ⟨some 8, .bin .leq (.tmp 0) (.tmp 1), none⟩]) (.cond (.var 8) .skip (.exit 0))) (.seq (.seq (.block 1 (.seq (.region [⟨none, .mv (.var 0), none⟩, ⟨none, .mv (.var 6), none⟩, ⟨none, .call (.fn 35) [.tmp 0, .tmp 1], none⟩, ⟨none, .un .not (.tmp 2), none⟩, ⟨none, .mv (.tmp 3), none⟩, ⟨none, .fieldAddr 4 (.var 3), some (.tmp 4, true)⟩, ⟨none, .load false 1 (.tmp 5), some (.tmp 4, true)⟩, ⟨none, .bin .eql (.tmp 6) (.cst (.int .i64 1)), some (.tmp 4, true)⟩, ⟨none, .mv (.tmp 7), some (.tmp 4, true)⟩, ⟨none, .mv (.var 6), some (.tmp 8, false)⟩, ⟨none, .mv (.var 0), some (.tmp 8, false)⟩, ⟨none, .lenSl (.tmp 10), some (.tmp 8, false)⟩, ⟨none, .bin .eql (.tmp 9) (.tmp 11), some (.tmp 8, false)⟩, ⟨none, .pick (.tmp 8) (.cst (.bool true)) (.tmp 12), some (.tmp 4, true)⟩, ⟨some 9, .pick (.tmp 4) (.tmp 13) (.cst (.bool false)), none⟩]) (.cond (.var 9) (.regionD [] [⟨none, .load false 1 (.var 4), none⟩, ⟨none, .mv (.var 0), none⟩, ⟨none, .call (.fn 36) [.tmp 1], none⟩, ⟨none, .mv (.var 6), none⟩, ⟨none, .buildF 1 [.tmp 3], none⟩, ⟨none, .appendN 1 8 (.tmp 2) (.tmp 4), none⟩, ⟨none, .call (.tmp 0) [.tmp 5], none⟩] [(0, 2), (0, 5)]) .skip))) (.kill [2, 5, 7, 8, 9])) (.region [⟨none, .mv (.var 6), none⟩, ⟨none, .bin .add (.tmp 0) (.cst (.int .i64 1)), none⟩, ⟨some 6, .mv (.tmp 1), none⟩]))
def mf34 : MFun := ⟨5, 10, .seq (.seq (.region [⟨none, .mv (.var 0), none⟩, ⟨none, .lenSl (.tmp 0), none⟩, ⟨none, .load false 1 (.var 1), none⟩, ⟨none, .bin .add (.tmp 2) (.cst (.int .i64 1)), none⟩, ⟨some 7, .bin .eql (.tmp 1) (.tmp 3), none⟩]) (.cond (.var 7) (.seq (.region [⟨none, .load false 1 (.var 1), none⟩, ⟨none, .bin .add (.tmp 0) (.cst (.int .i64 1)), none⟩, ⟨none, .makeSlice 1 8 (.int .i64 0) (.tmp 1) (.tmp 1), none⟩, ⟨some 5, .mv (.tmp 2), none⟩]) (.seq (.region [⟨none, .mv (.var 5), none⟩, ⟨none, .mv (.var 0), none⟩, ⟨none, .copy 1 (.tmp 0) (.tmp 1), none⟩]) (.seq (.region [⟨none, .load false 1 (.var 2), none⟩, ⟨none, .mv (.var 5), none⟩, ⟨none, .buildSlice 1 [.tmp 1], none⟩, ⟨none, .append 1 24 (.tmp 0) (.tmp 2), none⟩, ⟨none, .store 1 (.var 2) (.tmp 3), none⟩]) .ret))) .skip)) (.seq (.region [⟨some 6, .mv (.cst (.int .i64 1)), none⟩]) (.seq (.block 0 (.loop [2, 5, 7, 8, 9] lp34x0)) (.kill [0, 1, 2, 3, 4, 5, 6, 7, 8, 9]))), []⟩
def mask34x0 : List Nat := [2, 5, 7, 8, 9]
abbrev st34x0 (v0 v1 v3 v4 v6 : AV) : List AV := [v0, v1, .undef, v3, v4, .undef, v6, .undef, .undef, .undef]
theorem cl34x0 {v0 v1 d2 v3 v4 d5 v6 d7 d8 d9 : AV} : clear mask34x0 [v0, v1, d2, v3, v4, d5, v6, d7, d8, d9] = st34x0 v0 v1 v3 v4 v6 := by simp only [mask34x0, clear, List.foldl_cons, List.foldl_nil, List.set_cons_zero, List.set_cons_succ]
theorem go34x0 {E : Env} {fuel : Nat} {A : Arena} {o : Out} {k : List KC} {v0 v1 d2 v3 v4 d5 v6 d7 d8 d9 : AV} (h : iter (evC E fuel lp34x0) mask34x0 fuel (st34x0 v0 v1 v3 v4 v6) A = some o) :
    run E fuel (.code (.loop [2, 5, 7, 8, 9] lp34x0) :: k) [v0, v1, d2, v3, v4, d5, v6, d7, d8, d9] A = after E fuel k o := run_loopC mask34x0 _ _ (by rw [cl34x0]; exact h)
set_option maxHeartbeats 4000000 in
theorem comp34 : compFun Try.prog Try.f34 5 [0, 1, 2, 3, 4, 6, 7, 12, 25, 42] [] false ([[2, 5, 7, 8, 9]], [[2, 5, 7, 8, 9], [0, 1, 2, 3, 4, 5, 6, 7, 8, 9]]) = some mf34 := by kernel_rfl
theorem at34 : Try.prog.funcs[34]? = some Try.f34 := by kernel_rfl
def mf35 : MFun := ⟨2, 3, .seq (.region [⟨some 2, .mv (.cst (.bool false)), none⟩]) (.seq (.region [⟨none, .mv (.var 0), none⟩, ⟨none, .mv (.var 1), none⟩, ⟨none, .call (.fn 64) [.tmp 0, .tmp 1], none⟩, ⟨none, .bin .geq (.tmp 2) (.cst (.int .i64 0)), none⟩, ⟨some 2, .mv (.tmp 3), none⟩]) .ret), [.tmp 2]⟩
set_option maxHeartbeats 4000000 in
theorem comp35 : compFun Try.prog Try.f35 2 [0, 1, 4] [] true ([], []) = some mf35 := by kernel_rfl
theorem at35 : Try.prog.funcs[35]? = some Try.f35 := by kernel_rfl
def mf36 : MFun := ⟨1, 2, .seq (.region [⟨some 1, .mv (.cst .nilS), none⟩]) (.seq (.region [⟨none, .mv (.var 0), none⟩, ⟨none, .mv (.var 0), none⟩, ⟨none, .lenSl (.tmp 1), none⟩, ⟨none, .mv (.var 0), none⟩, ⟨none, .lenSl (.tmp 3), none⟩, ⟨none, .sliceM 1 (.tmp 0) none (.tmp 2) (.tmp 4), none⟩, ⟨some 1, .mv (.tmp 5), none⟩]) .ret), [.tmp 1]⟩
set_option maxHeartbeats 4000000 in
theorem comp36 : compFun Try.prog Try.f36 1 [0, 2] [] true ([], []) = some mf36 := by kernel_rfl
theorem at36 : Try.prog.funcs[36]? = some Try.f36 := by kernel_rfl
def mf38 : MFun := ⟨2, 3, .seq (.region [⟨some 2, .mv (.cst (.bool false)), none⟩]) (.seq (.region [⟨none, .mv (.var 0), none⟩, ⟨none, .bin .geq (.tmp 0) (.cst (.int .i64 0)), none⟩, ⟨none, .mv (.tmp 1), none⟩, ⟨none, .mv (.var 0), some (.tmp 2, true)⟩, ⟨none, .mv (.var 1), some (.tmp 2, true)⟩, ⟨none, .bin .leq (.tmp 3) (.tmp 4), some (.tmp 2, true)⟩, ⟨none, .pick (.tmp 2) (.tmp 5) (.cst (.bool false)), none⟩, ⟨some 2, .mv (.tmp 6), none⟩]) .ret), [.tmp 2]⟩
set_option maxHeartbeats 4000000 in
theorem comp38 : compFun Try.prog Try.f38 2 [0, 1, 4] [] true ([], []) = some mf38 := by kernel_rfl
theorem at38 : Try.prog.funcs[38]? = some Try.f38 := by kernel_rfl
def mf39 : MFun := ⟨2, 3, .seq (.region [⟨some 2, .mv (.cst (.bool false)), none⟩]) (.seq (.region [⟨none, .mv (.var 0), none⟩, ⟨none, .mv (.var 1), none⟩, ⟨none, .call (.fn 65) [.tmp 0, .tmp 1], none⟩, ⟨none, .bin .geq (.tmp 2) (.cst (.int .i64 0)), none⟩, ⟨some 2, .mv (.tmp 3), none⟩]) .ret), [.tmp 2]⟩
set_option maxHeartbeats 4000000 in
theorem comp39 : compFun Try.prog Try.f39 2 [0, 1, 4] [] true ([], []) = some mf39 := by kernel_rfl
theorem at39 : Try.prog.funcs[39]? = some Try.f39 := by kernel_rfl
def mf40 : MFun := ⟨2, 4, .seq (.region [⟨some 2, .box (.var 0), none⟩, ⟨some 3, .mv (.cst (.bool false)), none⟩]) (.seq (.region [⟨none, .load false 1 (.var 1), none⟩, ⟨none, .fieldAddr 0 (.var 2), none⟩, ⟨none, .load false 1 (.tmp 1), none⟩, ⟨none, .call (.tmp 0) [.tmp 2, .cst (.int .i64 100000)], none⟩, ⟨none, .un .not (.tmp 3), none⟩, ⟨none, .mv (.tmp 4), none⟩, ⟨none, .load false 1 (.var 1), some (.tmp 5, false)⟩, ⟨none, .fieldAddr 1 (.var 2), some (.tmp 5, false)⟩, ⟨none, .load false 1 (.tmp 7), some (.tmp 5, false)⟩, ⟨none, .call (.tmp 6) [.tmp 8, .cst (.int .i64 100000)], some (.tmp 5, false)⟩, ⟨none, .un .not (.tmp 9), some (.tmp 5, false)⟩, ⟨none, .pick (.tmp 5) (.cst (.bool true)) (.tmp 10), none⟩, ⟨some 3, .mv (.tmp 11), none⟩]) .ret), [.tmp 3]⟩
set_option maxHeartbeats 4000000 in
theorem comp40 : compFun Try.prog Try.f40 2 [0, 1, 2, 3] [] true ([], []) = some mf40 := by kernel_rfl
theorem at40 : Try.prog.funcs[40]? = some Try.f40 := by kernel_rfl
def mf41 : MFun := ⟨2, 3, .seq (.region [⟨some 2, .mv (.cst (.bool false)), none⟩]) (.seq (.region [⟨none, .mv (.var 0), none⟩, ⟨none, .mv (.var 1), none⟩, ⟨none, .call (.fn 66) [.tmp 0, .tmp 1], none⟩, ⟨none, .bin .geq (.tmp 2) (.cst (.int .i64 0)), none⟩, ⟨some 2, .mv (.tmp 3), none⟩]) .ret), [.tmp 2]⟩
set_option maxHeartbeats 4000000 in
theorem comp41 : compFun Try.prog Try.f41 2 [0, 1, 4] [] true ([], []) = some mf41 := by kernel_rfl
theorem at41 : Try.prog.funcs[41]? = some Try.f41 := by kernel_rfl
def mf42 : MFun := ⟨2, 3, .seq (.region [⟨some 2, .mv (.cst (.bool false)), none⟩]) (.seq (.region [⟨none, .mv (.var 0), none⟩, ⟨none, .load false 1 (.var 1), none⟩, ⟨none, .call (.fn 43) [.tmp 0, .tmp 1], none⟩, ⟨some 2, .mv (.tmp 2), none⟩]) .ret), [.tmp 2]⟩
set_option maxHeartbeats 4000000 in
theorem comp42 : compFun Try.prog Try.f42 2 [0, 1, 3] [] true ([], []) = some mf42 := by kernel_rfl
theorem at42 : Try.prog.funcs[42]? = some Try.f42 := by kernel_rfl
def lp43x0 : MC := .seq (.region [⟨some 7, .bin .lss (.var 6) (.var 5), none⟩]) (.seq (.cond (.var 7) .skip (.exit 0)) (.seq (.seq (.block 1 (.seq (.region [⟨none, .mv (.var 6), none⟩, ⟨some 3, .mv (.tmp 0), none⟩]) (.seq (.region [⟨none, .mv (.var 0), none⟩, ⟨none, .mv (.var 3), none⟩, ⟨none, .indexSl 1 (.tmp 0) (.tmp 1), none⟩, ⟨none, .load false 1 (.tmp 2), none⟩, ⟨none, .mv (.var 1), none⟩, ⟨none, .mv (.var 3), none⟩, ⟨none, .indexSl 1 (.tmp 4) (.tmp 5), none⟩, ⟨none, .load false 1 (.tmp 6), none⟩, ⟨some 8, .bin .neq (.tmp 3) (.tmp 7), none⟩]) (.cond (.var 8) (.seq (.region [⟨some 2, .mv (.cst (.bool false)), none⟩]) .ret) .skip)))) (.kill [2, 3, 4, 7, 8])) (.region [⟨none, .bin .add (.var 6) (.cst (.int .i64 1)), none⟩, ⟨some 6, .mv (.tmp 0), none⟩])))
def mf43 : MFun := ⟨2, 9, .seq (.region [⟨some 2, .mv (.cst (.bool false)), none⟩]) (.seq (.seq (.region [⟨none, .mv (.var 0), none⟩, ⟨none, .lenSl (.tmp 0), none⟩, ⟨none, .mv (.var 1), none⟩, ⟨none, .lenSl (.tmp 2), none⟩, ⟨some 4, .bin .neq (.tmp 1) (.tmp 3), none⟩]) (.cond (.var 4) (.seq (.region [⟨some 2, .mv (.cst (.bool false)), none⟩]) .ret) .skip)) (.seq (.seq (.region [⟨none, .mv (.var 0), none⟩, ⟨some 5, .lenSl (.tmp 0), none⟩, ⟨some 6, .mv (.cst (.int .i64 0)), none⟩]) (.seq (.block 0 (.loop [2, 3, 4, 7, 8] lp43x0)) (.kill [0, 1, 2, 3, 4, 5, 6, 7, 8]))) (.seq (.region [⟨some 2, .mv (.cst (.bool true)), none⟩]) .ret))), [.tmp 2]⟩
def mask43x0 : List Nat := [2, 3, 4, 7, 8]
abbrev st43x0 (v0 v1 v5 v6 : AV) : List AV := [v0, v1, .undef, .undef, .undef, v5, v6, .undef, .undef]
theorem cl43x0 {v0 v1 d2 d3 d4 v5 v6 d7 d8 : AV} : clear mask43x0 [v0, v1, d2, d3, d4, v5, v6, d7, d8] = st43x0 v0 v1 v5 v6 := by simp only [mask43x0, clear, List.foldl_cons, List.foldl_nil, List.set_cons_zero, List.set_cons_succ]
theorem go43x0 {E : Env} {fuel : Nat} {A : Arena} {o : Out} {k : List KC} {v0 v1 d2 d3 d4 v5 v6 d7 d8 : AV} (h : iter (evC E fuel lp43x0) mask43x0 fuel (st43x0 v0 v1 v5 v6) A = some o) :
    run E fuel (.code (.loop [2, 3, 4, 7, 8] lp43x0) :: k) [v0, v1, d2, d3, d4, v5, v6, d7, d8] A = after E fuel k o := run_loopC mask43x0 _ _ (by rw [cl43x0]; exact h)
set_option maxHeartbeats 4000000 in
theorem comp43 : compFun Try.prog Try.f43 2 [0, 1, 4, 5, 10, 12, 13, 14, 24] [] true ([[2, 3, 4, 7, 8]], [[2, 3, 4, 7, 8], [0, 1, 2, 3, 4, 5, 6, 7, 8]]) = some mf43 := by kernel_rfl
theorem at43 : Try.prog.funcs[43]? = some Try.f43 := by kernel_rfl
def mf44 : MFun := ⟨1, 4, .seq (.region [⟨some 1, .box (.var 0), none⟩, ⟨some 2, .mv (.cst (.int .i64 0)), none⟩]) (.seq (.seq (.region [⟨none, .fieldAddr 4 (.var 1), none⟩, ⟨none, .load false 1 (.tmp 0), none⟩, ⟨some 3, .bin .eql (.tmp 1) (.cst (.int .i64 2)), none⟩]) (.cond (.var 3) (.seq (.region [⟨none, .fieldAddr 1 (.var 1), none⟩, ⟨none, .load false 1 (.tmp 0), none⟩, ⟨none, .fieldAddr 2 (.var 1), none⟩, ⟨none, .load false 1 (.tmp 2), none⟩, ⟨none, .bin .add (.tmp 1) (.tmp 3), none⟩, ⟨some 2, .mv (.tmp 4), none⟩]) .ret) .skip)) (.seq (.region [⟨none, .fieldAddr 1 (.var 1), none⟩, ⟨none, .load false 1 (.tmp 0), none⟩, ⟨none, .fieldAddr 3 (.var 1), none⟩, ⟨none, .load false 1 (.tmp 2), none⟩, ⟨none, .bin .add (.tmp 1) (.tmp 3), none⟩, ⟨none, .fieldAddr 2 (.var 1), none⟩, ⟨none, .load false 1 (.tmp 5), none⟩, ⟨none, .bin .add (.tmp 4) (.tmp 6), none⟩, ⟨some 2, .mv (.tmp 7), none⟩]) .ret)), [.tmp 2]⟩
set_option maxHeartbeats 4000000 in
theorem comp44 : compFun Try.prog Try.f44 1 [0, 1, 2, 5] [] true ([], []) = some mf44 := by kernel_rfl
theorem at44 : Try.prog.funcs[44]? = some Try.f44 := by kernel_rfl
def mf45 : MFun := ⟨2, 2, .region [⟨none, .mv (.var 0), none⟩, ⟨none, .mv (.var 0), none⟩, ⟨none, .nilCheck (.tmp 1), none⟩, ⟨none, .load false 1 (.tmp 2), none⟩, ⟨none, .mv (.var 1), none⟩, ⟨none, .append 4 32 (.tmp 3) (.tmp 4), none⟩, ⟨none, .nilCheck (.tmp 0), none⟩, ⟨none, .store 1 (.tmp 6) (.tmp 5), none⟩], []⟩
set_option maxHeartbeats 4000000 in
theorem comp45 : compFun Try.prog Try.f45 2 [0, 1] [] true ([], []) = some mf45 := by kernel_rfl
theorem at45 : Try.prog.funcs[45]? = some Try.f45 := by kernel_rfl
def mf46 : MFun := ⟨0, 1, .seq (.region [⟨some 0, .alloc 3 (.agg [.nilF, .nilF, .nilF]), none⟩]) (.seq (.region [⟨none, .build [.nilF, .nilF, .nilF] [(1, (1, .fn 67)), (2, (1, .fn 68))], none⟩, ⟨none, .store 3 (.var 0) (.tmp 0), none⟩]) .ret), [.cell 0 true 3]⟩
set_option maxHeartbeats 4000000 in
theorem comp46 : compFun Try.prog Try.f46 0 [0] [] true ([], []) = some mf46 := by kernel_rfl
theorem at46 : Try.prog.funcs[46]? = some Try.f46 := by kernel_rfl
def lp64x0 : MC := .seq (.region [⟨some 6, .bin .lss (.var 5) (.var 4), none⟩]) (.seq (.cond (.var 6) .skip (.exit 0)) (.seq (.seq (.block 1 (.seq (.region [⟨none, .mv (.var 5), none⟩, ⟨some 3, .mv (.tmp 0), none⟩]) (.seq (.region [⟨none, .mv (.var 1), none⟩, ⟨none, .mv (.var 0), none⟩, ⟨none, .mv (.var 3), none⟩, ⟨none, .indexSl 1 (.tmp 1) (.tmp 2), none⟩, ⟨none, .load false 1 (.tmp 3), none⟩, ⟨some 7, .bin .eql (.tmp 0) (.tmp 4), none⟩]) (.cond (.var 7) (.seq (.region [⟨none, .mv (.var 3), none⟩, ⟨some 2, .mv (.tmp 0), none⟩]) .ret) .skip)))) (.kill [2, 3, 6, 7])) (.region [⟨none, .bin .add (.var 5) (.cst (.int .i64 1)), none⟩, ⟨some 5, .mv (.tmp 0), none⟩])))
def mf64 : MFun := ⟨2, 8, .seq (.region [⟨some 2, .mv (.cst (.int .i64 0)), none⟩]) (.seq (.seq (.region [⟨none, .mv (.var 0), none⟩, ⟨some 4, .lenSl (.tmp 0), none⟩, ⟨some 5, .mv (.cst (.int .i64 0)), none⟩]) (.seq (.block 0 (.loop [2, 3, 6, 7] lp64x0)) (.kill [0, 1, 2, 3, 4, 5, 6, 7]))) (.seq (.region [⟨some 2, .mv (.cst (.int .i64 (-1))), none⟩]) .ret)), [.tmp 2]⟩
def mask64x0 : List Nat := [2, 3, 6, 7]
abbrev st64x0 (v0 v1 v4 v5 : AV) : List AV := [v0, v1, .undef, .undef, v4, v5, .undef, .undef]
theorem cl64x0 {v0 v1 d2 d3 v4 v5 d6 d7 : AV} : clear mask64x0 [v0, v1, d2, d3, v4, v5, d6, d7] = st64x0 v0 v1 v4 v5 := by simp only [mask64x0, clear, List.foldl_cons, List.foldl_nil, List.set_cons_zero, List.set_cons_succ]
theorem go64x0 {E : Env} {fuel : Nat} {A : Arena} {o : Out} {k : List KC} {v0 v1 d2 d3 v4 v5 d6 d7 : AV} (h : iter (evC E fuel lp64x0) mask64x0 fuel (st64x0 v0 v1 v4 v5) A = some o) :
    run E fuel (.code (.loop [2, 3, 6, 7] lp64x0) :: k) [v0, v1, d2, d3, v4, v5, d6, d7] A = after E fuel k o := run_loopC mask64x0 _ _ (by rw [cl64x0]; exact h)
set_option maxHeartbeats 4000000 in
theorem comp64 : compFun Try.prog Try.f64 2 [0, 1, 4, 5, 7, 8, 9, 16] [] true ([[2, 3, 6, 7]], [[2, 3, 6, 7], [0, 1, 2, 3, 4, 5, 6, 7]]) = some mf64 := by kernel_rfl
theorem at64 : Try.prog.funcs[64]? = some Try.f64 := by kernel_rfl
def lp65x0 : MC := .seq (.region [⟨some 6, .bin .lss (.var 5) (.var 4), none⟩]) (.seq (.cond (.var 6) .skip (.exit 0)) (.seq (.seq (.block 1 (.seq (.region [⟨none, .mv (.var 5), none⟩, ⟨some 3, .mv (.tmp 0), none⟩]) (.seq (.region [⟨none, .mv (.var 1), none⟩, ⟨none, .mv (.var 0), none⟩, ⟨none, .mv (.var 3), none⟩, ⟨none, .indexSl 2 (.tmp 1) (.tmp 2), none⟩, ⟨none, .load true 2 (.tmp 3), none⟩, ⟨some 7, .call (.tmp 0) [.tmp 4], none⟩]) (.cond (.var 7) (.seq (.region [⟨none, .mv (.var 3), none⟩, ⟨some 2, .mv (.tmp 0), none⟩]) .ret) .skip)))) (.kill [2, 3, 6, 7])) (.region [⟨none, .bin .add (.var 5) (.cst (.int .i64 1)), none⟩, ⟨some 5, .mv (.tmp 0), none⟩])))
def mf65 : MFun := ⟨2, 8, .seq (.region [⟨some 2, .mv (.cst (.int .i64 0)), none⟩]) (.seq (.seq (.region [⟨none, .mv (.var 0), none⟩, ⟨some 4, .lenSl (.tmp 0), none⟩, ⟨some 5, .mv (.cst (.int .i64 0)), none⟩]) (.seq (.block 0 (.loop [2, 3, 6, 7] lp65x0)) (.kill [0, 1, 2, 3, 4, 5, 6, 7]))) (.seq (.region [⟨some 2, .mv (.cst (.int .i64 (-1))), none⟩]) .ret)), [.tmp 2]⟩
def mask65x0 : List Nat := [2, 3, 6, 7]
abbrev st65x0 (v0 v1 v4 v5 : AV) : List AV := [v0, v1, .undef, .undef, v4, v5, .undef, .undef]
theorem cl65x0 {v0 v1 d2 d3 v4 v5 d6 d7 : AV} : clear mask65x0 [v0, v1, d2, d3, v4, v5, d6, d7] = st65x0 v0 v1 v4 v5 := by simp only [mask65x0, clear, List.foldl_cons, List.foldl_nil, List.set_cons_zero, List.set_cons_succ]
theorem go65x0 {E : Env} {fuel : Nat} {A : Arena} {o : Out} {k : List KC} {v0 v1 d2 d3 v4 v5 d6 d7 : AV} (h : iter (evC E fuel lp65x0) mask65x0 fuel (st65x0 v0 v1 v4 v5) A = some o) :
    run E fuel (.code (.loop [2, 3, 6, 7] lp65x0) :: k) [v0, v1, d2, d3, v4, v5, d6, d7] A = after E fuel k o := run_loopC mask65x0 _ _ (by rw [cl65x0]; exact h)
set_option maxHeartbeats 4000000 in
theorem comp65 : compFun Try.prog Try.f65 2 [0, 1, 4, 5, 7, 8, 9, 16] [] true ([[2, 3, 6, 7]], [[2, 3, 6, 7], [0, 1, 2, 3, 4, 5, 6, 7]]) = some mf65 := by kernel_rfl
theorem at65 : Try.prog.funcs[65]? = some Try.f65 := by kernel_rfl
def lp66x0 : MC := .seq (.region [⟨some 6, .bin .lss (.var 5) (.var 4), none⟩]) (.seq (.cond (.var 6) .skip (.exit 0)) (.seq (.seq (.block 1 (.seq (.region [⟨none, .mv (.var 5), none⟩, ⟨some 3, .mv (.tmp 0), none⟩]) (.seq (.region [⟨none, .mv (.var 1), none⟩, ⟨none, .mv (.var 0), none⟩, ⟨none, .mv (.var 3), none⟩, ⟨none, .indexSl 1 (.tmp 1) (.tmp 2), none⟩, ⟨none, .load false 1 (.tmp 3), none⟩, ⟨some 7, .call (.tmp 0) [.tmp 4], none⟩]) (.cond (.var 7) (.seq (.region [⟨none, .mv (.var 3), none⟩, ⟨some 2, .mv (.tmp 0), none⟩]) .ret) .skip)))) (.kill [2, 3, 6, 7])) (.region [⟨none, .bin .add (.var 5) (.cst (.int .i64 1)), none⟩, ⟨some 5, .mv (.tmp 0), none⟩])))
def mf66 : MFun := ⟨2, 8, .seq (.region [⟨some 2, .mv (.cst (.int .i64 0)), none⟩]) (.seq (.seq (.region [⟨none, .mv (.var 0), none⟩, ⟨some 4, .lenSl (.tmp 0), none⟩, ⟨some 5, .mv (.cst (.int .i64 0)), none⟩]) (.seq (.block 0 (.loop [2, 3, 6, 7] lp66x0)) (.kill [0, 1, 2, 3, 4, 5, 6, 7]))) (.seq (.region [⟨some 2, .mv (.cst (.int .i64 (-1))), none⟩]) .ret)), [.tmp 2]⟩
def mask66x0 : List Nat := [2, 3, 6, 7]
abbrev st66x0 (v0 v1 v4 v5 : AV) : List AV := [v0, v1, .undef, .undef, v4, v5, .undef, .undef]
theorem cl66x0 {v0 v1 d2 d3 v4 v5 d6 d7 : AV} : clear mask66x0 [v0, v1, d2, d3, v4, v5, d6, d7] = st66x0 v0 v1 v4 v5 := by simp only [mask66x0, clear, List.foldl_cons, List.foldl_nil, List.set_cons_zero, List.set_cons_succ]
theorem go66x0 {E : Env} {fuel : Nat} {A : Arena} {o : Out} {k : List KC} {v0 v1 d2 d3 v4 v5 d6 d7 : AV} (h : iter (evC E fuel lp66x0) mask66x0 fuel (st66x0 v0 v1 v4 v5) A = some o) :
    run E fuel (.code (.loop [2, 3, 6, 7] lp66x0) :: k) [v0, v1, d2, d3, v4, v5, d6, d7] A = after E fuel k o := run_loopC mask66x0 _ _ (by rw [cl66x0]; exact h)
set_option maxHeartbeats 4000000 in
theorem comp66 : compFun Try.prog Try.f66 2 [0, 1, 4, 5, 7, 8, 9, 16] [] true ([[2, 3, 6, 7]], [[2, 3, 6, 7], [0, 1, 2, 3, 4, 5, 6, 7]]) = some mf66 := by kernel_rfl
theorem at66 : Try.prog.funcs[66]? = some Try.f66 := by kernel_rfl
def mf67 : MFun := ⟨2, 4, .seq (.region [⟨some 2, .alloc 3 (.agg [.int .i64 0, .int .i64 0, .int .i64 0]), none⟩]) (.seq (.seq (.region [⟨none, .mv (.var 0), none⟩, ⟨none, .mv (.var 1), none⟩, ⟨none, .call (.fn 64) [.tmp 0, .tmp 1], none⟩, ⟨none, .mv (.var 0), none⟩, ⟨none, .mv (.var 1), none⟩, ⟨none, .bin .sub (.tmp 4) (.cst (.int .i64 1)), none⟩, ⟨none, .call (.fn 64) [.tmp 3, .tmp 5], none⟩, ⟨some 3, .bin .lss (.tmp 2) (.tmp 6), none⟩]) (.cond (.var 3) (.seq (.region [⟨none, .mv (.var 1), none⟩, ⟨none, .bin .sub (.tmp 0) (.cst (.int .i64 1)), none⟩, ⟨none, .mv (.var 1), none⟩, ⟨none, .build [.int .i64 0, .int .i64 0, .int .i64 0] [(0, (1, .tmp 1)), (1, (1, .tmp 2)), (2, (1, .cst (.int .i64 1)))], none⟩, ⟨none, .store 3 (.var 2) (.tmp 3), none⟩]) .ret) .skip)) (.seq (.region [⟨none, .mv (.var 1), none⟩, ⟨none, .bin .sub (.tmp 0) (.cst (.int .i64 1)), none⟩, ⟨none, .mv (.var 1), none⟩, ⟨none, .build [.int .i64 0, .int .i64 0, .int .i64 0] [(0, (1, .tmp 1)), (1, (1, .tmp 2)), (2, (1, .cst (.int .i64 0)))], none⟩, ⟨none, .store 3 (.var 2) (.tmp 3), none⟩]) .ret)), [.cell 2 true 3]⟩
set_option maxHeartbeats 4000000 in
theorem comp67 : compFun Try.prog Try.f67 2 [0, 1, 4, 12] [] true ([], []) = some mf67 := by kernel_rfl
theorem at67 : Try.prog.funcs[67]? = some Try.f67 := by kernel_rfl
def mf68 : MFun := ⟨2, 3, .seq (.region [⟨some 2, .alloc 3 (.agg [.int .i64 0, .int .i64 0, .int .i64 0]), none⟩]) (.seq (.region [⟨none, .mv (.var 1), none⟩, ⟨none, .mv (.var 1), none⟩, ⟨none, .build [.int .i64 0, .int .i64 0, .int .i64 0] [(0, (1, .tmp 0)), (1, (1, .tmp 1)), (2, (1, .cst (.int .i64 1)))], none⟩, ⟨none, .store 3 (.var 2) (.tmp 2), none⟩]) .ret), [.cell 2 true 3]⟩
set_option maxHeartbeats 4000000 in
theorem comp68 : compFun Try.prog Try.f68 2 [0, 1, 4] [] true ([], []) = some mf68 := by kernel_rfl
theorem at68 : Try.prog.funcs[68]? = some Try.f68 := by kernel_rfl
end Go.Proofs.Ytemklhljjaniaaa
/-
  Cluster: tools; Valid, work; Index, Contains, Equal, Clip.
-/
namespace Go.Proofs.Ytemklhljjaniaaa
open Go
open Cy (GC geq0 idxZ idxZ_some idxZ_none idxZ_any frz_i frz_b intsA_len)

/-- a cluster tool -/
structure Tool where
  ch : List (Int × Int)
  pick : Int
  place : Int
  travel : Int
  blades : Int
def chA (x : Int × Int) : AV := .agg [.int .i64 x.1, .int .i64 x.2]
def toolA (T : Tool) (chv : AV) : AV := .agg [chv, .int .i64 T.pick, .int .i64 T.place, .int .i64 T.travel, .int .i64 T.blades]
def okCh (x : Int × Int) : Prop := (0 ≤ x.1 ∧ x.1 ≤ 100000) ∧ 0 ≤ x.2 ∧ x.2 ≤ 100000
instance (x : Int × Int) : Decidable (okCh x) := inferInstanceAs (Decidable (_ ∧ _))
def ValidC (T : Tool) : Prop := (∀ x ∈ T.ch, okCh x) ∧ ((0 ≤ T.pick ∧ T.pick ≤ 10000) ∧ (0 ≤ T.place ∧ T.place ≤ 10000) ∧ (0 ≤ T.travel ∧ T.travel ≤ 10000)) ∧ 1 ≤ T.ch.length ∧ T.ch.length ≤ 4 ∧ (T.blades = 1 ∨ T.blades = 2)
instance (T : Tool) : Decidable (ValidC T) := inferInstanceAs (Decidable (_ ∧ _))

/-! ### within -/
def M38 : PModel := fun args => match args with
  | [.int .i64 n, .int .i64 hi] => some (.bool (decide (0 ≤ n) && decide (n ≤ hi)))
  | _ => none
theorem spec38 : PureSpec Try.prog GC 38 M38 := by
  refine PureSpec.of_ev (E := envOf GC []) (envOf_sound lookM_nil) rfl at38 comp38 1 ?_
  intro args r h
  unfold M38 at h
  split at h
  · rename_i n hi
    injection h with h; subst h
    refine ⟨0, ?_⟩
    have b1 : evBin .geq (.int .i64 n) (.int .i64 0) = some (.bool (decide (0 ≤ n))) := by simp [evBin]
    have b2 : evBin .leq (.int .i64 n) (.int .i64 hi) = some (.bool (decide (n ≤ hi))) := by simp [evBin]
    obtain ⟨p, hp⟩ : ∃ p, p = decide (0 ≤ n) := ⟨_, rfl⟩
    obtain ⟨q, hq⟩ : ∃ q, q = decide (n ≤ hi) := ⟨_, rfl⟩
    rw [← hp] at b1 ⊢
    rw [← hq] at b2 ⊢
    rw [evP_run _ _ rfl]
    cases p <;> simp [mf38, b1, b2, -evBin]
  · cases h
def fnIn : AV := .func (.func 38) [] []
def fs40 : List (FuncId × HModel) := [(38, pureH 4 M38)]
@[simp] theorem fs40_38 : lookM fs40 38 = some (pureH 4 M38) := rfl
theorem sound40 : ∀ f M, lookM fs40 f = some M → FnSpecY Try.prog GC f M := lookM_cons (FnSpecY.of_pure spec38 4) lookM_nil
noncomputable def M40 : PModel := fun args => evP (envOf GC fs40) 0 mf40 1 args
theorem spec40 : PureSpec Try.prog GC 40 M40 := PureSpec.of_ev (E := envOf GC fs40) (envOf_sound sound40) rfl at40 comp40 1 fun _ _ h => ⟨0, h⟩
theorem okCh_b (x : Int × Int) : (!decide (okCh x)) = (!(decide (0 ≤ x.1) && decide (x.1 ≤ 100000)) || !(decide (0 ≤ x.2) && decide (x.2 ≤ 100000))) := by
  unfold okCh
  by_cases h1 : 0 ≤ x.1 <;> by_cases h2 : x.1 ≤ 100000 <;> by_cases h3 : 0 ≤ x.2 <;> by_cases h4 : x.2 ≤ 100000 <;> simp [h1, h2, h3, h4]
set_option maxRecDepth 100000 in
theorem M40_eq (x : Int × Int) : M40 [chA x, .fp [fnIn]] = some (.bool (!decide (okCh x))) := by
  obtain ⟨a, b⟩ := x
  rw [okCh_b]
  have m1 : M38 [.int .i64 a, .int .i64 100000] = some (.bool (decide (0 ≤ a) && decide (a ≤ 100000))) := rfl
  have m2 : M38 [.int .i64 b, .int .i64 100000] = some (.bool (decide (0 ≤ b) && decide (b ≤ 100000))) := rfl
  obtain ⟨p, hp⟩ : ∃ p, p = (decide (0 ≤ a) && decide (a ≤ 100000)) := ⟨_, rfl⟩
  obtain ⟨q, hq⟩ : ∃ q, q = (decide (0 ≤ b) && decide (b ≤ 100000)) := ⟨_, rfl⟩
  simp only
  rw [← hp] at m1 ⊢
  rw [← hq] at m2 ⊢
  unfold M40
  rw [evP_run _ _ rfl]
  cases p <;> simp [mf40, chA, fnIn, m1, m2, frz]

/-! ### IndexFunc, ContainsFunc of chambers -/
noncomputable def fs65 : List (FuncId × HModel) := [(40, pureH 4 M40)]
@[simp] theorem fs65_40 : lookM fs65 40 = some (pureH 4 M40) := rfl
theorem sound65 : ∀ f M, lookM fs65 f = some M → FnSpecY Try.prog GC f M := lookM_cons (FnSpecY.of_pure spec40 4) lookM_nil
noncomputable def M65 : PModel := fun args => evP (envOf GC fs65) 300 mf65 1 args
theorem spec65 : PureSpec Try.prog GC 65 M65 := PureSpec.of_ev (E := envOf GC fs65) (envOf_sound sound65) rfl at65 comp65 1 fun _ _ h => ⟨300, h⟩
def wrongC (x : Int × Int) : Bool := !decide (okCh x)
def fnWrong : AV := .func (.func 40) [] [.fp [fnIn]]
set_option maxRecDepth 100000 in
theorem M65_eq {xs : List (Int × Int)} {b : AV} (hb : SlA 2 (xs.map chA) b) (hl : xs.length ≤ 200) : M65 [b, fnWrong] = some (.int .i64 (idxZ wrongC xs)) := by
  have hlen := hb.len
  rw [List.length_map] at hlen
  have round : ∀ (A : Arena) (i : Nat) (hi : i < xs.length), run (envOf GC fs65) 300 [.code lp65x0] (st65x0 b fnWrong (.int .i64 (xs.length : Int)) (.int .i64 (i : Int))) A =
      if wrongC xs[i] = false then some (.normal (st65x0 b fnWrong (.int .i64 (xs.length : Int)) (.int .i64 ((i + 1 : Nat) : Int))) A) else some (.ret [b, fnWrong, .int .i64 (i : Int), .int .i64 (i : Int), .int .i64 (xs.length : Int), .int .i64 (i : Int), .bool true, .bool true] A) := fun A i hi => by
    have he : (xs.map chA)[i]? = some (chA xs[i]) := by simp [hi]
    have x1 := hb.index (A := A) he rfl (by decide) .i64
    have ld : evLoad true 2 A (.fp (cellsOf (chA xs[i]))) = some (chA xs[i]) := rfl
    obtain ⟨C, hC⟩ : ∃ C, C = cellsOf (chA xs[i]) := ⟨_, rfl⟩
    rw [← hC] at x1 ld
    have m := M40_eq xs[i]
    have b1 := lt_nat i xs.length .i64
    rw [decide_eq_true hi] at b1
    have b3 := add1_nat i (by omega)
    have fz : ∀ A, frz A 4 (chA xs[i]) = chA xs[i] := fun A => rfl
    have fz2 : ∀ A, frz A 4 (.fp [fnIn]) = .fp [fnIn] := fun A => rfl
    obtain ⟨i1, hi1⟩ : ∃ i1 : Nat, i1 = i + 1 := ⟨_, rfl⟩
    rw [← hi1] at b3 ⊢
    obtain ⟨d, hd⟩ : ∃ d, d = wrongC xs[i] := ⟨_, rfl⟩
    rw [show (!decide (okCh xs[i])) = d from hd.symm] at m
    rw [← hd]
    obtain ⟨c, hc⟩ : ∃ c, c = chA xs[i] := ⟨_, rfl⟩
    rw [← hc] at m ld fz
    cases d with
    | false => simp [lp65x0, fnWrong, x1, ld, m, fz, fz2, b1, b3, -frz, -evBin, -evIndexSl, -evLenSl, -evLoad]
    | true => simp [lp65x0, fnWrong, x1, ld, m, fz, fz2, b1, -frz, -evBin, -evIndexSl, -evLenSl, -evLoad]
  unfold M65
  rw [evP_run _ _ rfl]
  rcases iter_search (E := envOf GC fs65) (fuel := 300) (a := lp65x0) (mask := mask65x0) (fun i => st65x0 b fnWrong (.int .i64 (xs.length : Int)) (.int .i64 (i : Int))) (fun _ => []) xs.length (fun i => ¬ ∀ hi : i < xs.length, wrongC xs[i] = false)
    (oF := fun i => .ret [b, fnWrong, .int .i64 (i : Int), .int .i64 (i : Int), .int .i64 (xs.length : Int), .int .i64 (i : Int), .bool true, .bool true] []) (oE := .exit 0 ((st65x0 b fnWrong (.int .i64 (xs.length : Int)) (.int .i64 (xs.length : Int))).set 6 (.bool false)) [])
    (fun _ => cl65x0) (fun _ _ _ h => by cases h) (fun _ _ h => by cases h)
    (fun i hi hp => by
      rw [round [] i hi]
      exact if_pos (Classical.not_not.1 hp hi))
    (fun i hi hp => by
      rw [round [] i hi]
      exact if_neg fun h => hp fun _ => h)
    (by simp [lp65x0]) (show xs.length < 300 by omega) with ⟨i, hi, hp, hj, lp⟩ | ⟨hp, lp⟩
  · have lp : iter (evC (envOf GC fs65) 300 lp65x0) mask65x0 300 (st65x0 b fnWrong (.int .i64 (xs.length : Int)) (.int .i64 0)) [] = _ := lp
    have e : idxZ wrongC xs = (i : Int) := idxZ_some hi (by
      cases h' : wrongC xs[i] with
      | true => rfl
      | false => exact absurd (fun _ => h') hp) (fun j hj' => Classical.not_not.1 (hj j hj') (by omega))
    rw [e]
    simp [mf65, hlen, go65x0 lp, -evBin, -evLenSl]
  · have lp : iter (evC (envOf GC fs65) 300 lp65x0) mask65x0 300 (st65x0 b fnWrong (.int .i64 (xs.length : Int)) (.int .i64 0)) [] = _ := lp
    have e : idxZ wrongC xs = -1 := idxZ_none fun i hi => Classical.not_not.1 (hp i hi) hi
    rw [e]
    simp [mf65, hlen, go65x0 lp, -evBin, -evLenSl]
noncomputable def fs39 : List (FuncId × HModel) := [(65, pureH 4 M65)]
@[simp] theorem fs39_65 : lookM fs39 65 = some (pureH 4 M65) := rfl
theorem sound39 : ∀ f M, lookM fs39 f = some M → FnSpecY Try.prog GC f M := lookM_cons (FnSpecY.of_pure spec65 4) lookM_nil
noncomputable def M39 : PModel := fun args => evP (envOf GC fs39) 0 mf39 1 args
theorem spec39 : PureSpec Try.prog GC 39 M39 := PureSpec.of_ev (E := envOf GC fs39) (envOf_sound sound39) rfl at39 comp39 1 fun _ _ h => ⟨0, h⟩
theorem M39_eq {xs : List (Int × Int)} {b : AV} (hb : SlA 2 (xs.map chA) b) (hl : xs.length ≤ 200) : M39 [b, fnWrong] = some (.bool (xs.any wrongC)) := by
  have h := M65_eq hb hl
  have b1 := geq0 (idxZ wrongC xs)
  rw [idxZ_any] at b1
  have f1 : ∀ A n, frz A n b = b := fun A n => hb.frz n
  have f2 : ∀ A, frz A 4 fnWrong = fnWrong := fun A => rfl
  obtain ⟨z, hz⟩ : ∃ z, z = idxZ wrongC xs := ⟨_, rfl⟩
  rw [← hz] at h b1
  unfold M39
  rw [evP_run _ _ rfl]
  simp [mf39, h, b1, f1, f2, frz_b, -evBin, -frz]

/-! ### Valid -/
noncomputable def fs16 : List (FuncId × HModel) := [(38, pureH 4 M38), (39, pureH 4 M39)]
@[simp] theorem fs16_38 : lookM fs16 38 = some (pureH 4 M38) := rfl
@[simp] theorem fs16_39 : lookM fs16 39 = some (pureH 4 M39) := rfl
theorem sound16 : ∀ f M, lookM fs16 f = some M → FnSpecY Try.prog GC f M := lookM_cons (FnSpecY.of_pure spec38 4) (lookM_cons (FnSpecY.of_pure spec39 4) lookM_nil)
noncomputable def M16 : PModel := fun args => evP (envOf GC fs16) 0 mf16 1 args
theorem spec16 : PureSpec Try.prog GC 16 M16 := PureSpec.of_ev (E := envOf GC fs16) (envOf_sound sound16) rfl at16 comp16 1 fun _ _ h => ⟨0, h⟩
theorem valid_b (T : Tool) : decide (ValidC T) = (!(T.ch.any wrongC) && ((decide (0 ≤ T.pick) && decide (T.pick ≤ 10000)) && ((decide (0 ≤ T.place) && decide (T.place ≤ 10000)) && (decide (0 ≤ T.travel) && decide (T.travel ≤ 10000)))) && (decide (1 ≤ T.ch.length) && (decide (T.ch.length ≤ 4) && (decide (T.blades = 1) || decide (T.blades = 2))))) := by
  have e : (!(T.ch.any wrongC)) = decide (∀ x ∈ T.ch, okCh x) := by
    rw [Bool.eq_iff_iff, decide_eq_true_eq, Bool.not_eq_true', List.any_eq_false]
    unfold wrongC
    simp
  rw [e]
  rw [Bool.eq_iff_iff, decide_eq_true_eq]
  unfold ValidC
  simp only [decide_eq_true_eq, Bool.and_eq_true, Bool.or_eq_true]
  constructor
  · rintro ⟨h1, ⟨h2, h3, h4⟩, h5, h6, h7⟩
    exact ⟨⟨h1, h2, h3, h4⟩, h5, h6, h7⟩
  · rintro ⟨⟨h1, h2, h3, h4⟩, h5, h6, h7⟩
    exact ⟨h1, ⟨h2, h3, h4⟩, h5, h6, h7⟩
set_option maxRecDepth 100000 in
set_option maxHeartbeats 4000000 in
theorem M16_eq {T : Tool} {chv : AV} (hb : SlA 2 (T.ch.map chA) chv) (hl : T.ch.length ≤ 200) : M16 [toolA T chv] = some (.bool (decide (ValidC T))) := by
  obtain ⟨ch, pk, pl, tr, bl⟩ := T
  simp only at hb hl
  rw [valid_b]
  simp only
  have hlen := hb.len
  rw [List.length_map] at hlen
  have m := M39_eq hb hl
  have f1 : ∀ A n, frz A n chv = chv := fun A n => hb.frz n
  have m1 : M38 [.int .i64 pk, .int .i64 10000] = some (.bool (decide (0 ≤ pk) && decide (pk ≤ 10000))) := rfl
  have m2 : M38 [.int .i64 pl, .int .i64 10000] = some (.bool (decide (0 ≤ pl) && decide (pl ≤ 10000))) := rfl
  have m3 : M38 [.int .i64 tr, .int .i64 10000] = some (.bool (decide (0 ≤ tr) && decide (tr ≤ 10000))) := rfl
  have b1 : evBin .geq (.int .i64 (ch.length : Int)) (.int .i64 1) = some (.bool (decide (1 ≤ ch.length))) := by simp [evBin]; omega
  have b2 : evBin .leq (.int .i64 (ch.length : Int)) (.int .i64 4) = some (.bool (decide (ch.length ≤ 4))) := by simp [evBin]; omega
  have b3 : evBin .eql (.int .i64 bl) (.int .i64 1) = some (.bool (decide (bl = 1))) := by simp [evBin]
  have b4 : evBin .eql (.int .i64 bl) (.int .i64 2) = some (.bool (decide (bl = 2))) := by simp [evBin]
  have fw : ∀ A : Arena, A[1]? = some (.row 1 false [fnIn]) → frz A 4 (.func (.func 40) [] [.ptr 1 0 0]) = fnWrong := fun A hA => by simp [frz, hA, fnWrong, fnIn]
  have ld0 : ∀ A : Arena, A[0]? = some (.row 5 false [.agg [chv, .int .i64 pk, .int .i64 pl, .int .i64 tr, .int .i64 bl]]) → evLoad false 1 A (.ptr 0 0 0) = some chv ∧ evLoad false 1 A (.ptr 0 0 1) = some (.int .i64 pk) ∧ evLoad false 1 A (.ptr 0 0 2) = some (.int .i64 pl) ∧ evLoad false 1 A (.ptr 0 0 3) = some (.int .i64 tr) ∧ evLoad false 1 A (.ptr 0 0 4) = some (.int .i64 bl) := fun A hA => by
    refine ⟨?_, ?_, ?_, ?_, ?_⟩ <;> simp only [evLoad, hA] <;> rfl
  obtain ⟨l0, l1, l2, l3, l4⟩ := ld0 [.row 5 false [.agg [chv, .int .i64 pk, .int .i64 pl, .int .i64 tr, .int .i64 bl]], .row 1 false [fnIn]] rfl
  have fw' := fw [.row 5 false [.agg [chv, .int .i64 pk, .int .i64 pl, .int .i64 tr, .int .i64 bl]], .row 1 false [fnIn]] rfl
  rw [show toolA ⟨ch, pk, pl, tr, bl⟩ chv = .agg [chv, .int .i64 pk, .int .i64 pl, .int .i64 tr, .int .i64 bl] from rfl]
  unfold fnIn at l0 l1 l2 l3 l4 fw'
  have l5 : evLoad false 1 [.row 5 false [.agg [chv, .int .i64 pk, .int .i64 pl, .int .i64 tr, .int .i64 bl]], .row 1 false [.func (.func 38) [] []]] (.ptr 1 0 0) = some (.func (.func 38) [] []) := rfl
  obtain ⟨d0, h0⟩ : ∃ d, d = ch.any wrongC := ⟨_, rfl⟩
  obtain ⟨d1, h1⟩ : ∃ d, d = (decide (0 ≤ pk) && decide (pk ≤ 10000)) := ⟨_, rfl⟩
  obtain ⟨d2, h2⟩ : ∃ d, d = (decide (0 ≤ pl) && decide (pl ≤ 10000)) := ⟨_, rfl⟩
  obtain ⟨d3, h3⟩ : ∃ d, d = (decide (0 ≤ tr) && decide (tr ≤ 10000)) := ⟨_, rfl⟩
  obtain ⟨d4, h4⟩ : ∃ d, d = decide (1 ≤ ch.length) := ⟨_, rfl⟩
  obtain ⟨d5, h5⟩ : ∃ d, d = decide (ch.length ≤ 4) := ⟨_, rfl⟩
  obtain ⟨d6, h6⟩ : ∃ d, d = decide (bl = 1) := ⟨_, rfl⟩
  obtain ⟨d7, h7⟩ : ∃ d, d = decide (bl = 2) := ⟨_, rfl⟩
  rw [← h0] at m ⊢
  rw [← h1] at m1 ⊢
  rw [← h2] at m2 ⊢
  rw [← h3] at m3 ⊢
  rw [← h4] at b1 ⊢
  rw [← h5] at b2 ⊢
  rw [← h6] at b3 ⊢
  rw [← h7] at b4 ⊢
  unfold M16
  rw [evP_run _ _ rfl]
  cases d1
  · cases d0 <;> simp [mf16, m, m1, f1, fw', l0, l1, l5, frz_i, frz_b, -frz, -evBin, -evLenSl, -evLoad]
  cases d2
  · cases d0 <;> simp [mf16, m, m1, m2, f1, fw', l0, l1, l2, l5, frz_i, frz_b, -frz, -evBin, -evLenSl, -evLoad]
  cases d3
  · cases d0 <;> simp [mf16, m, m1, m2, m3, f1, fw', l0, l1, l2, l3, l5, frz_i, frz_b, -frz, -evBin, -evLenSl, -evLoad]
  cases d0
  rotate_left
  · simp [mf16, m, m1, m2, m3, f1, fw', l0, l1, l2, l3, l5, frz_i, frz_b, -frz, -evBin, -evLenSl, -evLoad]
  cases d4
  · simp [mf16, m, m1, m2, m3, b1, hlen, f1, fw', l0, l1, l2, l3, l5, frz_i, frz_b, -frz, -evBin, -evLenSl, -evLoad]
  cases d5
  · simp [mf16, m, m1, m2, m3, b1, b2, hlen, f1, fw', l0, l1, l2, l3, l5, frz_i, frz_b, -frz, -evBin, -evLenSl, -evLoad]
  cases d6 <;> simp [mf16, m, m1, m2, m3, b1, b2, b3, b4, hlen, f1, fw', l0, l1, l2, l3, l4, l5, frz_i, frz_b, -frz, -evBin, -evLenSl, -evLoad]
end Go.Proofs.Ytemklhljjaniaaa
/-
  Cluster: Index, Contains, Equal, Clip of integers; how long a task lasts.
-/
namespace Go.Proofs.Ytemklhljjaniaaa
open Go
open Cy (GC geq0 idxZ idxZ_some idxZ_none idxZ_any frz_i frz_b intsA_len)

theorem evEqlI (a b : Int) : evBin .eql (.int .i64 a) (.int .i64 b) = some (.bool (decide (a = b))) := by simp [evBin]
theorem evNeqI (a b : Int) : evBin .neq (.int .i64 a) (.int .i64 b) = some (.bool (decide (a ≠ b))) := by simp [evBin]
theorem evAddI {a b : Int} (h : -9223372036854775808 ≤ a + b ∧ a + b ≤ 9223372036854775807) : evBin .add (.int .i64 a) (.int .i64 b) = some (.int .i64 (a + b)) := by
  simp only [evBin]; rw [if_pos trivial, wrapI h]
theorem evSubI {a b : Int} (h : -9223372036854775808 ≤ a - b ∧ a - b ≤ 9223372036854775807) : evBin .sub (.int .i64 a) (.int .i64 b) = some (.int .i64 (a - b)) := by
  simp only [evBin]; rw [if_pos trivial, wrapI h]
theorem evLeqI (a b : Int) : evBin .leq (.int .i64 a) (.int .i64 b) = some (.bool (decide (a ≤ b))) := by simp [evBin]
theorem evLssI (a b : Int) : evBin .lss (.int .i64 a) (.int .i64 b) = some (.bool (decide (a < b))) := by simp [evBin]

/-! ### Index, Contains -/
noncomputable def M64 : PModel := fun args => evP (envOf GC []) 300 mf64 1 args
theorem spec64 : PureSpec Try.prog GC 64 M64 := PureSpec.of_ev (E := envOf GC []) (envOf_sound lookM_nil) rfl at64 comp64 1 fun _ _ h => ⟨300, h⟩
def isI (v x : Int) : Bool := decide (v = x)
set_option maxRecDepth 100000 in
theorem M64_eq {xs : List Int} {b : AV} (hb : SlA 1 (intsA xs) b) (hl : xs.length ≤ 200) (v : Int) : M64 [b, .int .i64 v] = some (.int .i64 (idxZ (isI v) xs)) := by
  have hlen := hb.len
  rw [intsA_len] at hlen
  have round : ∀ (A : Arena) (i : Nat) (hi : i < xs.length), run (envOf GC []) 300 [.code lp64x0] (st64x0 b (.int .i64 v) (.int .i64 (xs.length : Int)) (.int .i64 (i : Int))) A =
      if isI v xs[i] = false then some (.normal (st64x0 b (.int .i64 v) (.int .i64 (xs.length : Int)) (.int .i64 ((i + 1 : Nat) : Int))) A) else some (.ret [b, .int .i64 v, .int .i64 (i : Int), .int .i64 (i : Int), .int .i64 (xs.length : Int), .int .i64 (i : Int), .bool true, .bool true] A) := fun A i hi => by
    have x1 := hb.int (A := A) _ _ (List.getElem?_eq_getElem hi) .i64
    have m := evEqlI v xs[i]
    have b1 := lt_nat i xs.length .i64
    rw [decide_eq_true hi] at b1
    have b3 := add1_nat i (by omega)
    obtain ⟨i1, hi1⟩ : ∃ i1 : Nat, i1 = i + 1 := ⟨_, rfl⟩
    rw [← hi1] at b3 ⊢
    obtain ⟨d, hd⟩ : ∃ d, d = isI v xs[i] := ⟨_, rfl⟩
    rw [show decide (v = xs[i]) = d from hd.symm] at m
    rw [← hd]
    cases d with
    | false => simp [lp64x0, x1, m, b1, b3, -evBin, -evIndexSl, -evLenSl]
    | true => simp [lp64x0, x1, m, b1, -evBin, -evIndexSl, -evLenSl]
  unfold M64
  rw [evP_run _ _ rfl]
  rcases iter_search (E := envOf GC []) (fuel := 300) (a := lp64x0) (mask := mask64x0) (fun i => st64x0 b (.int .i64 v) (.int .i64 (xs.length : Int)) (.int .i64 (i : Int))) (fun _ => []) xs.length (fun i => ¬ ∀ hi : i < xs.length, isI v xs[i] = false)
    (oF := fun i => .ret [b, .int .i64 v, .int .i64 (i : Int), .int .i64 (i : Int), .int .i64 (xs.length : Int), .int .i64 (i : Int), .bool true, .bool true] []) (oE := .exit 0 ((st64x0 b (.int .i64 v) (.int .i64 (xs.length : Int)) (.int .i64 (xs.length : Int))).set 6 (.bool false)) [])
    (fun _ => cl64x0) (fun _ _ _ h => by cases h) (fun _ _ h => by cases h)
    (fun i hi hp => by
      rw [round [] i hi]
      exact if_pos (Classical.not_not.1 hp hi))
    (fun i hi hp => by
      rw [round [] i hi]
      exact if_neg fun h => hp fun _ => h)
    (by simp [lp64x0]) (show xs.length < 300 by omega) with ⟨i, hi, hp, hj, lp⟩ | ⟨hp, lp⟩
  · have lp : iter (evC (envOf GC []) 300 lp64x0) mask64x0 300 (st64x0 b (.int .i64 v) (.int .i64 (xs.length : Int)) (.int .i64 0)) [] = _ := lp
    have e : idxZ (isI v) xs = (i : Int) := idxZ_some hi (by
      cases h' : isI v xs[i] with
      | true => rfl
      | false => exact absurd (fun _ => h') hp) (fun j hj' => Classical.not_not.1 (hj j hj') (by omega))
    rw [e]
    simp [mf64, hlen, go64x0 lp, -evBin, -evLenSl]
  · have lp : iter (evC (envOf GC []) 300 lp64x0) mask64x0 300 (st64x0 b (.int .i64 v) (.int .i64 (xs.length : Int)) (.int .i64 0)) [] = _ := lp
    have e : idxZ (isI v) xs = -1 := idxZ_none fun i hi => Classical.not_not.1 (hp i hi) hi
    rw [e]
    simp [mf64, hlen, go64x0 lp, -evBin, -evLenSl]
noncomputable def fs35 : List (FuncId × HModel) := [(64, pureH 4 M64)]
@[simp] theorem fs35_64 : lookM fs35 64 = some (pureH 4 M64) := rfl
theorem sound35 : ∀ f M, lookM fs35 f = some M → FnSpecY Try.prog GC f M := lookM_cons (FnSpecY.of_pure spec64 4) lookM_nil
noncomputable def M35 : PModel := fun args => evP (envOf GC fs35) 0 mf35 1 args
theorem spec35 : PureSpec Try.prog GC 35 M35 := PureSpec.of_ev (E := envOf GC fs35) (envOf_sound sound35) rfl at35 comp35 1 fun _ _ h => ⟨0, h⟩
theorem any_isI (v : Int) (xs : List Int) : xs.any (isI v) = decide (v ∈ xs) := by
  rw [Bool.eq_iff_iff, List.any_eq_true, decide_eq_true_eq]
  unfold isI
  constructor
  · rintro ⟨x, hx, h⟩
    rw [of_decide_eq_true h]; exact hx
  · exact fun h => ⟨v, h, by simp⟩
theorem M35_eq {xs : List Int} {b : AV} (hb : SlA 1 (intsA xs) b) (hl : xs.length ≤ 200) (v : Int) : M35 [b, .int .i64 v] = some (.bool (decide (v ∈ xs))) := by
  have h := M64_eq hb hl v
  have b1 := geq0 (idxZ (isI v) xs)
  rw [idxZ_any, any_isI] at b1
  have f1 : ∀ A n, frz A n b = b := fun A n => hb.frz n
  obtain ⟨z, hz⟩ : ∃ z, z = idxZ (isI v) xs := ⟨_, rfl⟩
  rw [← hz] at h b1
  obtain ⟨d, hd⟩ : ∃ d, d = decide (v ∈ xs) := ⟨_, rfl⟩
  rw [← hd] at b1 ⊢
  unfold M35
  rw [evP_run _ _ rfl]
  simp [mf35, h, b1, f1, frz_i, frz_b, -evBin, -frz]

/-! ### Equal -/
noncomputable def M43 : PModel := fun args => evP (envOf GC []) 300 mf43 1 args
theorem spec43 : PureSpec Try.prog GC 43 M43 := PureSpec.of_ev (E := envOf GC []) (envOf_sound lookM_nil) rfl at43 comp43 1 fun _ _ h => ⟨300, h⟩
set_option maxRecDepth 100000 in
theorem M43_eq {xs ys : List Int} {a b : AV} (ha : SlA 1 (intsA xs) a) (hb : SlA 1 (intsA ys) b) (hl : xs.length ≤ 200) : M43 [a, b] = some (.bool (decide (xs = ys))) := by
  have hla := ha.len
  have hlb := hb.len
  rw [intsA_len] at hla hlb
  have b0 : evBin .neq (.int .i64 (xs.length : Int)) (.int .i64 (ys.length : Int)) = some (.bool (decide (xs.length ≠ ys.length))) := by
    rw [evNeqI]
    congr 2
    exact decide_eq_decide.2 (by omega)
  by_cases h0 : xs.length ≠ ys.length
  · rw [decide_eq_true h0] at b0
    rw [decide_eq_false (fun h => h0 (by rw [h]))]
    unfold M43
    rw [evP_run _ _ rfl]
    simp [mf43, hla, hlb, b0, -evBin, -evLenSl]
  have h0 : xs.length = ys.length := Classical.not_not.1 h0
  rw [decide_eq_false (by omega)] at b0
  have round : ∀ (A : Arena) (i : Nat) (hi : i < xs.length), run (envOf GC []) 300 [.code lp43x0] (st43x0 a b (.int .i64 (xs.length : Int)) (.int .i64 (i : Int))) A =
      if xs[i] = ys[i]'(by omega) then some (.normal (st43x0 a b (.int .i64 (xs.length : Int)) (.int .i64 ((i + 1 : Nat) : Int))) A) else some (.ret [a, b, .bool false, .int .i64 (i : Int), .undef, .int .i64 (xs.length : Int), .int .i64 (i : Int), .bool true, .bool true] A) := fun A i hi => by
    have x1 := ha.int (A := A) _ _ (List.getElem?_eq_getElem hi) .i64
    have x2 := hb.int (A := A) _ _ (List.getElem?_eq_getElem (show i < ys.length by omega)) .i64
    have m := evNeqI xs[i] (ys[i]'(by omega))
    have b1 := lt_nat i xs.length .i64
    rw [decide_eq_true hi] at b1
    have b3 := add1_nat i (by omega)
    obtain ⟨i1, hi1⟩ : ∃ i1 : Nat, i1 = i + 1 := ⟨_, rfl⟩
    rw [← hi1] at b3 ⊢
    by_cases hd : xs[i] = ys[i]'(by omega)
    · rw [decide_eq_false (by simpa using hd)] at m
      rw [if_pos hd]
      simp [lp43x0, x1, x2, m, b1, b3, -evBin, -evIndexSl, -evLenSl]
    · rw [decide_eq_true (by simpa using hd)] at m
      rw [if_neg hd]
      simp [lp43x0, x1, x2, m, b1, -evBin, -evIndexSl, -evLenSl]
  unfold M43
  rw [evP_run _ _ rfl]
  rcases iter_search (E := envOf GC []) (fuel := 300) (a := lp43x0) (mask := mask43x0) (fun i => st43x0 a b (.int .i64 (xs.length : Int)) (.int .i64 (i : Int))) (fun _ => []) xs.length (fun i => ¬ ∀ (hi : i < xs.length), xs[i] = ys[i]'(by omega))
    (oF := fun i => .ret [a, b, .bool false, .int .i64 (i : Int), .undef, .int .i64 (xs.length : Int), .int .i64 (i : Int), .bool true, .bool true] []) (oE := .exit 0 ((st43x0 a b (.int .i64 (xs.length : Int)) (.int .i64 (xs.length : Int))).set 7 (.bool false)) [])
    (fun _ => cl43x0) (fun _ _ _ h => by cases h) (fun _ _ h => by cases h)
    (fun i hi hp => by
      rw [round [] i hi]
      exact if_pos (Classical.not_not.1 hp hi))
    (fun i hi hp => by
      rw [round [] i hi]
      exact if_neg fun h => hp fun _ => h)
    (by simp [lp43x0]) (show xs.length < 300 by omega) with ⟨i, hi, hp, hj, lp⟩ | ⟨hp, lp⟩
  · have lp : iter (evC (envOf GC []) 300 lp43x0) mask43x0 300 (st43x0 a b (.int .i64 (xs.length : Int)) (.int .i64 0)) [] = _ := lp
    rw [decide_eq_false (fun h => hp (fun _ => by subst h; rfl))]
    simp [mf43, hla, hlb, b0, go43x0 lp, -evBin, -evLenSl]
  · have lp : iter (evC (envOf GC []) 300 lp43x0) mask43x0 300 (st43x0 a b (.int .i64 (xs.length : Int)) (.int .i64 0)) [] = _ := lp
    rw [decide_eq_true (List.ext_getElem h0 fun i h1 h2 => Classical.not_not.1 (hp i h1) h1)]
    simp [mf43, hla, hlb, b0, go43x0 lp, -evBin, -evLenSl]

/-! ### Clip -/
noncomputable def H36 : HModel := fun _ => evFun (envOf GC []) 0 mf36
theorem spec36 : FnSpecY Try.prog GC 36 H36 := (evFun_sound (envOf_sound lookM_nil) rfl at36 comp36 PureIn.nil).y
theorem H36_eq (h : Handler) {A : Arena} {id n : Nat} {gr : Bool} {es : List AV} (hA : A[id]? = some (.row 1 gr es)) : H36 h [.sl id 0 n] A = some (.csl id 0 n, A) := by
  unfold H36
  rw [evFun_run _ _ rfl]
  have e : evSliceM 1 A none (.int .i64 (n : Int)) (.int .i64 (n : Int)) (.sl id 0 n) = some (.csl id 0 n) := by
    simp [evSliceM, evSliceSl, hA, evBounds, loB, hiB]
  simp [mf36, e, -evSliceM, pack]

/-! ### how long a task lasts -/
noncomputable def M44 : PModel := fun args => evP (envOf GC []) 0 mf44 1 args
theorem spec44 : PureSpec Try.prog GC 44 M44 := PureSpec.of_ev (E := envOf GC []) (envOf_sound lookM_nil) rfl at44 comp44 1 fun _ _ h => ⟨0, h⟩
def workT (T : Tool) : Int := if T.blades = 2 then T.pick + T.place else T.pick + T.travel + T.place
set_option maxRecDepth 100000 in
theorem M44_eq {T : Tool} (chv : AV) (h : ValidC T) : M44 [toolA T chv] = some (.int .i64 (workT T)) := by
  obtain ⟨_, ⟨h1, h2, h3⟩, _⟩ := h
  obtain ⟨ch, pk, pl, tr, bl⟩ := T
  simp only at h1 h2 h3
  have b0 := evEqlI bl 2
  have b1 := evAddI (a := pk) (b := pl) (by omega)
  have b2 := evAddI (a := pk) (b := tr) (by omega)
  have b3 := evAddI (a := pk + tr) (b := pl) (by omega)
  rw [show toolA ⟨ch, pk, pl, tr, bl⟩ chv = .agg [chv, .int .i64 pk, .int .i64 pl, .int .i64 tr, .int .i64 bl] from rfl]
  have l : ∀ A : Arena, A[0]? = some (.row 5 false [.agg [chv, .int .i64 pk, .int .i64 pl, .int .i64 tr, .int .i64 bl]]) → evLoad false 1 A (.ptr 0 0 1) = some (.int .i64 pk) ∧ evLoad false 1 A (.ptr 0 0 2) = some (.int .i64 pl) ∧ evLoad false 1 A (.ptr 0 0 3) = some (.int .i64 tr) ∧ evLoad false 1 A (.ptr 0 0 4) = some (.int .i64 bl) := fun A hA => by
    refine ⟨?_, ?_, ?_, ?_⟩ <;> simp only [evLoad, hA] <;> rfl
  obtain ⟨l1, l2, l3, l4⟩ := l [.row 5 false [.agg [chv, .int .i64 pk, .int .i64 pl, .int .i64 tr, .int .i64 bl]]] rfl
  obtain ⟨s1, hs1⟩ : ∃ s, s = pk + pl := ⟨_, rfl⟩
  obtain ⟨s2, hs2⟩ : ∃ s, s = pk + tr := ⟨_, rfl⟩
  obtain ⟨s3, hs3⟩ : ∃ s, s = s2 + pl := ⟨_, rfl⟩
  rw [← hs1] at b1
  rw [← hs2] at b2 b3
  rw [← hs3] at b3
  have e : workT ⟨ch, pk, pl, tr, bl⟩ = if bl = 2 then s1 else s3 := by
    unfold workT; simp only; rw [hs3, hs2, hs1]
  rw [e]
  unfold M44
  rw [evP_run _ _ rfl]
  by_cases hb : bl = 2
  · rw [decide_eq_true hb] at b0
    rw [if_pos hb]
    simp [mf44, b0, b1, l1, l2, l4, -evBin, -evLoad]
  · rw [decide_eq_false hb] at b0
    rw [if_neg hb]
    simp [mf44, b0, b2, b3, l1, l2, l3, l4, -evBin, -evLoad]
end Go.Proofs.Ytemklhljjaniaaa
/-
  Cluster: Orders.
-/
namespace Go.Proofs.Ytemklhljjaniaaa
open Go
open Cy (GC geq0 idxZ idxZ_some idxZ_none idxZ_any frz_i frz_b intsA_len)

/-- the orders that begin with b; one: with one blade -/
def ext (n : Nat) (one : Bool) : Nat → List Int → List (List Int)
  | 0, _ => []
  | k + 1, b => if b.length = n + 1 then [b] else (List.range' 1 n).flatMap fun (i : Nat) => if !decide ((i : Int) ∈ b) && (one || decide (i = b.length)) then ext n one k (b ++ [(i : Int)]) else []
def ordersM (T : Tool) : List (List Int) := if ValidC T then ext T.ch.length (decide (T.blades = 1)) (T.ch.length + 1) [0] else []

theorem ext_len (n : Nat) (one : Bool) (hn : n ≤ 4) : ∀ (k : Nat) (b : List Int), (ext n one (k + 1) b).length ≤ 4 ^ k ∨ b.length + k < n + 1
  | 0, b => by
    unfold ext
    split
    · left; simp
    · by_cases h : b.length + 0 < n + 1
      · exact .inr h
      · left
        rw [List.flatMap_eq_nil_iff.2 fun i _ => by split <;> rfl]
        simp
  | k + 1, b => by
    by_cases h : b.length + (k + 1) < n + 1
    · exact .inr h
    left
    rw [ext]
    split
    · have : 1 ≤ 4 ^ (k + 1) := Nat.one_le_pow _ _ (by omega)
      simpa using this
    · have key : ∀ l : List Nat, (l.flatMap fun (i : Nat) => if !decide ((i : Int) ∈ b) && (one || decide (i = b.length)) then ext n one (k + 1) (b ++ [(i : Int)]) else []).length ≤ l.length * 4 ^ k := fun l => by
        induction l with
        | nil => simp
        | cons i l ih =>
          rw [List.flatMap_cons, List.length_append, List.length_cons, Nat.add_mul, Nat.one_mul]
          have : (if !decide ((i : Int) ∈ b) && (one || decide (i = b.length)) then ext n one (k + 1) (b ++ [(i : Int)]) else []).length ≤ 4 ^ k := by
            split
            · rcases ext_len n one hn k (b ++ [(i : Int)]) with h1 | h1
              · exact h1
              · simp at h1; omega
            · simp
          omega
      refine Nat.le_trans (key _) ?_
      rw [List.length_range', Nat.pow_succ, Nat.mul_comm]
      exact Nat.mul_le_mul_left _ hn

/-! ### rows -/
def plainE : Ent → Prop
  | .row _ _ (e :: _) => (∀ a b c, e ≠ .sl a b c) ∧ e ≠ .nilS
  | _ => False
/-- the arena grows; rows that hold no slices stay -/
def Step (A B : Arena) : Prop := A.length ≤ B.length ∧ ∀ (j : Nat) (e : Ent), A[j]? = some e → plainE e → B[j]? = some e
theorem Step.refl (A : Arena) : Step A A := ⟨Nat.le_refl _, fun _ _ h _ => h⟩
theorem Step.trans {A B C : Arena} (h : Step A B) (k : Step B C) : Step A C := ⟨Nat.le_trans h.1 k.1, fun j e h1 h2 => k.2 j e (h.2 j e h1 h2) h2⟩
theorem Step.app (A : Arena) (X : Arena) : Step A (A ++ X) := ⟨by simp, fun j e h _ => by
  have := (List.getElem?_eq_some_iff.1 h).1
  rw [List.getElem?_append_left this]; exact h⟩
theorem plain_ints {l : List Int} (h : l ≠ []) (s : Nat) (g : Bool) : plainE (.row s g (intsA l)) := by
  cases l with
  | nil => exact absurd rfl h
  | cons x r => simp [plainE, intsA]
theorem not_plain_sl (s : Nat) (g : Bool) (a b c : Nat) (r : List AV) : ¬ plainE (.row s g (.sl a b c :: r)) := fun h => h.1 a b c rfl
def slOf (x : Nat × List Int) : AV := .sl x.1 0 x.2.length
/-- the list of lists under way -/
def OutP (A : Arena) (op : Nat) (v : AV) (pl : List (Nat × List Int)) : Prop :=
  (∀ x ∈ pl, x.2 ≠ [] ∧ A[x.1]? = some (.row 1 false (intsA x.2))) ∧ ((v = .nilS ∧ pl = []) ∨ ∃ id gr, v = .sl id 0 pl.length ∧ id ≠ op ∧ pl ≠ [] ∧ A[id]? = some (.row 1 gr (pl.map slOf)))
def OutAt (A : Arena) (op : Nat) (ll : List (List Int)) : Prop := ∃ v pl, pl.map (·.2) = ll ∧ A[op]? = some (.row 1 false [v]) ∧ OutP A op v pl
theorem OutAt.app {A : Arena} {op : Nat} {ll : List (List Int)} (h : OutAt A op ll) (X : Arena) : OutAt (A ++ X) op ll := by
  obtain ⟨v, pl, h1, h2, h3, h4⟩ := h
  have st := (Step.app A X).2
  have hk : ∀ (j : Nat) (e : Ent), A[j]? = some e → (A ++ X)[j]? = some e := fun j e h => by
    rw [List.getElem?_append_left (List.getElem?_eq_some_iff.1 h).1]; exact h
  refine ⟨v, pl, h1, hk _ _ h2, fun x hx => ⟨(h3 x hx).1, hk _ _ (h3 x hx).2⟩, ?_⟩
  rcases h4 with h4 | ⟨id, gr, h4, h5, h6, h7⟩
  · exact .inl h4
  · exact .inr ⟨id, gr, h4, h5, h6, hk _ _ h7⟩
theorem row_load {A : Arena} {op : Nat} {v : AV} (h : A[op]? = some (.row 1 false [v])) (hv : v = .nilS ∨ ∃ a b c, v = .sl a b c) : evLoad false 1 A (.ptr op 0 0) = some v := by
  rcases hv with rfl | ⟨a, b, c, rfl⟩ <;> simp [h]
theorem OutP.form {A : Arena} {op : Nat} {v : AV} {pl : List (Nat × List Int)} (h : OutP A op v pl) : v = .nilS ∨ ∃ a b c, v = .sl a b c := by
  rcases h.2 with h | ⟨id, gr, h, _⟩
  · exact .inl h.1
  · exact .inr ⟨_, _, _, h⟩

/-- an order is appended -/
theorem OutAt.add {A : Arena} {op : Nat} {ll : List (List Int)} (h : OutAt A op ll) {l : List Int} (hl : l ≠ []) (hb : ll.length ≤ 100000) {r y : Nat} (hr : A[r]? = some (.row 1 false (intsA l))) (hy : A[y]? = some (.row 1 false [.sl r 0 l.length])) (hyo : y ≠ op) :
    ∃ v id n A3, A[op]? = some (.row 1 false [v]) ∧ (v = .nilS ∨ ∃ a b c, v = .sl a b c) ∧ evAppend 1 24 A v (.sl y 0 1) = some (.sl id 0 n, A3) ∧ A3[op]? = some (.row 1 false [v]) ∧
      OutAt (A3.set op (.row 1 false [.sl id 0 n])) op (ll ++ [l]) ∧ Step A (A3.set op (.row 1 false [.sl id 0 n])) := by
  obtain ⟨v, pl, h1, h2, h3⟩ := h
  have hf := h3.form
  obtain ⟨h3, h4⟩ := h3
  have hsrc : srcElems 1 A (.sl y 0 1) = some [.sl r 0 l.length] := by simp [srcElems, hy]
  have hop : op < A.length := (List.getElem?_eq_some_iff.1 h2).1
  have hnp : ¬ plainE (.row 1 false [v]) := by
    rcases hf with rfl | ⟨a, b, c, rfl⟩
    · exact fun h => h.2 rfl
    · exact not_plain_sl _ _ _ _ _ _
  have hne : ∀ j (m : List Int), m ≠ [] → A[j]? = some (.row 1 false (intsA m)) → j ≠ op := fun j m hm hj e => by
    subst e
    rw [h2] at hj
    injection hj with hj
    exact hnp (hj ▸ plain_ints hm 1 false)
  have hll : pl.length = ll.length := by rw [← h1]; simp
  rcases h4 with ⟨rfl, rfl⟩ | ⟨id, gr, rfl, hid, hpl, hrow⟩
  · have ho : (A ++ [Ent.row 1 false [AV.sl r 0 l.length]])[op]? = some (.row 1 false [.nilS]) := by rw [List.getElem?_append_left hop]; exact h2
    refine ⟨.nilS, A.length, 1, A ++ [.row 1 false [.sl r 0 l.length]], h2, .inl rfl, ?_, ho, ?_, ?_⟩
    · unfold evAppend; rw [hsrc]; simp
    · have hset : ∀ j, j ≠ op → ((A ++ [Ent.row 1 false [AV.sl r 0 l.length]]).set op (.row 1 false [.sl A.length 0 1]))[j]? = (A ++ [Ent.row 1 false [AV.sl r 0 l.length]])[j]? := fun j hj => List.getElem?_set_ne (fun e => hj e.symm)
      refine ⟨.sl A.length 0 1, [(r, l)], by rw [← h1]; rfl, by rw [List.getElem?_set_self (by simp; omega)], fun x hx => ?_, .inr ⟨A.length, false, rfl, by omega, by simp, ?_⟩⟩
      · rw [List.mem_singleton] at hx
        subst hx
        refine ⟨hl, ?_⟩
        rw [hset _ (hne _ _ hl hr), List.getElem?_append_left (List.getElem?_eq_some_iff.1 hr).1]
        exact hr
      · rw [hset _ (by omega)]
        simp [slOf]
    · refine ⟨by simp, fun j e hj he => ?_⟩
      have : j ≠ op := fun e' => by
        subst e'; rw [h2] at hj; injection hj with hj; exact hnp (hj ▸ he)
      rw [List.getElem?_set_ne (fun e' => this e'.symm), List.getElem?_append_left (List.getElem?_eq_some_iff.1 hj).1]
      exact hj
  · have hidl : id < A.length := (List.getElem?_eq_some_iff.1 hrow).1
    have hlen : 0 < pl.length := List.length_pos_iff.2 hpl
    have hnp2 : ¬ plainE (.row 1 gr (pl.map slOf)) := by
      cases pl with
      | nil => exact absurd rfl hpl
      | cons x r => exact not_plain_sl _ _ _ _ _ _
    have hnid : ∀ j (m : List Int), m ≠ [] → A[j]? = some (.row 1 false (intsA m)) → j ≠ id := fun j m hm hj e => by
      subst e
      rw [hrow] at hj
      injection hj with hj
      exact hnp2 (hj ▸ plain_ints hm 1 false)
    refine ⟨.sl id 0 pl.length, id, pl.length + 1, A.set id (.row 1 true (pl.map slOf ++ [.sl r 0 l.length])), h2, .inr ⟨_, _, _, rfl⟩, ?_, ?_, ?_, ?_⟩
    · have hz : pl.length ≠ 0 := by omega
      have hb2 : (pl.length + 1) * 24 ≤ 140737488355328 := by omega
      unfold evAppend; rw [hsrc]; simp [hrow, hz, hb2]
    · rw [List.getElem?_set_ne hid]; exact h2
    · have hset : ∀ j, j ≠ op → j ≠ id → ((A.set id (Ent.row 1 true (pl.map slOf ++ [AV.sl r 0 l.length]))).set op (.row 1 false [.sl id 0 (pl.length + 1)]))[j]? = A[j]? := fun j hj hj2 => by
        rw [List.getElem?_set_ne (fun e => hj e.symm), List.getElem?_set_ne (fun e => hj2 e.symm)]
      refine ⟨.sl id 0 (pl.length + 1), pl ++ [(r, l)], by rw [← h1]; simp, by rw [List.getElem?_set_self (by simpa using hop)], fun x hx => ?_, .inr ⟨id, true, by simp, hid, by simp, ?_⟩⟩
      · rcases List.mem_append.1 hx with hx | hx
        · have := h3 x hx
          exact ⟨this.1, by rw [hset _ (hne _ _ this.1 this.2) (hnid _ _ this.1 this.2)]; exact this.2⟩
        · rw [List.mem_singleton] at hx
          subst hx
          exact ⟨hl, by rw [hset _ (hne _ _ hl hr) (hnid _ _ hl hr)]; exact hr⟩
      · rw [List.getElem?_set_ne (fun e => hid e.symm), List.getElem?_set_self hidl, List.map_append]
        rfl
    · refine ⟨by simp, fun j e hj he => ?_⟩
      have n1 : j ≠ op := fun e' => by
        subst e'; rw [h2] at hj; injection hj with hj; exact hnp (hj ▸ he)
      have n2 : j ≠ id := fun e' => by
        subst e'; rw [hrow] at hj; injection hj with hj; exact hnp2 (hj ▸ he)
      rw [List.getElem?_set_ne (fun e => n1 e.symm), List.getElem?_set_ne (fun e => n2 e.symm)]
      exact hj
end Go.Proofs.Ytemklhljjaniaaa
/-
  Cluster: Orders, the recursion.
-/
namespace Go.Proofs.Ytemklhljjaniaaa
open Go
open Cy (GC geq0 idxZ idxZ_some idxZ_none idxZ_any frz_i frz_b intsA_len)

def self34 (np op cp ep : Nat) : AV := .func (.func 34) [] [.ptr np 0 0, .ptr op 0 0, .ptr cp 0 0, .ptr ep 0 0]
structure X34 (A : Arena) (np op cp ep n : Nat) (T : Tool) (chv : AV) : Prop where
  hn : A[np]? = some (.row 1 false [.int .i64 (n : Int)])
  hc : A[cp]? = some (.row 5 false [toolA T chv])
  he : A[ep]? = some (.row 1 false [self34 np op cp ep])
theorem X34.step {A B : Arena} {np op cp ep n : Nat} {T : Tool} {chv : AV} (h : X34 A np op cp ep n T chv) (s : Step A B) : X34 B np op cp ep n T chv :=
  ⟨s.2 _ _ h.hn (by simp [plainE]), s.2 _ _ h.hc (by simp [plainE, toolA]), s.2 _ _ h.he (by simp [plainE, self34])⟩

noncomputable def fsL34 : List (FuncId × HModel) := [(35, pureH 4 M35), (36, H36)]
noncomputable def H34 : Nat → HModel
  | 0 => fun h => evFun (envY GC fsL34 h) 40 mf34
  | k + 1 => fun h => evFun (envY GC ((34, H34 k) :: fsL34) h) 40 mf34
theorem soundL34 : ∀ f M, lookM fsL34 f = some M → FnSpecY Try.prog GC f M := lookM_cons (FnSpecY.of_pure spec35 4) (lookM_cons spec36 lookM_nil)
theorem spec34 : ∀ k, FnSpecY Try.prog GC 34 (H34 k)
  | 0 => evFun_soundY soundL34 at34 comp34
  | k + 1 => evFun_soundY (lookM_cons (spec34 k) soundL34) at34 comp34

theorem frz_ints {A : Arena} {id : Nat} {g : Bool} {b : List Int} (h : A[id]? = some (.row 1 g (intsA b))) (n : Nat) : frz A (n + 1) (.sl id 0 b.length) = .fs 1 (intsA b) := by
  have e : ((intsA b).drop 0).take b.length = intsA b := by
    rw [List.drop_zero, ← intsA_len b, List.take_length]
  have hm : ∀ l : List Int, (intsA l).map (frz A n) = intsA l := fun l => by
    unfold intsA
    rw [List.map_map]
    exact List.map_congr_left fun x _ => frz_i A n .i64 x
  simp only [frz, h]
  rw [e, hm]

set_option maxRecDepth 100000 in
theorem leaf34 (fs : List (FuncId × HModel)) (h : Handler) {A : Arena} {np op cp ep n id : Nat} {T : Tool} {chv : AV} (hX : X34 A np op cp ep n T chv) {ll : List (List Int)} (ho : OutAt A op ll) {b : List Int} (hb : A[id]? = some (.row 1 false (intsA b))) (hlen : b.length = n + 1) (hn4 : n ≤ 4) (hll : ll.length ≤ 100000) :
    ∃ B, evFun (envY GC fs h) 40 mf34 [.sl id 0 b.length, .ptr np 0 0, .ptr op 0 0, .ptr cp 0 0, .ptr ep 0 0] A = some (.tup [], B) ∧ OutAt B op (ll ++ [b]) ∧ Step A B := by
  have hbne : b ≠ [] := fun e => by rw [e] at hlen; simp at hlen
  have l0 : evLoad false 1 A (.ptr np 0 0) = some (.int .i64 (n : Int)) := by simp [hX.hn]
  have b1 := add1_nat n (by omega)
  have b2 : evBin .eql (.int .i64 (b.length : Int)) (.int .i64 ((n + 1 : Nat) : Int)) = some (.bool true) := by rw [evEqlI, decide_eq_true (by omega)]
  have e1 : evMake 1 8 (.int .i64 0) A (.int .i64 ((n + 1 : Nat) : Int)) (.int .i64 ((n + 1 : Nat) : Int)) = some (.sl A.length 0 b.length, A ++ [.row 1 false (List.replicate b.length (.int .i64 0))]) := by
    rw [hlen]
    simp only [evMake]
    rw [if_pos ⟨by omega, by omega, by omega, by omega, rfl, rfl, by omega⟩]
    simp
  have e2 : evCopy 1 (A ++ [.row 1 false (List.replicate b.length (.int .i64 0))]) (.sl A.length 0 b.length) (.sl id 0 b.length) = some (.int .i64 (b.length : Int), A ++ [.row 1 false (intsA b)]) := by
    have hs : srcElems 1 (A ++ [Ent.row 1 false (List.replicate b.length (AV.int .i64 0))]) (.sl id 0 b.length) = some (intsA b) := by
      rw [srcElems_sl (gr := false) (es := intsA b) (by rw [List.getElem?_append_left (List.getElem?_eq_some_iff.1 hb).1]; exact hb)]
      rw [List.drop_zero, ← intsA_len b, List.take_length]
    simp only [evCopy, hs]
    rw [List.getElem?_concat_length]
    simp only
    rw [if_pos ⟨trivial, by omega, trivial⟩, intsA_len, Nat.min_self]
    congr 2
    rw [List.set_append_right _ _ (Nat.le_refl _), Nat.sub_self]
    simp only [List.set_cons_zero, List.take_zero, List.nil_append, Nat.zero_add]
    rw [← intsA_len b, List.take_length, List.drop_of_length_le (by simp), List.append_nil]
  obtain ⟨A1, hA1⟩ : ∃ X, X = A ++ [Ent.row 1 false (intsA b)] := ⟨_, rfl⟩
  have hl1 : A1.length = A.length + 1 := by rw [hA1]; simp
  have e3 : evBuildSlice 1 [.sl A.length 0 b.length] A1 = some (.sl (A.length + 1) 0 1, A1 ++ [.row 1 false [.sl A.length 0 b.length]]) := by
    simp [evBuildSlice, hl1]
  have hop : op < A.length := by obtain ⟨v, pl, _, h2, _⟩ := ho; exact (List.getElem?_eq_some_iff.1 h2).1
  have ho2 : OutAt (A1 ++ [.row 1 false [.sl A.length 0 b.length]]) op ll := by rw [hA1]; exact (ho.app _).app _
  obtain ⟨v, id2, n2, A3, k1, k2, k3, k4, k5, k6⟩ := ho2.add hbne hll (r := A.length) (y := A.length + 1) (by rw [hA1]; simp) (by rw [hA1]; simp) (by omega)
  have l1 : evLoad false 1 A1 (.ptr op 0 0) = some v := row_load (by rw [← k1, List.getElem?_append_left (by omega)]) k2
  have e5 : evStore 1 A3 (.ptr op 0 0) (.sl id2 0 n2) = some (A3.set op (.row 1 false [.sl id2 0 n2])) := by
    rcases k2 with rfl | ⟨_, _, _, rfl⟩ <;> simp [k4]
  obtain ⟨A2, hA2⟩ : ∃ X, X = A1 ++ [Ent.row 1 false [.sl A.length 0 b.length]] := ⟨_, rfl⟩
  obtain ⟨B, hB⟩ : ∃ X, X = A3.set op (.row 1 false [.sl id2 0 n2]) := ⟨_, rfl⟩
  obtain ⟨A0, hA0⟩ : ∃ X, X = A ++ [Ent.row 1 false (List.replicate b.length (AV.int .i64 0))] := ⟨_, rfl⟩
  have hst : Step A A2 := by rw [hA2, hA1, List.append_assoc]; exact Step.app _ _
  rw [← hA2] at e3 k3 k6
  rw [← hB] at e5 k5 k6
  rw [← hA0] at e1 e2
  rw [← hA1] at e2
  refine ⟨B, ?_, k5, hst.trans k6⟩
  rw [evFun_run _ _ rfl]
  obtain ⟨n1, hn1⟩ : ∃ x, x = n + 1 := ⟨_, rfl⟩
  rw [← hn1] at b1 b2 e1
  obtain ⟨bl, hbl⟩ : ∃ x, x = b.length := ⟨_, rfl⟩
  rw [← hbl] at b2 e1 e2 e3 ⊢
  obtain ⟨r1, hr1⟩ : ∃ x, x = A.length := ⟨_, rfl⟩
  rw [← hr1] at e1 e2 e3 k3
  obtain ⟨r2, hr2⟩ : ∃ x, x = r1 + 1 := ⟨_, rfl⟩
  rw [← hr2] at e3 k3
  simp [mf34, l0, l1, b1, b2, e1, e2, e3, k3, e5, -evBin, -evLoad, -evStore, -evMake, -evBuildSlice]

theorem appendN_csl {A : Arena} {id : Nat} {g : Bool} {b : List Int} (h : A[id]? = some (.row 1 g (intsA b))) (hb : b.length ≤ 1000) (x : Int) : evAppendN 1 8 A (.csl id 0 b.length) (.fs 1 [.int .i64 x]) = some (.sl A.length 0 (b.length + 1), A ++ [.row 1 false (intsA (b ++ [x]))]) := by
  have e : ((intsA b).drop 0).take b.length = intsA b := by
    rw [List.drop_zero, ← intsA_len b, List.take_length]
  have hb2 : (b.length + 1) * 8 ≤ 140737488355328 := by omega
  simp only [evAppendN, srcElems_fs, h, e]
  rw [if_pos ⟨trivial, by omega, by omega, by simp, by simpa using hb2⟩]
  simp [intsA]

set_option maxRecDepth 100000 in
set_option maxHeartbeats 1000000 in
theorem round34 {h : Handler} {fs : List (FuncId × HModel)} {H : HModel} (hH : lookM fs 34 = some H) (h35 : lookM fs 35 = some (pureH 4 M35)) (h36 : lookM fs 36 = some H36) {A : Arena} {np op cp ep n id : Nat} {T : Tool} {chv : AV} (hX : X34 A np op cp ep n T chv) {b : List Int} (hb : A[id]? = some (.row 1 false (intsA b))) (hbl : b.length ≤ 100) {i : Nat} (hi : i ≤ n) (hn4 : n ≤ 4) {B : Arena}
    (hr : (!decide ((i : Int) ∈ b) && (decide (T.blades = 1) || decide (i = b.length))) = true → H h [.sl A.length 0 (b.length + 1), .ptr np 0 0, .ptr op 0 0, .ptr cp 0 0, .ptr ep 0 0] (A ++ [.row 1 false (intsA (b ++ [(i : Int)]))]) = some (.tup [], B))
    (hr0 : (!decide ((i : Int) ∈ b) && (decide (T.blades = 1) || decide (i = b.length))) = false → B = A) (hkeep : B[ep]? = A[ep]?) :
    run (envY GC fs h) 40 [.code lp34x0] (st34x0 (.sl id 0 b.length) (.ptr np 0 0) (.ptr cp 0 0) (.ptr ep 0 0) (.int .i64 (i : Int))) A = some (.normal (st34x0 (.sl id 0 b.length) (.ptr np 0 0) (.ptr cp 0 0) (.ptr ep 0 0) (.int .i64 ((i + 1 : Nat) : Int))) B) := by
  obtain ⟨ch, pk, pl, tr, bd⟩ := T
  have l0 : evLoad false 1 A (.ptr np 0 0) = some (.int .i64 (n : Int)) := by simp [hX.hn]
  have hc : A[cp]? = some (.row 5 false [.agg [chv, .int .i64 pk, .int .i64 pl, .int .i64 tr, .int .i64 bd]]) := hX.hc
  have l1 : evLoad false 1 A (.ptr cp 0 4) = some (.int .i64 bd) := by simp [hc]
  have l2 : evLoad false 1 A (.ptr ep 0 0) = some (self34 np op cp ep) := by simp [hX.he, self34]
  have b0 : evBin .leq (.int .i64 (i : Int)) (.int .i64 (n : Int)) = some (.bool true) := by rw [evLeqI, decide_eq_true (by omega)]
  have b3 := add1_nat i (by omega)
  have f1 := frz_ints hb 3
  have f2 : ∀ A, frz A 4 (.int .i64 (i : Int)) = .int .i64 (i : Int) := fun A => frz_i A 4 .i64 i
  have m := M35_eq (xs := b) (b := .fs 1 (intsA b)) (.inr rfl) (by omega) (i : Int)
  have b1 : evBin .eql (.int .i64 bd) (.int .i64 1) = some (.bool (decide (bd = 1))) := evEqlI _ _
  have b2 : evBin .eql (.int .i64 (i : Int)) (.int .i64 (b.length : Int)) = some (.bool (decide (i = b.length))) := by
    rw [evEqlI]; congr 2; exact decide_eq_decide.2 (by omega)
  have c1 := H36_eq h (n := b.length) hb
  have c2 := appendN_csl hb (by omega) (i : Int)
  have ne1 : ¬ ep = A.length := by have := (List.getElem?_eq_some_iff.1 hX.he).1; omega
  have ne2 : ¬ ep = id := fun e => by
    have h1 := hX.he
    rw [e, hb] at h1
    injection h1 with h1
    injection h1 with _ _ h1
    cases b with
    | nil => cases h1
    | cons x r => injection h1 with h1; cases h1
  simp only at hr hr0
  obtain ⟨i1, hi1⟩ : ∃ i1 : Nat, i1 = i + 1 := ⟨_, rfl⟩
  rw [← hi1] at b3 ⊢
  obtain ⟨d1, h1⟩ : ∃ d, d = decide ((i : Int) ∈ b) := ⟨_, rfl⟩
  rw [← h1] at m hr hr0
  obtain ⟨d2, h2⟩ : ∃ d, d = decide (bd = 1) := ⟨_, rfl⟩
  rw [← h2] at b1 hr hr0
  obtain ⟨d3, h3⟩ : ∃ d, d = decide (i = b.length) := ⟨_, rfl⟩
  rw [← h3] at b2 hr hr0
  obtain ⟨A1, hA1⟩ : ∃ X, X = A ++ [Ent.row 1 false (intsA (b ++ [(i : Int)]))] := ⟨_, rfl⟩
  have k1 : A1[ep]? = A[ep]? := by rw [hA1, List.getElem?_append_left (List.getElem?_eq_some_iff.1 hX.he).1]
  rw [← hA1] at c2 hr
  obtain ⟨r, hrr⟩ : ∃ x, x = A.length := ⟨_, rfl⟩
  rw [← hrr] at c2 hr
  obtain ⟨bl, hbl⟩ : ∃ x, x = b.length := ⟨_, rfl⟩
  rw [← hbl] at b2 c1 c2 f1 hr ⊢
  obtain ⟨bl1, hbl1⟩ : ∃ x, x = bl + 1 := ⟨_, rfl⟩
  rw [← hbl1] at c2 hr
  obtain ⟨F, hF⟩ : ∃ x, x = AV.fs 1 (intsA b) := ⟨_, rfl⟩
  rw [← hF] at m f1
  cases d1 with
  | true =>
    have := hr0 rfl; subst this
    cases d2 <;> cases d3 <;> simp [lp34x0, l0, b0, b3, f1, f2, h35, m, -frz, -evBin, -evLoad]
  | false =>
    cases d2 with
    | true =>
      have hr := hr rfl
      simp [lp34x0, l0, l1, l2, b0, b1, b3, f1, f2, h35, h36, hH, m, hc, c1, c2, hr, self34, ne1, ne2, -frz, -evBin, -evLoad]
    | false =>
      cases d3 with
      | true =>
        have hr := hr rfl
        simp [lp34x0, l0, l1, l2, b0, b1, b2, b3, f1, f2, h35, h36, hH, m, hc, c1, c2, hr, self34, ne1, ne2, -frz, -evBin, -evLoad]
      | false =>
        have := hr0 rfl; subst this
        simp [lp34x0, l0, l1, b0, b1, b2, b3, f1, f2, h35, m, hc, -frz, -evBin, -evLoad]

def fE (n : Nat) (one : Bool) (k : Nat) (b : List Int) (i : Nat) : List (List Int) := if !decide ((i : Int) ∈ b) && (one || decide (i = b.length)) then ext n one k (b ++ [(i : Int)]) else []
set_option maxRecDepth 100000 in
theorem ev34 (h : Handler) {np op cp ep n : Nat} {T : Tool} {chv : AV} (hn4 : n ≤ 4) (d : Nat) : ∀ (k : Nat) {A : Arena} {ll : List (List Int)} {id : Nat} {b : List Int}, b.length + k = n + 1 → 1 ≤ b.length → X34 A np op cp ep n T chv → OutAt A op ll → A[id]? = some (.row 1 false (intsA b)) → ll.length + 4 ^ k ≤ 100000 →
    ∃ B, H34 (d + k) h [.sl id 0 b.length, .ptr np 0 0, .ptr op 0 0, .ptr cp 0 0, .ptr ep 0 0] A = some (.tup [], B) ∧ OutAt B op (ll ++ ext n (decide (T.blades = 1)) (k + 1) b) ∧ Step A B
  | 0, A, ll, id, b, hk, hb1, hX, ho, hb, hll => by
    have e : ext n (decide (T.blades = 1)) (0 + 1) b = [b] := by unfold ext; rw [if_pos (by omega)]
    rw [e]
    cases d with
    | zero => exact leaf34 _ h hX ho hb (by omega) hn4 (by omega)
    | succ d => exact leaf34 _ h hX ho hb (by omega) hn4 (by omega)
  | k + 1, A, ll, id, b, hk, hb1, hX, ho, hb, hll => by
    have hbne : b ≠ [] := fun e => by rw [e] at hb1; simp at hb1
    have e : ext n (decide (T.blades = 1)) (k + 1 + 1) b = (List.range' 1 n).flatMap (fE n (decide (T.blades = 1)) (k + 1) b) := by
      rw [ext, if_neg (by omega)]; rfl
    rw [e]
    have loop : ∀ (c i : Nat) (A : Arena) (ll : List (List Int)) (m : Nat), i + c = n + 1 → X34 A np op cp ep n T chv → OutAt A op ll → A[id]? = some (.row 1 false (intsA b)) → ll.length + c * 4 ^ k ≤ 100000 → c < m →
        ∃ B, iter (evC (envY GC ((34, H34 (d + k)) :: fsL34) h) 40 lp34x0) mask34x0 m (st34x0 (.sl id 0 b.length) (.ptr np 0 0) (.ptr cp 0 0) (.ptr ep 0 0) (.int .i64 (i : Int))) A = some (.exit 0 ((st34x0 (.sl id 0 b.length) (.ptr np 0 0) (.ptr cp 0 0) (.ptr ep 0 0) (.int .i64 ((n + 1 : Nat) : Int))).set 8 (.bool false)) B) ∧
          OutAt B op (ll ++ (List.range' i c).flatMap (fE n (decide (T.blades = 1)) (k + 1) b)) ∧ Step A B := by
      intro c
      induction c with
      | zero =>
        intro i A ll m hi hX ho hb hll hm
        obtain ⟨m, rfl⟩ : ∃ j, m = j + 1 := ⟨m - 1, by omega⟩
        refine ⟨A, ?_, by simpa using ho, Step.refl _⟩
        have l0 : evLoad false 1 A (.ptr np 0 0) = some (.int .i64 (n : Int)) := by simp [hX.hn]
        have b0 : evBin .leq (.int .i64 ((n + 1 : Nat) : Int)) (.int .i64 (n : Int)) = some (.bool false) := by rw [evLeqI, decide_eq_false (by omega)]
        obtain rfl : i = n + 1 := by omega
        obtain ⟨i1, hi1⟩ : ∃ i1 : Nat, i1 = n + 1 := ⟨_, rfl⟩
        rw [← hi1] at b0 ⊢
        rw [iter_succ, cl34x0]
        simp [lp34x0, l0, b0, -evBin, -evLoad]
      | succ c ihc =>
        intro i A ll m hi hX ho hb hll hm
        obtain ⟨m, rfl⟩ : ∃ j, m = j + 1 := ⟨m - 1, by omega⟩
        rw [Nat.add_mul, Nat.one_mul] at hll
        have hrow : ∀ (j : Nat) (e : Ent), A[j]? = some e → plainE e → (A ++ [Ent.row 1 false (intsA (b ++ [(i : Int)]))])[j]? = some e := (Step.app A _).2
        have hst := Step.app A [Ent.row 1 false (intsA (b ++ [(i : Int)]))]
        obtain ⟨B, hB1, hB2, hB3, hB4⟩ : ∃ B, ((!decide ((i : Int) ∈ b) && (decide (T.blades = 1) || decide (i = b.length))) = true → H34 (d + k) h [.sl A.length 0 (b.length + 1), .ptr np 0 0, .ptr op 0 0, .ptr cp 0 0, .ptr ep 0 0] (A ++ [.row 1 false (intsA (b ++ [(i : Int)]))]) = some (.tup [], B)) ∧
            ((!decide ((i : Int) ∈ b) && (decide (T.blades = 1) || decide (i = b.length))) = false → B = A) ∧ OutAt B op (ll ++ fE n (decide (T.blades = 1)) (k + 1) b i) ∧ Step A B := by
          by_cases hd : (!decide ((i : Int) ∈ b) && (decide (T.blades = 1) || decide (i = b.length))) = true
          · obtain ⟨B, h1, h2, h3⟩ := ev34 h hn4 d k (A := A ++ [.row 1 false (intsA (b ++ [(i : Int)]))]) (ll := ll) (id := A.length) (b := b ++ [(i : Int)]) (by simp; omega) (by simp) (hX.step hst) (ho.app _) (by simp) (by omega)
            rw [List.length_append, List.length_singleton] at h1
            refine ⟨B, fun _ => h1, fun e => (by rw [hd] at e; cases e), ?_, hst.trans h3⟩
            unfold fE
            rw [if_pos hd]; exact h2
          · refine ⟨A, fun e => absurd e hd, fun _ => rfl, ?_, Step.refl _⟩
            unfold fE
            rw [if_neg hd, List.append_nil]; exact ho
        have hX2 := hX.step hB4
        have hb2 := hB4.2 _ _ hb (plain_ints hbne 1 false)
        have hr := round34 (fs := (34, H34 (d + k)) :: fsL34) (h := h) rfl rfl rfl hX hb (by omega) (i := i) (by omega) hn4 hB1 hB2 (by rw [hX2.he, hX.he])
        have hfl : (fE n (decide (T.blades = 1)) (k + 1) b i).length ≤ 4 ^ k := by
          unfold fE
          split
          · rcases ext_len n (decide (T.blades = 1)) hn4 k (b ++ [(i : Int)]) with h1 | h1
            · exact h1
            · simp at h1; omega
          · simp
        obtain ⟨C, c1, c2, c3⟩ := ihc (i + 1) B _ m (by omega) hX2 hB3 hb2 (by rw [List.length_append]; omega) (by omega)
        refine ⟨C, ?_, ?_, hB4.trans c3⟩
        · rw [iter_succ, cl34x0, hr]
          exact c1
        · rw [List.range'_succ, List.flatMap_cons, ← List.append_assoc]
          exact c2
    have hp : n * 4 ^ k ≤ 4 ^ (k + 1) := by
      rw [Nat.pow_succ, Nat.mul_comm]
      exact Nat.mul_le_mul_left _ hn4
    obtain ⟨B, h1, h2, h3⟩ := loop n 1 A ll 40 (by omega) hX ho hb (by omega) (by omega)
    refine ⟨B, ?_, h2, h3⟩
    have l0 : evLoad false 1 A (.ptr np 0 0) = some (.int .i64 (n : Int)) := by simp [hX.hn]
    have b1 := add1_nat n (by omega)
    have b2 : evBin .eql (.int .i64 (b.length : Int)) (.int .i64 ((n + 1 : Nat) : Int)) = some (.bool false) := by rw [evEqlI, decide_eq_false (by omega)]
    obtain ⟨n1, hn1⟩ : ∃ x, x = n + 1 := ⟨_, rfl⟩
    rw [← hn1] at b1 b2 h1
    rw [show H34 (d + (k + 1)) = fun h => evFun (envY GC ((34, H34 (d + k)) :: fsL34) h) 40 mf34 from rfl]
    simp only
    rw [evFun_run _ _ rfl]
    have h1 : iter (evC (envY GC ((34, H34 (d + k)) :: fsL34) h) 40 lp34x0) mask34x0 40 (st34x0 (.sl id 0 b.length) (.ptr np 0 0) (.ptr cp 0 0) (.ptr ep 0 0) (.int .i64 1)) A = _ := h1
    simp [mf34, l0, b1, b2, go34x0 h1, -evBin, -evLoad]
end Go.Proofs.Ytemklhljjaniaaa
/-
  Cluster: Orders as a whole; Equal among the orders.
-/
namespace Go.Proofs.Ytemklhljjaniaaa
open Go
open Cy (GC geq0 idxZ idxZ_some idxZ_none idxZ_any frz_i frz_b intsA_len)

/-- a list of lists of integers -/
def ordA (ll : List (List Int)) : AV := slA 1 (ll.map fun l => slA 1 (intsA l))
theorem slA_ne {l : List Int} (h : l ≠ []) : slA 1 (intsA l) = .fs 1 (intsA l) := by
  cases l with
  | nil => exact absurd rfl h
  | cons x r => rfl
theorem OutP.frz {A : Arena} {op : Nat} {v : AV} {pl : List (Nat × List Int)} (h : OutP A op v pl) (k : Nat) : Proofs.Ytemklhljjaniaaa.frz A (k + 3) v = ordA (pl.map (·.2)) := by
  obtain ⟨h1, h2⟩ := h
  rcases h2 with ⟨rfl, rfl⟩ | ⟨id, gr, rfl, _, hne, hr⟩
  · rfl
  · have e : ((pl.map slOf).drop 0).take pl.length = pl.map slOf := by
      rw [List.drop_zero]
      conv => lhs; rw [show pl.length = (pl.map slOf).length by simp]
      rw [List.take_length]
    have hm : (pl.map slOf).map (Proofs.Ytemklhljjaniaaa.frz A (k + 2)) = (pl.map (·.2)).map fun l => slA 1 (intsA l) := by
      rw [List.map_map, List.map_map]
      refine List.map_congr_left fun x hx => ?_
      obtain ⟨n1, n2⟩ := h1 x hx
      show Proofs.Ytemklhljjaniaaa.frz A (k + 1 + 1) (.sl x.1 0 x.2.length) = _
      rw [frz_ints n2]
      exact (slA_ne n1).symm
    rw [show k + 3 = (k + 2) + 1 from rfl]
    simp only [Proofs.Ytemklhljjaniaaa.frz, hr]
    rw [e, hm]
    unfold ordA
    cases pl with
    | nil => exact absurd rfl hne
    | cons x r => rfl
theorem fresh_ints {A : Arena} {id : Nat} {g : Bool} {b : List Int} (h : A[id]? = some (.row 1 g (intsA b))) (n : Nat) : freshB A (n + 2) (.sl id 0 b.length) = true := by
  simp only [freshB, h, List.drop_zero, List.all_eq_true]
  intro x hx
  obtain ⟨y, _, rfl⟩ := List.mem_map.1 (List.mem_of_mem_take hx)
  rfl
theorem OutP.fresh {A : Arena} {op : Nat} {v : AV} {pl : List (Nat × List Int)} (h : OutP A op v pl) (k : Nat) : freshB A (k + 4) v = true := by
  obtain ⟨h1, h2⟩ := h
  rcases h2 with ⟨rfl, rfl⟩ | ⟨id, gr, rfl, _, hne, hr⟩
  · rfl
  · rw [show k + 4 = (k + 3) + 1 from rfl]
    simp only [freshB, hr, List.drop_zero]
    rw [List.all_eq_true]
    intro y hy
    obtain ⟨x, hx, rfl⟩ := List.mem_map.1 (List.mem_of_mem_take hy)
    obtain ⟨n1, n2⟩ := h1 x hx
    exact fresh_ints n2 (k + 1)
noncomputable def fs14 : List (FuncId × HModel) := [(16, pureH 4 M16), (34, H34 4)]
@[simp] theorem fs14_16 : lookM fs14 16 = some (pureH 4 M16) := rfl
@[simp] theorem fs14_34 : lookM fs14 34 = some (H34 4) := rfl
theorem sound14 : ∀ f M, lookM fs14 f = some M → FnSpecY Try.prog GC f M := lookM_cons (FnSpecY.of_pure spec16 4) (lookM_cons (spec34 4) lookM_nil)
noncomputable def M14 : PModel := fun args => evF (envOf GC fs14) 0 mf14 4 args
theorem spec14 : PureSpecF Try.prog GC 14 M14 := PureSpecF.of_ev (E := envOf GC fs14) (envOf_sound sound14) rfl at14 comp14 4 fun _ _ h => ⟨0, h⟩
theorem toolA_frz {T : Tool} {chv : AV} (h : ∀ A n, frz A n chv = chv) (A : Arena) (n : Nat) : frz A (n + 1) (toolA T chv) = toolA T chv := by
  simp [toolA, frz, h, frz_i]
theorem toolA_noRef {T : Tool} {chv : AV} (h : ∀ n, noRefB n chv = true) (n : Nat) : noRefB (n + 1) (toolA T chv) = true := by
  simp [toolA, noRefB, h]
theorem SlA.noRef {e : Nat} {xs : List AV} {a : AV} (h : SlA e xs a) (n : Nat) : noRefB n a = true := by
  rcases h with ⟨rfl, _⟩ | rfl <;> cases n <;> rfl
set_option maxRecDepth 100000 in
theorem M14_eq {T : Tool} {chv : AV} (hb : SlA 2 (T.ch.map chA) chv) (hl : T.ch.length ≤ 200) : M14 [toolA T chv] = some (ordA (ordersM T)) := by
  have m := M16_eq hb hl
  have hlen := hb.len
  rw [List.length_map] at hlen
  have ft := fun A => toolA_frz (T := T) (fun A n => hb.frz (A := A) n) A 3
  have nr := toolA_noRef (T := T) (fun n => hb.noRef n) 3
  unfold M14 ordersM
  by_cases hv : ValidC T
  · rw [if_pos hv]
    rw [decide_eq_true hv] at m
    have hn4 := hv.2.2.2.1
    obtain ⟨A0, hA0⟩ : ∃ X : Arena, X = [.row 5 false [toolA T chv], .row 1 false [.int .i64 (T.ch.length : Int)], .row 1 false [.nilS], .row 1 false [self34 1 2 0 3], .row 1 false [.int .i64 0]] := ⟨_, rfl⟩
    have hX : X34 A0 1 2 0 3 T.ch.length T chv := by rw [hA0]; exact ⟨rfl, rfl, rfl⟩
    have ho : OutAt A0 2 [] := ⟨.nilS, [], rfl, by rw [hA0]; rfl, fun _ h => by simp at h, .inl ⟨rfl, rfl⟩⟩
    have hp : 4 ^ T.ch.length ≤ 4 ^ 4 := Nat.pow_le_pow_right (by omega) hn4
    obtain ⟨B, h1, ⟨v, pl, h2, h3, h4⟩, h5⟩ := ev34 (fun _ _ _ => none) (d := 4 - T.ch.length) hn4 T.ch.length (A := A0) (ll := []) (id := 4) (b := [0]) (by simp; omega) (by simp) hX ho (by rw [hA0]; rfl) (by simp; omega)
    rw [show 4 - T.ch.length + T.ch.length = 4 by omega] at h1
    have lv := row_load h3 h4.form
    have hfz := h4.frz 1
    have hfr := h4.fresh 0
    rw [h2, List.nil_append] at hfz
    have h1 : H34 4 (fun _ _ _ => none) [.sl 4 0 1, .ptr 1 0 0, .ptr 2 0 0, .ptr 0 0 0, .ptr 3 0 0] A0 = some (.tup [], B) := h1
    rw [evF_run _ _ rfl]
    obtain ⟨ch, pk, pl2, tr, bd⟩ := T
    simp only at hlen h1 hA0 m ft hfz
    rw [show ∀ c, toolA ⟨ch, pk, pl2, tr, bd⟩ c = .agg [c, .int .i64 pk, .int .i64 pl2, .int .i64 tr, .int .i64 bd] from fun _ => rfl] at hA0 ft m
    rw [show ∀ c, toolA ⟨ch, pk, pl2, tr, bd⟩ c = .agg [c, .int .i64 pk, .int .i64 pl2, .int .i64 tr, .int .i64 bd] from fun _ => rfl]
    have lt : evLoad true 5 [Ent.row 5 false [.agg [chv, .int .i64 pk, .int .i64 pl2, .int .i64 tr, .int .i64 bd]]] (.ptr 0 0 0) = some (.agg [chv, .int .i64 pk, .int .i64 pl2, .int .i64 tr, .int .i64 bd]) := rfl
    have le : ∀ k, evLoad false 1 [Ent.row 5 false [.agg [chv, .int .i64 pk, .int .i64 pl2, .int .i64 tr, .int .i64 bd]], .row 1 false [.int .i64 k], .row 1 false [.nilS], .row 1 false [.func (.func 34) [] [.ptr 1 0 0, .ptr 2 0 0, .ptr 0 0 0, .ptr 3 0 0]]] (.ptr 3 0 0) = some (.func (.func 34) [] [.ptr 1 0 0, .ptr 2 0 0, .ptr 0 0 0, .ptr 3 0 0]) := fun k => rfl
    have lc : evLoad false 1 [Ent.row 5 false [.agg [chv, .int .i64 pk, .int .i64 pl2, .int .i64 tr, .int .i64 bd]]] (.ptr 0 0 0) = some chv := rfl
    obtain ⟨k, hk⟩ : ∃ k, k = (ch.length : Int) := ⟨_, rfl⟩
    rw [← hk] at hlen hA0
    obtain ⟨R, hR⟩ : ∃ R, R = ordA (ext ch.length (decide (bd = 1)) (ch.length + 1) [0]) := ⟨_, rfl⟩
    rw [← hR] at hfz ⊢
    unfold self34 at hA0
    rw [hA0] at h1
    simp [mf14, m, ft, hlen, h1, lv, hfz, hfr, lc, lt, le, -frz, -evLenSl, -evLoad]
  · rw [if_neg hv]
    rw [decide_eq_false hv] at m
    rw [evF_run _ _ rfl]
    obtain ⟨ch, pk, pl2, tr, bd⟩ := T
    rw [show ∀ c, toolA ⟨ch, pk, pl2, tr, bd⟩ c = .agg [c, .int .i64 pk, .int .i64 pl2, .int .i64 tr, .int .i64 bd] from fun _ => rfl] at ft m
    rw [show ∀ c, toolA ⟨ch, pk, pl2, tr, bd⟩ c = .agg [c, .int .i64 pk, .int .i64 pl2, .int .i64 tr, .int .i64 bd] from fun _ => rfl]
    simp [mf14, m, ft, freshB, -frz]
    rfl

/-! ### Equal, among the orders -/
noncomputable def fs42 : List (FuncId × HModel) := [(43, pureH 4 M43)]
@[simp] theorem fs42_43 : lookM fs42 43 = some (pureH 4 M43) := rfl
theorem sound42 : ∀ f M, lookM fs42 f = some M → FnSpecY Try.prog GC f M := lookM_cons (FnSpecY.of_pure spec43 4) lookM_nil
noncomputable def M42 : PModel := fun args => evP (envOf GC fs42) 0 mf42 1 args
theorem spec42 : PureSpec Try.prog GC 42 M42 := PureSpec.of_ev (E := envOf GC fs42) (envOf_sound sound42) rfl at42 comp42 1 fun _ _ h => ⟨0, h⟩
theorem M42_eq {xs ys : List Int} {a b : AV} (ha : SlA 1 (intsA xs) a) (hb : SlA 1 (intsA ys) b) (hl : xs.length ≤ 200) : M42 [a, .fp [b]] = some (.bool (decide (xs = ys))) := by
  have m := M43_eq ha hb hl
  have f1 : ∀ A n, frz A n a = a := fun A n => ha.frz n
  have f2 : ∀ A n, frz A n b = b := fun A n => hb.frz n
  have l1 : ∀ A, evLoad false 1 A (.fp [b]) = some b := fun A => rfl
  obtain ⟨d, hd⟩ : ∃ d, d = decide (xs = ys) := ⟨_, rfl⟩
  rw [← hd] at m ⊢
  unfold M42
  rw [evP_run _ _ rfl]
  simp [mf42, m, f1, f2, l1, frz_b, -frz, -evLoad]
noncomputable def fs66 : List (FuncId × HModel) := [(42, pureH 4 M42)]
@[simp] theorem fs66_42 : lookM fs66 42 = some (pureH 4 M42) := rfl
theorem sound66 : ∀ f M, lookM fs66 f = some M → FnSpecY Try.prog GC f M := lookM_cons (FnSpecY.of_pure spec42 4) lookM_nil
noncomputable def M66 : PModel := fun args => evP (envOf GC fs66) 300 mf66 1 args
theorem spec66 : PureSpec Try.prog GC 66 M66 := PureSpec.of_ev (E := envOf GC fs66) (envOf_sound sound66) rfl at66 comp66 1 fun _ _ h => ⟨300, h⟩
def isO (o l : List Int) : Bool := decide (l = o)
def fnO (ov : AV) : AV := .func (.func 42) [] [.fp [ov]]
set_option maxRecDepth 100000 in
theorem M66_eq {ll : List (List Int)} {o : List Int} {ov : AV} (ho : SlA 1 (intsA o) ov) (hl : ll.length ≤ 256) (hl2 : ∀ l ∈ ll, l.length ≤ 200) : M66 [ordA ll, fnO ov] = some (.int .i64 (idxZ (isO o) ll)) := by
  have hb := slA_holds 1 (ll.map fun l => slA 1 (intsA l))
  rw [show slA 1 (ll.map fun l => slA 1 (intsA l)) = ordA ll from rfl] at hb
  obtain ⟨b, hbv⟩ : ∃ b, b = ordA ll := ⟨_, rfl⟩
  rw [← hbv] at hb ⊢
  have hlen := hb.len
  rw [List.length_map] at hlen
  have round : ∀ (A : Arena) (i : Nat) (hi : i < ll.length), run (envOf GC fs66) 300 [.code lp66x0] (st66x0 b (fnO ov) (.int .i64 (ll.length : Int)) (.int .i64 (i : Int))) A =
      if isO o ll[i] = false then some (.normal (st66x0 b (fnO ov) (.int .i64 (ll.length : Int)) (.int .i64 ((i + 1 : Nat) : Int))) A) else some (.ret [b, fnO ov, .int .i64 (i : Int), .int .i64 (i : Int), .int .i64 (ll.length : Int), .int .i64 (i : Int), .bool true, .bool true] A) := fun A i hi => by
    have he : (ll.map fun l => slA 1 (intsA l))[i]? = some (slA 1 (intsA ll[i])) := by simp [hi]
    have hs := slA_holds 1 (intsA ll[i])
    have x1 := hb.index1 (A := A) he (by rcases hs with ⟨h, _⟩ | h <;> rw [h] <;> rfl) (by rcases hs with ⟨h, _⟩ | h <;> rw [h] <;> rfl) .i64
    have ld : evLoad false 1 A (.fp [slA 1 (intsA ll[i])]) = some (slA 1 (intsA ll[i])) := by rcases hs with ⟨h, _⟩ | h <;> rw [h] <;> rfl
    have m := M42_eq hs ho (hl2 _ (List.getElem_mem hi))
    have b1 := lt_nat i ll.length .i64
    rw [decide_eq_true hi] at b1
    have b3 := add1_nat i (by omega)
    have fz : ∀ A, frz A 4 (slA 1 (intsA ll[i])) = slA 1 (intsA ll[i]) := fun A => hs.frz 4
    have fz2 : ∀ A, frz A 4 (.fp [ov]) = .fp [ov] := fun A => rfl
    obtain ⟨i1, hi1⟩ : ∃ i1 : Nat, i1 = i + 1 := ⟨_, rfl⟩
    rw [← hi1] at b3 ⊢
    obtain ⟨d, hd⟩ : ∃ d, d = isO o ll[i] := ⟨_, rfl⟩
    rw [show decide (ll[i] = o) = d from hd.symm] at m
    rw [← hd]
    obtain ⟨c, hc⟩ : ∃ c, c = slA 1 (intsA ll[i]) := ⟨_, rfl⟩
    rw [← hc] at m ld fz x1
    cases d with
    | false => simp [lp66x0, fnO, x1, ld, m, fz, fz2, b1, b3, -frz, -evBin, -evIndexSl, -evLenSl, -evLoad]
    | true => simp [lp66x0, fnO, x1, ld, m, fz, fz2, b1, -frz, -evBin, -evIndexSl, -evLenSl, -evLoad]
  unfold M66
  rw [evP_run _ _ rfl]
  rcases iter_search (E := envOf GC fs66) (fuel := 300) (a := lp66x0) (mask := mask66x0) (fun i => st66x0 b (fnO ov) (.int .i64 (ll.length : Int)) (.int .i64 (i : Int))) (fun _ => []) ll.length (fun i => ¬ ∀ hi : i < ll.length, isO o ll[i] = false)
    (oF := fun i => .ret [b, fnO ov, .int .i64 (i : Int), .int .i64 (i : Int), .int .i64 (ll.length : Int), .int .i64 (i : Int), .bool true, .bool true] []) (oE := .exit 0 ((st66x0 b (fnO ov) (.int .i64 (ll.length : Int)) (.int .i64 (ll.length : Int))).set 6 (.bool false)) [])
    (fun _ => cl66x0) (fun _ _ _ h => by cases h) (fun _ _ h => by cases h)
    (fun i hi hp => by
      rw [round [] i hi]
      exact if_pos (Classical.not_not.1 hp hi))
    (fun i hi hp => by
      rw [round [] i hi]
      exact if_neg fun h => hp fun _ => h)
    (by simp [lp66x0]) (show ll.length < 300 by omega) with ⟨i, hi, hp, hj, lp⟩ | ⟨hp, lp⟩
  · have lp : iter (evC (envOf GC fs66) 300 lp66x0) mask66x0 300 (st66x0 b (fnO ov) (.int .i64 (ll.length : Int)) (.int .i64 0)) [] = _ := lp
    have e : idxZ (isO o) ll = (i : Int) := idxZ_some hi (by
      cases h' : isO o ll[i] with
      | true => rfl
      | false => exact absurd (fun _ => h') hp) (fun j hj' => Classical.not_not.1 (hj j hj') (by omega))
    rw [e]
    simp [mf66, hlen, go66x0 lp, -evBin, -evLenSl]
  · have lp : iter (evC (envOf GC fs66) 300 lp66x0) mask66x0 300 (st66x0 b (fnO ov) (.int .i64 (ll.length : Int)) (.int .i64 0)) [] = _ := lp
    have e : idxZ (isO o) ll = -1 := idxZ_none fun i hi => Classical.not_not.1 (hp i hi) hi
    rw [e]
    simp [mf66, hlen, go66x0 lp, -evBin, -evLenSl]
noncomputable def fs41 : List (FuncId × HModel) := [(66, pureH 4 M66)]
@[simp] theorem fs41_66 : lookM fs41 66 = some (pureH 4 M66) := rfl
theorem sound41 : ∀ f M, lookM fs41 f = some M → FnSpecY Try.prog GC f M := lookM_cons (FnSpecY.of_pure spec66 4) lookM_nil
noncomputable def M41 : PModel := fun args => evP (envOf GC fs41) 0 mf41 1 args
theorem spec41 : PureSpec Try.prog GC 41 M41 := PureSpec.of_ev (E := envOf GC fs41) (envOf_sound sound41) rfl at41 comp41 1 fun _ _ h => ⟨0, h⟩
theorem any_isO (o : List Int) (ll : List (List Int)) : ll.any (isO o) = decide (o ∈ ll) := by
  rw [Bool.eq_iff_iff, List.any_eq_true, decide_eq_true_eq]
  unfold isO
  constructor
  · rintro ⟨x, hx, h⟩
    rw [← of_decide_eq_true h]; exact hx
  · exact fun h => ⟨o, h, by simp⟩
theorem M41_eq {ll : List (List Int)} {o : List Int} {ov : AV} (ho : SlA 1 (intsA o) ov) (hl : ll.length ≤ 256) (hl2 : ∀ l ∈ ll, l.length ≤ 200) : M41 [ordA ll, fnO ov] = some (.bool (decide (o ∈ ll))) := by
  have h := M66_eq ho hl hl2
  have b1 := geq0 (idxZ (isO o) ll)
  rw [idxZ_any, any_isO] at b1
  have f1 : ∀ A n, frz A n (ordA ll) = ordA ll := fun A n => (slA_holds 1 _).frz n
  have f2 : ∀ A, frz A 4 (fnO ov) = fnO ov := fun A => rfl
  obtain ⟨z, hz⟩ : ∃ z, z = idxZ (isO o) ll := ⟨_, rfl⟩
  rw [← hz] at h b1
  obtain ⟨d, hd⟩ : ∃ d, d = decide (o ∈ ll) := ⟨_, rfl⟩
  rw [← hd] at b1 ⊢
  obtain ⟨b, hbv⟩ : ∃ b, b = ordA ll := ⟨_, rfl⟩
  rw [← hbv] at h f1 ⊢
  unfold M41
  rw [evP_run _ _ rfl]
  simp [mf41, h, b1, f1, f2, frz_b, -evBin, -frz]
end Go.Proofs.Ytemklhljjaniaaa
/-
  Cluster: links, add.
-/
namespace Go.Proofs.Ytemklhljjaniaaa
open Go
open Cy (GC geq0 idxZ idxZ_some idxZ_none idxZ_any frz_i frz_b intsA_len CArc arcA arcsOf isPer ValidA okA)

/-! ### the last row of the arena, an aggregate -/
section
variable {A : Arena} {es : List AV} {k : Nat}
theorem top_fa (_hk : es.length = k) {j : Nat} (hj : j < k) : evFieldAddr j (A ++ [.row k false [.agg es]]) (.ptr A.length 0 0) = some (.ptr A.length 0 j) := by
  simp [evFieldAddr, hj]
theorem top_ld (_hk : es.length = k) {j : Nat} {x : AV} (hx : es[j]? = some x) : evLoad false 1 (A ++ [.row k false [.agg es]]) (.ptr A.length 0 j) = some x := by
  simp [evLoad, loadElem_part, hx]
theorem top_all (_hk : es.length = k) (_hk1 : k ≠ 1) : evLoad true k (A ++ [.row k false [.agg es]]) (.ptr A.length 0 0) = some (.agg es) := by
  simp [evLoad, loadElem_agg]
theorem top_st (hk : es.length = k) (hk1 : 1 < k) {j : Nat} (hj : j < k) {x : AV} (hs : x.solid = true) (hc : cellsOf x = [x]) : evStore 1 (A ++ [.row k false [.agg es]]) (.ptr A.length 0 j) x = some (A ++ [.row k false [.agg (es.set j x)]]) := by
  have e : es.take j ++ [x] ++ es.drop (j + 1) = es.set j x := by
    rw [List.set_eq_take_append_cons_drop, if_pos (by omega)]; simp
  have e1 : storeElem (.agg es) k j x = some (.agg (es.set j x)) := by
    unfold storeElem
    rw [hc, if_neg (by simp; omega)]
    simp only [List.length_singleton]
    rw [if_pos ⟨hk, by omega⟩, e]
  simp only [evStore, List.getElem?_concat_length, List.getElem?_cons_zero]
  rw [if_pos ⟨trivial, hs, by rw [hc]; rfl, by omega⟩, e1]
  simp
end

@[simp] theorem ld_fp1 (A : Arena) (x : AV) : evLoad false 1 A (.fp [x]) = some x := rfl
@[simp] theorem ld_fpA (A : Arena) (x y : AV) (r : List AV) : evLoad true (r.length + 2) A (.fp (x :: y :: r)) = some (.agg (x :: y :: r)) := by simp [evLoad]
@[simp] theorem ld_fp2 (A : Arena) (x y : AV) : evLoad true 2 A (.fp [x, y]) = some (.agg [x, y]) := rfl

/-! ### links -/
noncomputable def M46 : PModel := fun args => evP (envOf GC []) 0 mf46 4 args
theorem spec46 : PureSpec Try.prog GC 46 M46 := PureSpec.of_ev (E := envOf GC []) (envOf_sound lookM_nil) rfl at46 comp46 4 fun _ _ h => ⟨0, h⟩
def linkA : AV := .agg [.nilF, .func (.func 67) [] [], .func (.func 68) [] []]
theorem M46_eq : M46 [] = some linkA := by
  unfold M46
  rw [evP_run _ _ rfl]
  simp [mf46, linkA]

noncomputable def fs67 : List (FuncId × HModel) := [(64, pureH 4 M64)]
@[simp] theorem fs67_64 : lookM fs67 64 = some (pureH 4 M64) := rfl
theorem sound67 : ∀ f M, lookM fs67 f = some M → FnSpecY Try.prog GC f M := lookM_cons (FnSpecY.of_pure spec64 4) lookM_nil
noncomputable def M67 : PModel := fun args => evP (envOf GC fs67) 0 mf67 4 args
theorem spec67 : PureSpec Try.prog GC 67 M67 := PureSpec.of_ev (E := envOf GC fs67) (envOf_sound sound67) rfl at67 comp67 4 fun _ _ h => ⟨0, h⟩
def lkA (a b c : Int) : AV := .agg [.int .i64 a, .int .i64 b, .int .i64 c]
set_option maxRecDepth 100000 in
theorem M67_eq {o : List Int} {ov : AV} (ho : SlA 1 (intsA o) ov) (hl : o.length ≤ 200) {j : Int} (hj : -1000 ≤ j ∧ j ≤ 1000) : M67 [ov, .int .i64 j] = some (lkA (j - 1) j (if idxZ (isI j) o < idxZ (isI (j - 1)) o then 1 else 0)) := by
  have m1 := M64_eq ho hl j
  have m2 := M64_eq ho hl (j - 1)
  have f1 : ∀ A n, frz A n ov = ov := fun A n => ho.frz n
  have b1 := evSubI (a := j) (b := 1) (by omega)
  have b2 := evLssI (idxZ (isI j) o) (idxZ (isI (j - 1)) o)
  obtain ⟨j1, hj1⟩ : ∃ x, x = j - 1 := ⟨_, rfl⟩
  rw [← hj1] at m2 b1 b2 ⊢
  obtain ⟨x, hx⟩ : ∃ x, x = idxZ (isI j) o := ⟨_, rfl⟩
  obtain ⟨y, hy⟩ : ∃ x, x = idxZ (isI j1) o := ⟨_, rfl⟩
  rw [← hx] at m1 b2 ⊢
  rw [← hy] at m2 b2 ⊢
  unfold M67
  rw [evP_run _ _ rfl]
  by_cases h : x < y
  · rw [decide_eq_true h] at b2
    rw [if_pos h]
    simp [mf67, m1, m2, f1, b1, b2, lkA, frz_i, -evBin, -frz]
    simp [frz]
  · rw [decide_eq_false h] at b2
    rw [if_neg h]
    simp [mf67, m1, m2, f1, b1, b2, lkA, frz_i, -evBin, -frz]
    simp [frz]
noncomputable def M68 : PModel := fun args => evP (envOf GC []) 0 mf68 4 args
theorem spec68 : PureSpec Try.prog GC 68 M68 := PureSpec.of_ev (E := envOf GC []) (envOf_sound lookM_nil) rfl at68 comp68 4 fun _ _ h => ⟨0, h⟩
theorem M68_eq (ov : AV) (j : Int) : M68 [ov, .int .i64 j] = some (lkA j j 1) := by
  unfold M68
  rw [evP_run _ _ rfl]
  simp [mf68, lkA]

/-! ### add -/
noncomputable def H45 : HModel := fun _ => evFun (envOf GC []) 0 mf45
theorem spec45 : FnSpecY Try.prog GC 45 H45 := (evFun_sound (envOf_sound lookM_nil) rfl at45 comp45 PureIn.nil).y
/-- the arcs under way -/
def GAt (A : Arena) (g : Nat) (l : List CArc) : Prop := ∃ v, A[g]? = some (.row 1 false [v]) ∧ ((v = .nilS ∧ l = []) ∨ ∃ id gr, v = .sl id 0 l.length ∧ l ≠ [] ∧ g < id ∧ A[id]? = some (.row 4 gr (l.map arcA)))
theorem GAt.app {A : Arena} {g : Nat} {l : List CArc} (h : GAt A g l) (X : Arena) : GAt (A ++ X) g l := by
  obtain ⟨v, h1, h2⟩ := h
  have hk : ∀ (j : Nat) (e : Ent), A[j]? = some e → (A ++ X)[j]? = some e := fun j e h => by
    rw [List.getElem?_append_left (List.getElem?_eq_some_iff.1 h).1]; exact h
  refine ⟨v, hk _ _ h1, ?_⟩
  rcases h2 with h2 | ⟨id, gr, e1, e2, e3, e4⟩
  · exact .inl h2
  · exact .inr ⟨id, gr, e1, e2, e3, hk _ _ e4⟩
set_option maxRecDepth 100000 in
theorem H45_eq (h : Handler) {A : Arena} {g : Nat} {l : List CArc} (hg : GAt A g l) {xs : List CArc} (hx : xs ≠ []) (hb : l.length + xs.length ≤ 1000) :
    ∃ B, H45 h [.ptr g 0 0, .fs 4 (xs.map arcA)] A = some (.tup [], B) ∧ GAt B g (l ++ xs) ∧ A.length ≤ B.length ∧ ∀ j, j < g → B[j]? = A[j]? := by
  obtain ⟨v, h1, h2⟩ := hg
  have hgl := (List.getElem?_eq_some_iff.1 h1).1
  have hxl : 0 < xs.length := List.length_pos_iff.2 hx
  have hxm : xs.map arcA ≠ [] := fun e => hx (List.map_eq_nil_iff.1 e)
  rcases h2 with ⟨rfl, rfl⟩ | ⟨id, gr, rfl, hl, hid, hr⟩
  · have e1 : evAppend 4 32 A .nilS (.fs 4 (xs.map arcA)) = some (.sl A.length 0 xs.length, A ++ [.row 4 false (xs.map arcA)]) := by
      simp only [evAppend, srcElems_fs, List.length_map]
      rw [if_neg (by omega), if_pos ⟨by omega, by omega, by simp at hb; omega⟩]
    have l1 : evLoad false 1 A (.ptr g 0 0) = some .nilS := row_load h1 (.inl rfl)
    have h1' : (A ++ [Ent.row 4 false (xs.map arcA)])[g]? = some (.row 1 false [.nilS]) := by rw [List.getElem?_append_left hgl]; exact h1
    obtain ⟨A1, hA1⟩ : ∃ X, X = A ++ [Ent.row 4 false (xs.map arcA)] := ⟨_, rfl⟩
    have s1 : evStore 1 A1 (.ptr g 0 0) (.sl A.length 0 xs.length) = some (A1.set g (.row 1 false [.sl A.length 0 xs.length])) := by
      rw [← hA1] at h1'
      simp [h1']
    refine ⟨A1.set g (.row 1 false [.sl A.length 0 xs.length]), ?_, ⟨.sl A.length 0 xs.length, by rw [hA1, List.getElem?_set_self (by simp; omega)], .inr ⟨A.length, false, rfl, hx, hgl, ?_⟩⟩, by rw [hA1]; simp, fun j hj => ?_⟩
    · rw [← hA1] at e1
      unfold H45
      rw [evFun_run _ _ rfl]
      simp [mf45, l1, e1, s1, -evLoad, -evStore]
    · rw [hA1, List.getElem?_set_ne (by omega)]
      simp
    · rw [hA1, List.getElem?_set_ne (by omega), List.getElem?_append_left (by omega)]
  · have hlz : l.length ≠ 0 := fun e => hl (List.length_eq_zero_iff.1 e)
    have hidl := (List.getElem?_eq_some_iff.1 hr).1
    have e1 : evAppend 4 32 A (.sl id 0 l.length) (.fs 4 (xs.map arcA)) = some (.sl id 0 (l.length + xs.length), A.set id (.row 4 true (l.map arcA ++ xs.map arcA))) := by
      simp only [evAppend, srcElems_fs, List.length_map, hr]
      rw [if_pos ⟨trivial, by omega, by omega, by omega⟩, if_pos ⟨trivial, trivial, hlz⟩]
    have l1 : evLoad false 1 A (.ptr g 0 0) = some (.sl id 0 l.length) := row_load h1 (.inr ⟨_, _, _, rfl⟩)
    obtain ⟨A1, hA1⟩ : ∃ X, X = A.set id (Ent.row 4 true (l.map arcA ++ xs.map arcA)) := ⟨_, rfl⟩
    have h1' : A1[g]? = some (.row 1 false [.sl id 0 l.length]) := by rw [hA1, List.getElem?_set_ne (by omega)]; exact h1
    have s1 : evStore 1 A1 (.ptr g 0 0) (.sl id 0 (l.length + xs.length)) = some (A1.set g (.row 1 false [.sl id 0 (l.length + xs.length)])) := by
      simp [h1']
    refine ⟨A1.set g (.row 1 false [.sl id 0 (l.length + xs.length)]), ?_, ⟨.sl id 0 (l.length + xs.length), by rw [hA1, List.getElem?_set_self (by simpa using hgl)], .inr ⟨id, true, by simp, by simp [hl], hid, ?_⟩⟩, by rw [hA1]; simp, fun j hj => ?_⟩
    · rw [← hA1] at e1
      unfold H45
      rw [evFun_run _ _ rfl]
      simp [mf45, l1, e1, s1, -evLoad, -evStore]
    · rw [hA1, List.getElem?_set_ne (by omega), List.getElem?_set_self hidl]
      simp
    · rw [hA1, List.getElem?_set_ne (by omega), List.getElem?_set_ne (by omega)]
theorem GAt.frz {A : Arena} {g : Nat} {l : List CArc} (h : GAt A g l) : ∃ v, evLoad false 1 A (.ptr g 0 0) = some v ∧ (∀ k, Proofs.Ytemklhljjaniaaa.frz A (k + 3) v = slA 4 (l.map arcA)) ∧ ∀ k, freshB A (k + 3) v = true := by
  obtain ⟨v, h1, h2⟩ := h
  rcases h2 with ⟨rfl, rfl⟩ | ⟨id, gr, rfl, hl, hid, hr⟩
  · exact ⟨.nilS, row_load h1 (.inl rfl), fun k => rfl, fun k => rfl⟩
  · have e : ((l.map arcA).drop 0).take l.length = l.map arcA := by
      rw [List.drop_zero]
      conv => lhs; rw [show l.length = (l.map arcA).length by simp]
      rw [List.take_length]
    refine ⟨_, row_load h1 (.inr ⟨_, _, _, rfl⟩), fun k => ?_, fun k => ?_⟩
    · have hm : (l.map arcA).map (Proofs.Ytemklhljjaniaaa.frz A (k + 2)) = l.map arcA := by
        rw [List.map_map]
        exact List.map_congr_left fun x _ => by simp [arcA, Proofs.Ytemklhljjaniaaa.frz]
      rw [show k + 3 = (k + 2) + 1 from rfl]
      simp only [Proofs.Ytemklhljjaniaaa.frz, hr]
      rw [e, hm]
      cases l with
      | nil => exact absurd rfl hl
      | cons x r => rfl
    · rw [show k + 3 = (k + 2) + 1 from rfl]
      simp only [freshB, hr]
      rw [e, List.all_eq_true]
      intro y hy
      obtain ⟨x, _, rfl⟩ := List.mem_map.1 hy
      simp [arcA, freshB]
end Go.Proofs.Ytemklhljjaniaaa
/-
  Cluster: Arcs, the loop over the tasks.
-/
namespace Go.Proofs.Ytemklhljjaniaaa
open Go
open Cy (GC geq0 idxZ idxZ_some idxZ_none idxZ_any frz_i frz_b intsA_len CArc arcA arcsOf isPer ValidA okA)

/-! ### plain -/
def nextO (o : List Int) (i : Nat) : Int := if i + 1 < o.length then o.getD (i + 1) 0 else 0
def arcO (T : Tool) (o : List Int) (i : Nat) : CArc :=
  ⟨o.getD i 0, nextO o i, workT T + (if T.blades = 2 ∨ nextO o i ≠ o.getD i 0 + 1 then T.travel else 0), if i + 1 < o.length then 0 else 1⟩
def lkT (T : Tool) (o : List Int) (j : Int) : Int × Int × Int := if T.blades = 2 then (j, j, 1) else (j - 1, j, if idxZ (isI j) o < idxZ (isI (j - 1)) o then 1 else 0)
def arcC (T : Tool) (o : List Int) (i : Nat) : List CArc :=
  [⟨(lkT T o (i + 1)).1, (lkT T o (i + 1)).2.1, workT T + (T.ch.getD i (0, 0)).1, (lkT T o (i + 1)).2.2⟩,
   ⟨(lkT T o (i + 1)).2.1, (lkT T o (i + 1)).1, -(workT T + (T.ch.getD i (0, 0)).1 + (T.ch.getD i (0, 0)).2), -(lkT T o (i + 1)).2.2⟩]
def arcsL (T : Tool) (o : List Int) : List CArc := (List.range o.length).map (arcO T o) ++ (List.range T.ch.length).flatMap (arcC T o)
def arcsM (T : Tool) (o : List Int) : Option (List CArc) := if o ∈ ordersM T then some (arcsL T o) else none

theorem ext_mem (n : Nat) (one : Bool) : ∀ (k : Nat) (b l : List Int), l ∈ ext n one k b → l.length = n + 1 ∧ ∃ r, l = b ++ r ∧ (∀ x ∈ r, 1 ≤ x ∧ x ≤ n) ∧ (b.Nodup → l.Nodup)
  | 0, b, l, h => by simp [ext] at h
  | k + 1, b, l, h => by
    unfold ext at h
    split at h
    · rename_i hb
      simp only [List.mem_singleton] at h
      subst h
      exact ⟨hb, [], by simp, by simp, id⟩
    · rw [List.mem_flatMap] at h
      obtain ⟨i, hi, h⟩ := h
      rw [List.mem_range'_1] at hi
      split at h
      · rename_i hc
        obtain ⟨h1, r, rfl, h3, h4⟩ := ext_mem n one k _ _ h
        simp only [Bool.and_eq_true, Bool.not_eq_true', decide_eq_false_iff_not] at hc
        refine ⟨h1, (i : Int) :: r, by simp, fun x hx => ?_, fun hn => h4 ?_⟩
        · rcases List.mem_cons.1 hx with rfl | hx
          · omega
          · exact h3 x hx
        · rw [List.nodup_append]
          refine ⟨hn, by simp, fun a ha b hb e => ?_⟩
          rw [List.mem_singleton] at hb
          subst hb; subst e
          exact hc.1 ha
      · cases h
theorem orders_mem {T : Tool} {o : List Int} (h : o ∈ ordersM T) : ValidC T ∧ o.length = T.ch.length + 1 ∧ (∃ r, o = 0 :: r ∧ ∀ x ∈ r, 1 ≤ x ∧ x ≤ T.ch.length) ∧ o.Nodup := by
  unfold ordersM at h
  split at h
  · rename_i hv
    obtain ⟨h1, r, h2, h3, h4⟩ := ext_mem _ _ _ _ _ h
    exact ⟨hv, h1, ⟨r, h2, h3⟩, h4 (by simp)⟩
  · cases h
theorem orders_bd {T : Tool} {o : List Int} (h : o ∈ ordersM T) : ∀ x ∈ o, 0 ≤ x ∧ x ≤ T.ch.length := by
  obtain ⟨_, _, ⟨r, rfl, h2⟩, _⟩ := orders_mem h
  intro x hx
  rcases List.mem_cons.1 hx with rfl | hx
  · omega
  · have := h2 x hx; omega
theorem orders_len (T : Tool) : (ordersM T).length ≤ 256 := by
  unfold ordersM
  split
  · rename_i hv
    have hn := hv.2.2.2.1
    rcases ext_len T.ch.length (decide (T.blades = 1)) hn T.ch.length [0] with h | h
    · exact Nat.le_trans h (Nat.le_trans (Nat.pow_le_pow_right (by omega) hn) (by omega))
    · simp at h; omega
  · simp
theorem workT_bd {T : Tool} (h : ValidC T) : 0 ≤ workT T ∧ workT T ≤ 30000 := by
  obtain ⟨_, ⟨h1, h2, h3⟩, _⟩ := h
  unfold workT
  split <;> omega
theorem evNegI {a : Int} (h : -9223372036854775807 ≤ a ∧ a ≤ 9223372036854775807) : evUn .neg (.int .i64 a) = some (.int .i64 (-a)) := by
  simp only [evUn]
  rw [show (0 : Int) - a = -a by omega, wrapI (by unfold inI; omega)]

noncomputable def fs19 : List (FuncId × HModel) := [(14, pureFH 4 M14), (41, pureH 4 M41), (44, pureH 4 M44), (46, pureH 4 M46), (67, pureH 4 M67), (68, pureH 4 M68), (45, H45)]
@[simp] theorem fs19_14 : lookM fs19 14 = some (pureFH 4 M14) := rfl
@[simp] theorem fs19_41 : lookM fs19 41 = some (pureH 4 M41) := rfl
@[simp] theorem fs19_44 : lookM fs19 44 = some (pureH 4 M44) := rfl
@[simp] theorem fs19_46 : lookM fs19 46 = some (pureH 4 M46) := rfl
@[simp] theorem fs19_67 : lookM fs19 67 = some (pureH 4 M67) := rfl
@[simp] theorem fs19_68 : lookM fs19 68 = some (pureH 4 M68) := rfl
@[simp] theorem fs19_45 : lookM fs19 45 = some H45 := rfl
theorem sound19 : ∀ f M, lookM fs19 f = some M → FnSpecY Try.prog GC f M := lookM_cons (FnSpecY.of_pureF spec14 4) (lookM_cons (FnSpecY.of_pure spec41 4) (lookM_cons (FnSpecY.of_pure spec44 4) (lookM_cons (FnSpecY.of_pure spec46 4) (lookM_cons (FnSpecY.of_pure spec67 4) (lookM_cons (FnSpecY.of_pure spec68 4) (lookM_cons spec45 lookM_nil))))))

/-- the tool, the order, the arcs so far -/
structure I19 (A : Arena) (T : Tool) (chv ov : AV) (l : List CArc) : Prop where
  t : A[0]? = some (.row 5 false [toolA T chv])
  o : A[1]? = some (.row 1 false [ov])
  g : GAt A 2 l
set_option maxRecDepth 100000 in
set_option maxHeartbeats 4000000 in
theorem round19a {T : Tool} {chv ov : AV} {o : List Int} (hO : o ∈ ordersM T) (ho : SlA 1 (intsA o) ov) {A : Arena} {l : List CArc} (hI : I19 A T chv ov l) (hl : l.length ≤ 100) {i : Nat} (hi : i < o.length) :
    ∃ B, run (envOf GC fs19) 300 [.code lp19x0] (st19x0 (.ptr 0 0 0) (.ptr 1 0 0) (.int .i64 (workT T)) (.ptr 2 0 0) ov (.int .i64 (o.length : Int)) (.int .i64 (i : Int))) A =
      some (.normal (st19x0 (.ptr 0 0 0) (.ptr 1 0 0) (.int .i64 (workT T)) (.ptr 2 0 0) ov (.int .i64 (o.length : Int)) (.int .i64 ((i + 1 : Nat) : Int))) B) ∧ I19 B T chv ov (l ++ [arcO T o i]) := by
  obtain ⟨hv, hol, _, _⟩ := orders_mem hO
  have hbd := orders_bd hO
  have hw := workT_bd hv
  have hch := hv.2.2.2.1
  have htr := hv.2.1.2.2
  obtain ⟨ht, h1, hg⟩ := hI
  have ht0 := (List.getElem?_eq_some_iff.1 ht).1
  have h10 := (List.getElem?_eq_some_iff.1 h1).1
  have hlen := ho.len
  rw [intsA_len] at hlen
  have x1 := fun A => ho.int (A := A) _ _ (List.getElem?_eq_getElem hi) .i64
  have ho1 : o[i] = o.getD i 0 := by rw [List.getD_eq_getElem?_getD, List.getElem?_eq_getElem hi]; rfl
  have hb1 := hbd o[i] (List.getElem_mem hi)
  obtain ⟨t0, htt⟩ : ∃ t, t = o.getD i 0 := ⟨_, rfl⟩
  rw [ho1, ← htt] at x1 hb1
  obtain ⟨w, hww⟩ : ∃ w, w = workT T := ⟨_, rfl⟩
  have ov0 : ∀ X, evLoad false 1 (A ++ X) (.ptr 1 0 0) = some ov := fun X => by
    have h : (A ++ X)[1]? = some (.row 1 false [ov]) := by rw [List.getElem?_append_left h10]; exact h1
    rcases ho with ⟨rfl, _⟩ | rfl <;> simp [h]
  obtain ⟨ch, pk, pl, tr, bd⟩ := T
  have ht : A[0]? = some (.row 5 false [.agg [chv, .int .i64 pk, .int .i64 pl, .int .i64 tr, .int .i64 bd]]) := ht
  have tl : ∀ X, (A ++ X)[0]? = some (.row 5 false [.agg [chv, .int .i64 pk, .int .i64 pl, .int .i64 tr, .int .i64 bd]]) := fun X => by rw [List.getElem?_append_left ht0]; exact ht
  have t3 : ∀ X, evFieldAddr 3 (A ++ X) (.ptr 0 0 0) = some (.ptr 0 0 3) := fun X => by simp [evFieldAddr, tl X]
  have t4 : ∀ X, evFieldAddr 4 (A ++ X) (.ptr 0 0 0) = some (.ptr 0 0 4) := fun X => by simp [evFieldAddr, tl X]
  have l3 : ∀ X, evLoad false 1 (A ++ X) (.ptr 0 0 3) = some (.int .i64 tr) := fun X => by simp [evLoad, tl X, loadElem_part]
  have l4 : ∀ X, evLoad false 1 (A ++ X) (.ptr 0 0 4) = some (.int .i64 bd) := fun X => by simp [evLoad, tl X, loadElem_part]
  have a1 : ∀ a b c d, evFieldAddr 1 (A ++ [.row 4 false [.agg [a, b, c, d]]]) (.ptr A.length 0 0) = some (.ptr A.length 0 1) := fun a b c d => top_fa (es := [a, b, c, d]) (k := 4) rfl (by omega)
  have a2 : ∀ a b c d, evFieldAddr 2 (A ++ [.row 4 false [.agg [a, b, c, d]]]) (.ptr A.length 0 0) = some (.ptr A.length 0 2) := fun a b c d => top_fa (es := [a, b, c, d]) (k := 4) rfl (by omega)
  have a3 : ∀ a b c d, evFieldAddr 3 (A ++ [.row 4 false [.agg [a, b, c, d]]]) (.ptr A.length 0 0) = some (.ptr A.length 0 3) := fun a b c d => top_fa (es := [a, b, c, d]) (k := 4) rfl (by omega)
  have r1 : ∀ a b c d, evLoad false 1 (A ++ [.row 4 false [.agg [a, b, c, d]]]) (.ptr A.length 0 1) = some b := fun a b c d => top_ld (es := [a, b, c, d]) (k := 4) rfl rfl
  have r2 : ∀ a b c d, evLoad false 1 (A ++ [.row 4 false [.agg [a, b, c, d]]]) (.ptr A.length 0 2) = some c := fun a b c d => top_ld (es := [a, b, c, d]) (k := 4) rfl rfl
  have r4 : ∀ a b c d, evLoad true 4 (A ++ [.row 4 false [.agg [a, b, c, d]]]) (.ptr A.length 0 0) = some (.agg [a, b, c, d]) := fun a b c d => top_all (es := [a, b, c, d]) (k := 4) rfl (by omega)
  have s1 : ∀ a b c d z, evStore 1 (A ++ [.row 4 false [.agg [a, b, c, d]]]) (.ptr A.length 0 1) (.int .i64 z) = some (A ++ [.row 4 false [.agg [a, .int .i64 z, c, d]]]) := fun a b c d z => top_st (es := [a, b, c, d]) (k := 4) rfl (by omega) (by omega) rfl rfl
  have s2 : ∀ a b c d z, evStore 1 (A ++ [.row 4 false [.agg [a, b, c, d]]]) (.ptr A.length 0 2) (.int .i64 z) = some (A ++ [.row 4 false [.agg [a, b, .int .i64 z, d]]]) := fun a b c d z => top_st (es := [a, b, c, d]) (k := 4) rfl (by omega) (by omega) rfl rfl
  have s3 : ∀ a b c d z, evStore 1 (A ++ [.row 4 false [.agg [a, b, c, d]]]) (.ptr A.length 0 3) (.int .i64 z) = some (A ++ [.row 4 false [.agg [a, b, c, .int .i64 z]]]) := fun a b c d z => top_st (es := [a, b, c, d]) (k := 4) rfl (by omega) (by omega) rfl rfl
  have sA : ∀ a b c d x y z u, evStore 4 (A ++ [.row 4 false [.agg [a, b, c, d]]]) (.ptr A.length 0 0) (.agg [.int .i64 x, .int .i64 y, .int .i64 z, .int .i64 u]) = some (A ++ [.row 4 false [.agg [.int .i64 x, .int .i64 y, .int .i64 z, .int .i64 u]]]) := fun a b c d x y z u => by simp [evStore, storeElem]
  have b0 := lt_nat i o.length .i64
  rw [decide_eq_true hi] at b0
  have b1 := add1_nat i (by omega)
  have b2 := lt_nat (i + 1) o.length .i64
  have b3 : evBin .eql (.int .i64 bd) (.int .i64 2) = some (.bool (decide (bd = 2))) := evEqlI _ _
  have b4 : evBin .add (.int .i64 t0) (.int .i64 1) = some (.int .i64 (t0 + 1)) := evAddI (by simp only at hch hb1; omega)
  have b6 : evBin .add (.int .i64 w) (.int .i64 tr) = some (.int .i64 (w + tr)) := evAddI (by simp only at htr; omega)
  obtain ⟨nx, hnx⟩ : ∃ x, x = nextO o i := ⟨_, rfl⟩
  have b5 : evBin .neq (.int .i64 nx) (.int .i64 (t0 + 1)) = some (.bool (decide (nx ≠ t0 + 1))) := evNeqI _ _
  -- what is appended
  obtain ⟨ar, har⟩ : ∃ a, a = arcO ⟨ch, pk, pl, tr, bd⟩ o i := ⟨_, rfl⟩
  have hae : ar = ⟨t0, nx, w + (if bd = 2 ∨ nx ≠ t0 + 1 then tr else 0), if i + 1 < o.length then 0 else 1⟩ := by
    rw [har, hnx, htt, hww]; rfl
  have hgX := hg.app [.row 4 false [arcA ar]]
  obtain ⟨B, k1, k2, k3, k4⟩ := H45_eq (fun _ _ _ => none) hgX (xs := [ar]) (by simp) (by simp; omega)
  refine ⟨B, ?_, ⟨by rw [k4 0 (by omega), List.getElem?_append_left ht0]; exact ht, by rw [k4 1 (by omega), List.getElem?_append_left h10]; exact h1, by rw [← har]; exact k2⟩⟩
  rw [← hww]
  have k1 : H45 (fun _ _ _ => none) [.ptr 2 0 0, .fs 4 [arcA ar]] (A ++ [.row 4 false [arcA ar]]) = some (.tup [], B) := k1
  rw [show arcA ar = .agg [.int .i64 t0, .int .i64 nx, .int .i64 (w + (if bd = 2 ∨ nx ≠ t0 + 1 then tr else 0)), .int .i64 (if i + 1 < o.length then 0 else 1)] by rw [hae]; rfl] at k1
  have hsl : ∀ x y z u : Int, evBuildF 4 [.agg [.int .i64 x, .int .i64 y, .int .i64 z, .int .i64 u]] = some (.fs 4 [.agg [.int .i64 x, .int .i64 y, .int .i64 z, .int .i64 u]]) := fun x y z u => rfl
  obtain ⟨N, hN⟩ : ∃ n, n = A.length := ⟨_, rfl⟩
  obtain ⟨i1, hi1⟩ : ∃ n, n = i + 1 := ⟨_, rfl⟩
  have x2 : i1 < o.length → ∀ A, evIndexSl 1 A ov (.int .i64 (i1 : Int)) = some (.fp [.int .i64 nx]) := fun h A => by
    have e : o[i1]? = some nx := by rw [hnx, nextO, if_pos (by omega), ← hi1, List.getD_eq_getElem?_getD, List.getElem?_eq_getElem h]; rfl
    exact ho.int (A := A) _ _ e .i64
  have hnx0 : ¬ i1 < o.length → nx = 0 := fun h => by rw [hnx, nextO, if_neg (by omega)]
  have bx : ∀ z, evBox 4 (.agg [.int .i64 z, .int .i64 z, .int .i64 z, .int .i64 z]) A = some (.ptr N 0 0, A ++ [.row 4 false [.agg [.int .i64 z, .int .i64 z, .int .i64 z, .int .i64 z]]]) := fun z => by rw [hN]; rfl
  rw [← hi1] at b1 b2 k1 ⊢
  rw [← hN] at a1 a2 a3 r1 r2 r4 s1 s2 s3 sA
  obtain ⟨t1, ht1⟩ : ∃ x, x = t0 + 1 := ⟨_, rfl⟩
  rw [← ht1] at b4 b5 k1
  obtain ⟨w1, hw1⟩ : ∃ x, x = w + tr := ⟨_, rfl⟩
  rw [← hw1] at b6
  by_cases hc : i1 < o.length
  · rw [decide_eq_true hc] at b2
    have x2 := x2 hc
    rw [if_pos hc] at k1
    by_cases hd : bd = 2
    · rw [decide_eq_true hd] at b3
      rw [if_pos (.inl hd), ← hw1] at k1
      simp [lp19x0, b0, b1, b2, b3, b6, x1, x2, ov0, hlen, t3, t4, l3, l4, a1, a2, a3, r2, r4, s1, s2, s3, sA, bx, hsl, k1, -evBin, -evLoad, -evStore, -evFieldAddr, -evIndexSl, -evLenSl, -evBuildF, -evBox]
    · rw [decide_eq_false hd] at b3
      by_cases he : nx ≠ t1
      · rw [decide_eq_true he] at b5
        rw [if_pos (.inr he), ← hw1] at k1
        simp [lp19x0, b0, b1, b2, b3, b4, b5, b6, x1, x2, ov0, hlen, t3, t4, l3, l4, a1, a2, a3, r1, r2, r4, s1, s2, s3, sA, bx, hsl, k1, -evBin, -evLoad, -evStore, -evFieldAddr, -evIndexSl, -evLenSl, -evBuildF, -evBox]
      · rw [decide_eq_false he] at b5
        rw [if_neg (fun h => h.elim hd he), Int.add_zero] at k1
        simp [lp19x0, b0, b1, b2, b3, b4, b5, x1, x2, ov0, hlen, t4, l4, a1, a3, r1, r4, s1, s3, sA, bx, hsl, k1, -evBin, -evLoad, -evStore, -evFieldAddr, -evIndexSl, -evLenSl, -evBuildF, -evBox]
  · rw [decide_eq_false hc] at b2
    have hnx0 := hnx0 hc
    rw [if_neg hc] at k1
    subst hnx0
    by_cases hd : bd = 2
    · rw [decide_eq_true hd] at b3
      rw [if_pos (.inl hd), ← hw1] at k1
      simp [lp19x0, b0, b1, b2, b3, b6, x1, ov0, hlen, t3, t4, l3, l4, a2, r2, r4, s2, sA, bx, hsl, k1, -evBin, -evLoad, -evStore, -evFieldAddr, -evIndexSl, -evLenSl, -evBuildF, -evBox]
    · rw [decide_eq_false hd] at b3
      by_cases he : (0 : Int) ≠ t1
      · rw [decide_eq_true he] at b5
        rw [if_pos (.inr he), ← hw1] at k1
        simp [lp19x0, b0, b1, b2, b3, b4, b5, b6, x1, ov0, hlen, t3, t4, l3, l4, a1, a2, r1, r2, r4, s2, sA, bx, hsl, k1, -evBin, -evLoad, -evStore, -evFieldAddr, -evIndexSl, -evLenSl, -evBuildF, -evBox]
      · rw [decide_eq_false he] at b5
        rw [if_neg (fun h => h.elim hd he), Int.add_zero] at k1
        simp [lp19x0, b0, b1, b2, b3, b4, b5, x1, ov0, hlen, t4, l4, a1, r1, r4, sA, bx, hsl, k1, -evBin, -evLoad, -evStore, -evFieldAddr, -evIndexSl, -evLenSl, -evBuildF, -evBox]
end Go.Proofs.Ytemklhljjaniaaa
/-
  Cluster: Arcs, the loop over the chambers; Arcs as a whole.
-/
namespace Go.Proofs.Ytemklhljjaniaaa
open Go
open Cy (GC geq0 idxZ idxZ_some idxZ_none idxZ_any frz_i frz_b intsA_len CArc arcA arcsOf isPer ValidA okA)

def fnL (T : Tool) : AV := if T.blades = 2 then .func (.func 68) [] [] else .func (.func 67) [] []
theorem call_fnL {T : Tool} (_hv : ValidC T) {o : List Int} {ov : AV} (ho : SlA 1 (intsA o) ov) (hl : o.length ≤ 200) (j : Int) (hj : -1000 ≤ j ∧ j ≤ 1000) (A : Arena) : (envOf GC fs19).call (fnL T) [ov, .int .i64 j] A = some (lkA (lkT T o j).1 (lkT T o j).2.1 (lkT T o j).2.2, A) := by
  have f1 : ∀ n, frz A n ov = ov := fun n => ho.frz n
  unfold fnL lkT
  split
  · have m := M68_eq ov j
    simp [m, f1, lkA, frz_i, -frz]
  · have m := M67_eq ho hl hj
    simp [m, f1, lkA, frz_i, -frz]
theorem idx_bd (p : Int → Bool) (l : List Int) : -1 ≤ idxZ p l ∧ idxZ p l ≤ l.length := by
  unfold idxZ
  split
  · rename_i i h
    have := List.findIdx?_eq_some_iff_findIdx_eq.1 h
    omega
  · omega
theorem lkT_bd (T : Tool) (o : List Int) (j : Int) : (lkT T o j).2.2 = 0 ∨ (lkT T o j).2.2 = 1 := by
  unfold lkT
  split
  · exact .inr rfl
  · simp only
    split
    · exact .inr rfl
    · exact .inl rfl
set_option maxRecDepth 100000 in
set_option maxHeartbeats 4000000 in
theorem round19b {T : Tool} {chv ov : AV} {o : List Int} (hO : o ∈ ordersM T) (hcv : SlA 2 (T.ch.map chA) chv) (ho : SlA 1 (intsA o) ov) {A : Arena} {l : List CArc} (hI : I19 A T chv ov l) (hl : l.length ≤ 100) {i : Nat} (hi : i < T.ch.length) :
    ∃ B, run (envOf GC fs19) 300 [.code lp19x1] (st19x1 (.ptr 1 0 0) (.int .i64 (workT T)) (.ptr 2 0 0) (fnL T) chv (.int .i64 (T.ch.length : Int)) (.int .i64 (i : Int))) A =
      some (.normal (st19x1 (.ptr 1 0 0) (.int .i64 (workT T)) (.ptr 2 0 0) (fnL T) chv (.int .i64 (T.ch.length : Int)) (.int .i64 ((i + 1 : Nat) : Int))) B) ∧ I19 B T chv ov (l ++ arcC T o i) := by
  obtain ⟨hv, hol, _, _⟩ := orders_mem hO
  have hw := workT_bd hv
  have hch := hv.2.2.2.1
  obtain ⟨ht, h1, hg⟩ := hI
  have ht0 := (List.getElem?_eq_some_iff.1 ht).1
  have h10 := (List.getElem?_eq_some_iff.1 h1).1
  have hx0 : T.ch.getD i (0, 0) = T.ch[i] := by rw [List.getD_eq_getElem?_getD, List.getElem?_eq_getElem hi]; rfl
  have hxv := hv.1 _ (List.getElem_mem hi)
  have x1 : ∀ A, evIndexSl 2 A chv (.int .i64 (i : Int)) = some (.fp [.int .i64 (T.ch.getD i (0, 0)).1, .int .i64 (T.ch.getD i (0, 0)).2]) := fun A => by
    rw [hx0]
    exact hcv.index (A := A) (x := chA T.ch[i]) (by simp [hi]) rfl (by omega) .i64
  have cl := call_fnL hv ho (by omega) ((i : Int) + 1) (by omega)
  have lb := lkT_bd T o ((i : Int) + 1)
  have ha : arcC T o i = arcC T o i := rfl
  conv at ha => rhs; unfold arcC
  rw [ha]
  obtain ⟨⟨k1, k2, k3⟩, hk⟩ : ∃ k, k = lkT T o ((i : Int) + 1) := ⟨_, rfl⟩
  rw [← hk] at cl lb ⊢
  obtain ⟨⟨tm, sy⟩, hx⟩ : ∃ x, x = T.ch.getD i (0, 0) := ⟨_, rfl⟩
  rw [hx0] at hx
  rw [← hx] at hxv
  rw [hx0, ← hx] at x1
  rw [hx0, ← hx]
  simp only [okCh] at cl lb x1 hxv ⊢
  obtain ⟨w, hww⟩ : ∃ w, w = workT T := ⟨_, rfl⟩
  rw [← hww] at hw ⊢
  have ov0 : ∀ X, evLoad false 1 (A ++ X) (.ptr 1 0 0) = some ov := fun X => by
    have h : (A ++ X)[1]? = some (.row 1 false [ov]) := by rw [List.getElem?_append_left h10]; exact h1
    rcases ho with ⟨rfl, _⟩ | rfl <;> simp [h]
  have b0 := lt_nat i T.ch.length .i64
  rw [decide_eq_true hi] at b0
  have b1 := add1_nat i (by omega)
  have b2 : evBin .add (.int .i64 (i : Int)) (.int .i64 1) = some (.int .i64 ((i : Int) + 1)) := evAddI (by omega)
  have b3 : evBin .add (.int .i64 w) (.int .i64 tm) = some (.int .i64 (w + tm)) := evAddI (by omega)
  have b4 : evBin .add (.int .i64 (w + tm)) (.int .i64 sy) = some (.int .i64 (w + tm + sy)) := evAddI (by omega)
  have b5 : evUn .neg (.int .i64 (w + tm + sy)) = some (.int .i64 (-(w + tm + sy))) := evNegI (by omega)
  have b6 : evUn .neg (.int .i64 k3) = some (.int .i64 (-k3)) := evNegI (by omega)
  -- the rows
  obtain ⟨A1, hA1⟩ : ∃ X, X = A ++ [Ent.row 2 false [.agg [.int .i64 tm, .int .i64 sy]]] := ⟨_, rfl⟩
  have ov1 : evLoad false 1 A1 (.ptr 1 0 0) = some ov := by rw [hA1]; exact ov0 _
  have bx : evBox 2 (.agg [.int .i64 0, .int .i64 0]) A = some (.ptr A.length 0 0, A ++ [.row 2 false [.agg [.int .i64 0, .int .i64 0]]]) := rfl
  have s0 : evStore 2 (A ++ [.row 2 false [.agg [.int .i64 0, .int .i64 0]]]) (.ptr A.length 0 0) (.agg [.int .i64 tm, .int .i64 sy]) = some A1 := by simp [evStore, storeElem, hA1]
  have bx1 : evBox 3 (.agg [.int .i64 0, .int .i64 0, .int .i64 0]) A1 = some (.ptr A1.length 0 0, A1 ++ [.row 3 false [.agg [.int .i64 0, .int .i64 0, .int .i64 0]]]) := rfl
  have s1 : evStore 3 (A1 ++ [.row 3 false [.agg [.int .i64 0, .int .i64 0, .int .i64 0]]]) (.ptr A1.length 0 0) (lkA k1 k2 k3) = some (A1 ++ [.row 3 false [lkA k1 k2 k3]]) := by simp [evStore, storeElem, lkA]
  have hA1n : ∀ X, (A1 ++ X)[A.length]? = some (Ent.row 2 false [.agg [.int .i64 tm, .int .i64 sy]]) := fun X => by rw [List.getElem?_append_left (by rw [hA1]; simp), hA1]; simp
  have f0 : ∀ X, evFieldAddr 0 (A1 ++ X) (.ptr A.length 0 0) = some (.ptr A.length 0 0) := fun X => by simp [evFieldAddr, hA1n X]
  have f1 : ∀ X, evFieldAddr 1 (A1 ++ X) (.ptr A.length 0 0) = some (.ptr A.length 0 1) := fun X => by simp [evFieldAddr, hA1n X]
  have e0 : ∀ X, evLoad false 1 (A1 ++ X) (.ptr A.length 0 0) = some (.int .i64 tm) := fun X => by simp [evLoad, hA1n X, loadElem_part]
  have e1 : ∀ X, evLoad false 1 (A1 ++ X) (.ptr A.length 0 1) = some (.int .i64 sy) := fun X => by simp [evLoad, hA1n X, loadElem_part]
  have g0 : evFieldAddr 0 (A1 ++ [.row 3 false [lkA k1 k2 k3]]) (.ptr A1.length 0 0) = some (.ptr A1.length 0 0) := top_fa (es := [.int .i64 k1, .int .i64 k2, .int .i64 k3]) (k := 3) rfl (by omega)
  have g1 : evFieldAddr 1 (A1 ++ [.row 3 false [lkA k1 k2 k3]]) (.ptr A1.length 0 0) = some (.ptr A1.length 0 1) := top_fa (es := [.int .i64 k1, .int .i64 k2, .int .i64 k3]) (k := 3) rfl (by omega)
  have g2 : evFieldAddr 2 (A1 ++ [.row 3 false [lkA k1 k2 k3]]) (.ptr A1.length 0 0) = some (.ptr A1.length 0 2) := top_fa (es := [.int .i64 k1, .int .i64 k2, .int .i64 k3]) (k := 3) rfl (by omega)
  have d0 : evLoad false 1 (A1 ++ [.row 3 false [lkA k1 k2 k3]]) (.ptr A1.length 0 0) = some (.int .i64 k1) := top_ld (es := [.int .i64 k1, .int .i64 k2, .int .i64 k3]) (k := 3) rfl rfl
  have d1 : evLoad false 1 (A1 ++ [.row 3 false [lkA k1 k2 k3]]) (.ptr A1.length 0 1) = some (.int .i64 k2) := top_ld (es := [.int .i64 k1, .int .i64 k2, .int .i64 k3]) (k := 3) rfl rfl
  have d2 : evLoad false 1 (A1 ++ [.row 3 false [lkA k1 k2 k3]]) (.ptr A1.length 0 2) = some (.int .i64 k3) := top_ld (es := [.int .i64 k1, .int .i64 k2, .int .i64 k3]) (k := 3) rfl rfl
  -- what is appended
  have hgX : GAt (A1 ++ [.row 3 false [lkA k1 k2 k3]]) 2 l := by rw [hA1]; exact (hg.app _).app _
  obtain ⟨B, q1, q2, q3, q4⟩ := H45_eq (fun _ _ _ => none) hgX (xs := [⟨k1, k2, w + tm, k3⟩, ⟨k2, k1, -(w + tm + sy), -k3⟩]) (by simp) (by simp; omega)
  have hA10 : ∀ j, j < A.length → (A1 ++ [Ent.row 3 false [lkA k1 k2 k3]])[j]? = A[j]? := fun j hj => by
    rw [hA1, List.append_assoc, List.getElem?_append_left hj]
  refine ⟨B, ?_, ⟨by rw [q4 0 (by omega), hA10 0 ht0]; exact ht, by rw [q4 1 (by omega), hA10 1 h10]; exact h1, q2⟩⟩
  obtain ⟨w1, hw1⟩ : ∃ x, x = w + tm := ⟨_, rfl⟩
  rw [← hw1] at b3 b4 b5 q1
  obtain ⟨w2, hw2⟩ : ∃ x, x = w1 + sy := ⟨_, rfl⟩
  rw [← hw2] at b4 b5 q1
  obtain ⟨w3, hw3⟩ : ∃ x, x = -w2 := ⟨_, rfl⟩
  rw [← hw3] at b5 q1
  obtain ⟨k4, hk4⟩ : ∃ x, x = -k3 := ⟨_, rfl⟩
  rw [← hk4] at b6 q1
  have q1 : H45 (fun _ _ _ => none) [.ptr 2 0 0, .fs 4 [.agg [.int .i64 k1, .int .i64 k2, .int .i64 w1, .int .i64 k3], .agg [.int .i64 k2, .int .i64 k1, .int .i64 w3, .int .i64 k4]]] (A1 ++ [.row 3 false [lkA k1 k2 k3]]) = some (.tup [], B) := q1
  have hsl : evBuildF 4 [.agg [.int .i64 k1, .int .i64 k2, .int .i64 w1, .int .i64 k3], .agg [.int .i64 k2, .int .i64 k1, .int .i64 w3, .int .i64 k4]] = some (.fs 4 [.agg [.int .i64 k1, .int .i64 k2, .int .i64 w1, .int .i64 k3], .agg [.int .i64 k2, .int .i64 k1, .int .i64 w3, .int .i64 k4]]) := rfl
  have cl := cl A1
  obtain ⟨j1, hj1⟩ : ∃ x, x = (i : Int) + 1 := ⟨_, rfl⟩
  rw [← hj1] at b2 cl
  obtain ⟨i1, hi1⟩ : ∃ n, n = i + 1 := ⟨_, rfl⟩
  have hj2 : j1 = (i1 : Int) := by omega
  subst hj2
  rw [← hi1] at b1 ⊢
  obtain ⟨F, hF⟩ : ∃ F, F = fnL T := ⟨_, rfl⟩
  rw [← hF] at cl ⊢
  obtain ⟨L, hL⟩ : ∃ L, L = lkA k1 k2 k3 := ⟨_, rfl⟩
  rw [← hL] at cl s1 g0 g1 g2 d0 d1 d2 q1
  simp [lp19x1, b0, b1, b3, b4, b5, b6, x1, ov1, bx, s0, bx1, s1, f0, f1, e0, e1, g0, g1, g2, d0, d1, d2, hsl, cl, q1, -evBin, -evLoad, -evStore, -evFieldAddr, -evIndexSl, -evBuildF, -evBox, -evUn]

/-! ### Arcs -/
noncomputable def M19 : PModel := fun args => evF (envOf GC fs19) 300 mf19 4 args
theorem spec19 : PureSpecF Try.prog GC 19 M19 := PureSpecF.of_ev (E := envOf GC fs19) (envOf_sound sound19) rfl at19 comp19 4 fun _ _ h => ⟨300, h⟩
def arcsT (r : Option (List CArc)) : AV := .tup [slA 4 ((r.getD []).map arcA), .int .i64 (if r.isSome then 0 else 130)]
theorem spec19_pu : PureIn (envOf GC fs19) [46] := by
  first | exact PureIn.nil | (repeat (first | exact PureIn.nil | refine PureIn.cons (M := _) rfl ?_))
theorem arcsL_app (T : Tool) (o : List Int) (i : Nat) : ((List.range (i + 1)).map (arcO T o)) = (List.range i).map (arcO T o) ++ [arcO T o i] := by
  rw [List.range_succ, List.map_append]; rfl
theorem arcsC_app (T : Tool) (o : List Int) (i : Nat) : ((List.range (i + 1)).flatMap (arcC T o)) = (List.range i).flatMap (arcC T o) ++ arcC T o i := by
  rw [List.range_succ, List.flatMap_append]; simp
theorem arcsC_len (T : Tool) (o : List Int) (i : Nat) : ((List.range i).flatMap (arcC T o)).length = 2 * i := by
  induction i with
  | zero => rfl
  | succ i ih => rw [arcsC_app, List.length_append, ih]; rfl

theorem loop19a {T : Tool} {chv ov : AV} {o : List Int} (hO : o ∈ ordersM T) (ho : SlA 1 (intsA o) ov) : ∀ (c i : Nat) (A : Arena) (m : Nat), i + c = o.length → I19 A T chv ov ((List.range i).map (arcO T o)) → c < m →
    ∃ B, iter (evC (envOf GC fs19) 300 lp19x0) mask19x0 m (st19x0 (.ptr 0 0 0) (.ptr 1 0 0) (.int .i64 (workT T)) (.ptr 2 0 0) ov (.int .i64 (o.length : Int)) (.int .i64 (i : Int))) A =
      some (.exit 0 ((st19x0 (.ptr 0 0 0) (.ptr 1 0 0) (.int .i64 (workT T)) (.ptr 2 0 0) ov (.int .i64 (o.length : Int)) (.int .i64 (o.length : Int))).set 19 (.bool false)) B) ∧ I19 B T chv ov ((List.range o.length).map (arcO T o)) := by
  obtain ⟨hv, hol, _, _⟩ := orders_mem hO
  have hn4 := hv.2.2.2.1
  intro c
  induction c with
  | zero =>
    intro i A m hi hI hm
    obtain ⟨m, rfl⟩ : ∃ j, m = j + 1 := ⟨m - 1, by omega⟩
    obtain rfl : i = o.length := by omega
    refine ⟨A, ?_, hI⟩
    have b0 := lt_nat o.length o.length .i64
    rw [decide_eq_false (by omega)] at b0
    rw [iter_succ, cl19x0]
    simp [lp19x0, b0, -evBin]
  | succ c ih =>
    intro i A m hi hI hm
    obtain ⟨m, rfl⟩ : ∃ j, m = j + 1 := ⟨m - 1, by omega⟩
    obtain ⟨B, h1, h2⟩ := round19a hO ho hI (by simp; omega) (i := i) (by omega)
    rw [← arcsL_app] at h2
    obtain ⟨C, h3, h4⟩ := ih (i + 1) B m (by omega) h2 (by omega)
    refine ⟨C, ?_, h4⟩
    rw [iter_succ, cl19x0, h1]
    exact h3
theorem loop19b {T : Tool} {chv ov : AV} {o : List Int} (hO : o ∈ ordersM T) (hcv : SlA 2 (T.ch.map chA) chv) (ho : SlA 1 (intsA o) ov) {l0 : List CArc} (hl0 : l0.length ≤ 50) : ∀ (c i : Nat) (A : Arena) (m : Nat), i + c = T.ch.length → I19 A T chv ov (l0 ++ (List.range i).flatMap (arcC T o)) → c < m →
    ∃ B, iter (evC (envOf GC fs19) 300 lp19x1) mask19x1 m (st19x1 (.ptr 1 0 0) (.int .i64 (workT T)) (.ptr 2 0 0) (fnL T) chv (.int .i64 (T.ch.length : Int)) (.int .i64 (i : Int))) A =
      some (.exit 2 ((st19x1 (.ptr 1 0 0) (.int .i64 (workT T)) (.ptr 2 0 0) (fnL T) chv (.int .i64 (T.ch.length : Int)) (.int .i64 (T.ch.length : Int))).set 25 (.bool false)) B) ∧ I19 B T chv ov (l0 ++ (List.range T.ch.length).flatMap (arcC T o)) := by
  obtain ⟨hv, hol, _, _⟩ := orders_mem hO
  have hn4 := hv.2.2.2.1
  intro c
  induction c with
  | zero =>
    intro i A m hi hI hm
    obtain ⟨m, rfl⟩ : ∃ j, m = j + 1 := ⟨m - 1, by omega⟩
    obtain rfl : i = T.ch.length := by omega
    refine ⟨A, ?_, hI⟩
    have b0 := lt_nat T.ch.length T.ch.length .i64
    rw [decide_eq_false (by omega)] at b0
    rw [iter_succ, cl19x1]
    simp [lp19x1, b0, -evBin]
  | succ c ih =>
    intro i A m hi hI hm
    obtain ⟨m, rfl⟩ : ∃ j, m = j + 1 := ⟨m - 1, by omega⟩
    obtain ⟨B, h1, h2⟩ := round19b hO hcv ho hI (by rw [List.length_append, arcsC_len]; omega) (i := i) (by omega)
    rw [List.append_assoc, ← arcsC_app] at h2
    obtain ⟨C, h3, h4⟩ := ih (i + 1) B m (by omega) h2 (by omega)
    refine ⟨C, ?_, h4⟩
    rw [iter_succ, cl19x1, h1]
    exact h3

set_option maxRecDepth 100000 in
set_option maxHeartbeats 1000000 in
theorem M19_eq {T : Tool} {chv ov : AV} {o : List Int} (hcv : SlA 2 (T.ch.map chA) chv) (hl : T.ch.length ≤ 200) (ho : SlA 1 (intsA o) ov) : M19 [toolA T chv, ov] = some (arcsT (arcsM T o)) := by
  have m14 := M14_eq hcv hl
  have m41 := M41_eq ho (ll := ordersM T)
  have ft := fun A => toolA_frz (T := T) (fun A n => hcv.frz (A := A) n) A 3
  have fo : ∀ A n, frz A n ov = ov := fun A n => ho.frz n
  have fO : ∀ A, frz A 4 (ordA (ordersM T)) = ordA (ordersM T) := fun A => (slA_holds 1 _).frz 4
  have nO : noRefB 4 (ordA (ordersM T)) = true := (slA_holds 1 _).noRef 4
  have lt : ∀ X, evLoad true 5 (.row 5 false [toolA T chv] :: X) (.ptr 0 0 0) = some (toolA T chv) := fun X => rfl
  have lo : ∀ a X, evLoad false 1 (a :: .row 1 false [ov] :: X) (.ptr 1 0 0) = some ov := fun a X => by
    rcases ho with ⟨rfl, _⟩ | rfl <;> simp
  have fF : frz [.row 5 false [toolA T chv], .row 1 false [ov]] 4 (.func (.func 42) [] [.ptr 1 0 0]) = fnO ov := by
    have : cellsOf ov = [ov] := by rcases ho with ⟨rfl, _⟩ | rfl <;> rfl
    have hs : ov.solid = true := by rcases ho with ⟨rfl, _⟩ | rfl <;> rfl
    simp [frz, this, fo, fnO, hs, -cellsOf, -AV.solid]
  have bx0 : evBox 5 (toolA T chv) [] = some (.ptr 0 0 0, [.row 5 false [toolA T chv]]) := rfl
  have bx1 : evBox 1 ov [.row 5 false [toolA T chv]] = some (.ptr 1 0 0, [.row 5 false [toolA T chv], .row 1 false [ov]]) := by
    rcases ho with ⟨rfl, _⟩ | rfl <;> rfl
  have bx2 : ∀ t : AV, evBox 1 .nilS [.row 5 false [t], .row 1 false [ov]] = some (.ptr 2 0 0, [.row 5 false [t], .row 1 false [ov], .row 1 false [.nilS]]) := fun t => rfl
  unfold M19 arcsM
  rw [evF_run _ _ rfl]
  by_cases hO : o ∈ ordersM T
  · obtain ⟨hv, hol, _, _⟩ := orders_mem hO
    have hn4 := hv.2.2.2.1
    have m41 := m41 (Nat.le_trans (orders_len T) (by omega)) (fun l hl => by have := (orders_mem hl).2.1; omega)
    rw [decide_eq_true hO] at m41
    rw [if_pos hO]
    have m44 := M44_eq chv hv
    have l4 : ∀ X, evFieldAddr 4 (.row 5 false [toolA T chv] :: X) (.ptr 0 0 0) = some (.ptr 0 0 4) := fun X => rfl
    have e0 : ∀ X, evFieldAddr 0 (.row 5 false [toolA T chv] :: X) (.ptr 0 0 0) = some (.ptr 0 0 0) := fun X => rfl
    obtain ⟨B1, h1, h2⟩ := loop19a hO ho (chv := chv) o.length 0 [.row 5 false [toolA T chv], .row 1 false [ov], .row 1 false [.nilS]] 300 (by omega) ⟨rfl, rfl, ⟨.nilS, rfl, .inl ⟨rfl, rfl⟩⟩⟩ (by omega)
    have hB1 : ∀ {x}, B1[0]? = x → B1[0]? = x := id
    have l4b : evFieldAddr 4 B1 (.ptr 0 0 0) = some (.ptr 0 0 4) := by simp [evFieldAddr, h2.t]
    have l4c : evLoad false 1 B1 (.ptr 0 0 4) = some (.int .i64 T.blades) := by simp [evLoad, h2.t, toolA, loadElem_part]
    have l0b : evFieldAddr 0 B1 (.ptr 0 0 0) = some (.ptr 0 0 0) := by simp [evFieldAddr, h2.t]
    have l0c : evLoad false 1 B1 (.ptr 0 0 0) = some chv := by simp [evLoad, h2.t, toolA, loadElem_part]
    have iv : evIndexVal false 3 1 linkA (.int .i64 T.blades) = some (fnL T) := by
      rcases hv.2.2.2.2 with h | h <;> rw [h] <;> unfold fnL <;> rw [h] <;> rfl
    have hlen := hcv.len
    rw [List.length_map] at hlen
    have hlo := ho.len
    rw [intsA_len] at hlo
    have h2' : I19 B1 T chv ov ((List.range o.length).map (arcO T o) ++ (List.range 0).flatMap (arcC T o)) := by simpa using h2
    obtain ⟨B2, h3, h4⟩ := loop19b hO hcv ho (l0 := (List.range o.length).map (arcO T o)) (by simp; omega) T.ch.length 0 B1 300 (by omega) h2' (by omega)
    obtain ⟨v, g1, g2, g3⟩ := h4.g.frz
    have g2 := g2 0
    have g3 := g3 0
    obtain ⟨R, hR⟩ : ∃ R, R = slA 4 ((arcsL T o).map arcA) := ⟨_, rfl⟩
    rw [show (List.range o.length).map (arcO T o) ++ (List.range T.ch.length).flatMap (arcC T o) = arcsL T o from rfl, ← hR] at g2
    have hRR : arcsT (some (arcsL T o)) = .tup [R, .int .i64 0] := by rw [hR]; rfl
    rw [hRR]
    have h1 : iter (evC (envOf GC fs19) 300 lp19x0) mask19x0 300 (st19x0 (.ptr 0 0 0) (.ptr 1 0 0) (.int .i64 (workT T)) (.ptr 2 0 0) ov (.int .i64 (o.length : Int)) (.int .i64 0)) [.row 5 false [toolA T chv], .row 1 false [ov], .row 1 false [.nilS]] = _ := h1
    have h3 : iter (evC (envOf GC fs19) 300 lp19x1) mask19x1 300 (st19x1 (.ptr 1 0 0) (.int .i64 (workT T)) (.ptr 2 0 0) (fnL T) chv (.int .i64 (T.ch.length : Int)) (.int .i64 0)) B1 = _ := h3
    obtain ⟨t, htt⟩ : ∃ t, t = toolA T chv := ⟨_, rfl⟩
    obtain ⟨F, hF⟩ : ∃ F, F = fnL T := ⟨_, rfl⟩
    obtain ⟨Q, hQ⟩ : ∃ F, F = ordA (ordersM T) := ⟨_, rfl⟩
    obtain ⟨w, hw⟩ : ∃ F, F = workT T := ⟨_, rfl⟩
    rw [← htt] at m14 ft lt fF bx0 bx1 m44 h1 ⊢
    rw [← hF] at iv h3
    rw [← hQ] at m14 m41 fO nO
    rw [← hw] at m44 h1 h3
    have cb : ∀ x : AV, (cellsOf x).length = (cellsOf x).length := fun _ => rfl
    have ct : (cellsOf t).length = 5 := by rw [htt]; rfl
    have co : (cellsOf ov).length = 1 := by rcases ho with ⟨rfl, _⟩ | rfl <;> rfl
    have fT : frz B2 4 (.tup [v, .int .i64 0]) = .tup [R, .int .i64 0] := by
      rw [← g2]; rfl
    have rT : freshB B2 4 (.tup [v, .int .i64 0]) = true := by
      have g3 : freshB B2 3 v = true := g3
      simp [freshB, g3]
    simp [mf19, bx0, bx1, bx2, fT, rT, ct, co, lt, lo, m14, m41, m44, ft, fO, nO, fF, go19x0 h1, go19x1 h3, l4b, l4c, l0b, l0c, iv, hlen, hlo, M46_eq, g1, -evBox, -evLoad, -evFieldAddr, -evLenSl, -frz, -cellsOf]
  · have hll : (ordersM T).length ≤ 256 := orders_len T
    have m41 := m41 hll (fun l hl => by have := orders_mem hl; have := this.1.2.2.2.1; omega)
    rw [decide_eq_false hO] at m41
    rw [if_neg hO]
    obtain ⟨t, htt⟩ : ∃ t, t = toolA T chv := ⟨_, rfl⟩
    obtain ⟨Q, hQ⟩ : ∃ F, F = ordA (ordersM T) := ⟨_, rfl⟩
    rw [← htt] at m14 ft lt fF bx0 bx1 ⊢
    rw [← hQ] at m14 m41 fO nO
    have ct : (cellsOf t).length = 5 := by rw [htt]; rfl
    have co : (cellsOf ov).length = 1 := by rcases ho with ⟨rfl, _⟩ | rfl <;> rfl
    have fT : ∀ A, frz A 4 (.tup [.nilS, .int .i64 130]) = .tup [.nilS, .int .i64 130] := fun A => rfl
    have rT : ∀ A, freshB A 4 (.tup [.nilS, .int .i64 130]) = true := fun A => rfl
    simp [mf19, bx0, bx1, fT, rT, ct, co, lt, m14, m41, ft, fO, nO, fF, -evBox, -evLoad, -evFieldAddr, -evLenSl, -frz, -cellsOf]
    rfl
end Go.Proofs.Ytemklhljjaniaaa
