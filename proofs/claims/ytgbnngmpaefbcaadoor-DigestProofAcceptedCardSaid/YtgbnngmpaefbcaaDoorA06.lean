/-
  What the proof is built on (D24 to D29b).
-/
import Derived.Test.YtgbnngmpaefbcaaDoorA05
import Derived.Test.YtgbnngmpaefbcaaDoorA03
import Derived.Lib.LaidTab
/-
  Digest: VerifyExtension (22), as a whole.
-/
namespace Go.Proofs.YtgbnngmpaefbcaaDoor
open Go

/-- the beginning's value -/
def firstV (w : List Side) (x : Str) : Str := w.foldr (fun s o => if s.2 then joinT s o else o) x
/-- what VerifyExtension answers -/
def verifyX (old : Str) (m : Int) (root : Str) (n : Int) (p : List Str) : Bool :=
  if (0 ≤ m ∧ m ≤ n) ∧ p.all isDig = true ∧ isDig old = true ∧ isDig root = true then
    if m = 0 then decide (p = []) && decide (old = sumT [])
    else if m = n then decide (p = []) && decide (old = root)
    else match upR m.toNat n.toNat true p.reverse with
    | none => false
    | some (w, q, true) => decide (q = []) && (decide (firstV w old = old) && decide (w.foldr joinT old = root))
    | some (w, [x], false) => decide (firstV w x = old) && decide (w.foldr joinT x = root)
    | some (_, _, false) => false
  else false
noncomputable def M22 : PModel := fun args => evP (envOf GD fs21) 100 mf22 1 args
theorem spec22 : PureSpec Tryd.prog GD 22 M22 := PureSpec.of_ev (E := envOf GD fs21) (envOf_sound sound21) rfl at22 comp22 1 fun _ _ h => ⟨100, h⟩
def outs1 (s0 : Str) (w : List Side) (j : Nat) : Str := firstV (w.drop j) s0
theorem outs1_step (s0 : Str) (w : List Side) (i : Nat) (s : Side) (h : w[i]? = some s) : outs1 s0 w i = if s.2 then joinT s (outs1 s0 w (i + 1)) else outs1 s0 w (i + 1) := by
  obtain ⟨h1, h2⟩ := List.getElem?_eq_some_iff.1 h
  unfold outs1
  rw [List.drop_eq_getElem_cons h1, h2]; rfl
theorem firstV_len (s0 : Str) (h0 : s0.length = 32) : ∀ w : List Side, (firstV w s0).length = 32
  | [] => h0
  | x :: r => by
    unfold firstV
    rw [List.foldr_cons]
    split
    · exact joinT_len _ _
    · exact firstV_len s0 h0 r
theorem isDig_len {s : Str} (h : isDig s = true) : s.length = 32 := by simpa [isDig] using h
theorem and_pick (b c : Bool) : (if b = true then c else false) = (b && c) := by cases b <;> rfl
set_option maxRecDepth 100000 in
set_option maxHeartbeats 4000000 in
theorem M22_no (old root : Str) {n m : Int} {p : List Str} {pv : AV} (hp : SlA 1 (strsA p) pv) (hpl : p.length ≤ 80) (h : ¬ ((0 ≤ m ∧ m ≤ n) ∧ p.all isDig = true ∧ isDig old = true ∧ isDig root = true)) : M22 [.str old, .int .i64 m, .str root, .int .i64 n, pv] = some (.bool false) := by
  have c0 := bLt .i64 m 0
  have c1 := bGt .i64 m n
  have mm := M42_eq hp (by omega)
  have d1 := M46_eq old
  have d2 := M46_eq root
  have f4 := fun A n => hp.frz (A := A) n
  have fb := frz_b
  have fs := frz_s
  have sc : ∀ b, scalarB 4 (.bool b) = true := fun _ => rfl
  unfold M22
  rw [evP_run _ _ rfl]
  by_cases h0 : m < 0
  · rw [decide_eq_true h0] at c0
    simp [mf22, c0, fb, -evBin, -frz]
  · rw [decide_eq_false h0] at c0
    by_cases h1 : n < m
    · rw [decide_eq_true h1] at c1
      simp [mf22, c0, c1, fb, -evBin, -frz]
    · rw [decide_eq_false h1] at c1
      cases hd : p.all isDig with
      | false =>
        rw [hd] at mm
        simp [mf22, c0, c1, f4, mm, sc, fb, -evBin, -frz]
      | true =>
        rw [hd] at mm
        cases ho : isDig old with
        | false =>
          rw [ho] at d1
          simp [mf22, c0, c1, f4, mm, d1, sc, fb, fs, -evBin, -frz]
        | true =>
          rw [ho] at d1
          have hr : isDig root = false := by
            cases hr : isDig root with
            | false => rfl
            | true => exact absurd ⟨⟨by omega, by omega⟩, hd, ho, hr⟩ h
          rw [hr] at d2
          simp [mf22, c0, c1, f4, mm, d1, d2, sc, fb, fs, -evBin, -frz]
section
variable {old root : Str} {n m : Nat} {p : List Str} {pv : AV}
set_option maxRecDepth 100000 in
set_option maxHeartbeats 4000000 in
theorem M22_zero (hp : SlA 1 (strsA p) pv) (hpl : p.length ≤ 80) (hd : p.all isDig = true) (ho : isDig old = true) (hr : isDig root = true) : M22 [.str old, .int .i64 0, .str root, .int .i64 (n : Int), pv] = some (.bool (decide (p = []) && decide (old = sumT []))) := by
  have c0 : evBin .lss (.int .i64 0) (.int .i64 0) = some (.bool false) := rfl
  have c1 : evBin .gtr (.int .i64 0) (.int .i64 (n : Int)) = some (.bool false) := by rw [bGt]; simp
  have c2 : evBin .eql (.int .i64 0) (.int .i64 0) = some (.bool true) := rfl
  have mm := M42_eq hp (by omega)
  have d1 := M46_eq old
  have d2 := M46_eq root
  rw [hd] at mm
  rw [ho] at d1
  rw [hr] at d2
  have f4 := fun A n => hp.frz (A := A) n
  have fb := frz_b
  have fs := frz_s
  have sc : ∀ b, scalarB 4 (.bool b) = true := fun _ => rfl
  have scs : ∀ b, scalarB 4 (.str b) = true := fun _ => rfl
  have lp := hp.slen
  have e0 := eq_nat p.length 0 .i64
  rw [show ((0 : Nat) : Int) = 0 from rfl, show decide (p.length = 0) = decide (p = []) from by simp [List.length_eq_zero_iff]] at e0
  have m27 := M27_eq (s := []) (by simp)
  have e1 := eq_str old (sumT [])
  unfold M22
  rw [evP_run _ _ rfl]
  generalize decide (p = []) = b0 at *
  generalize decide (old = sumT []) = b1 at *
  generalize sumT [] = S at *
  generalize (p.length : Int) = PL at *
  generalize (n : Int) = N at *
  cases b0 <;> simp [mf22, c0, c1, c2, f4, mm, d1, d2, sc, scs, fb, fs, lp, e0, m27, e1, -evBin, -evLenSl, -frz]
set_option maxRecDepth 100000 in
set_option maxHeartbeats 4000000 in
theorem M22_same (hn0 : n ≠ 0) (hp : SlA 1 (strsA p) pv) (hpl : p.length ≤ 80) (hd : p.all isDig = true) (ho : isDig old = true) (hr : isDig root = true) : M22 [.str old, .int .i64 (n : Int), .str root, .int .i64 (n : Int), pv] = some (.bool (decide (p = []) && decide (old = root))) := by
  have c0 : evBin .lss (.int .i64 (n : Int)) (.int .i64 0) = some (.bool false) := by rw [bLt]; simp
  have c1 : evBin .gtr (.int .i64 (n : Int)) (.int .i64 (n : Int)) = some (.bool false) := by rw [bGt]; simp
  have c2 := eq_nat n 0 .i64
  rw [decide_eq_false hn0, show ((0 : Nat) : Int) = 0 from rfl] at c2
  have c3 := eq_nat n n .i64
  rw [decide_eq_true rfl] at c3
  have mm := M42_eq hp (by omega)
  have d1 := M46_eq old
  have d2 := M46_eq root
  rw [hd] at mm
  rw [ho] at d1
  rw [hr] at d2
  have f4 := fun A n => hp.frz (A := A) n
  have fb := frz_b
  have fs := frz_s
  have sc : ∀ b, scalarB 4 (.bool b) = true := fun _ => rfl
  have lp := hp.slen
  have e0 := eq_nat p.length 0 .i64
  rw [show ((0 : Nat) : Int) = 0 from rfl, show decide (p.length = 0) = decide (p = []) from by simp [List.length_eq_zero_iff]] at e0
  have e1 := eq_str old root
  unfold M22
  rw [evP_run _ _ rfl]
  generalize decide (p = []) = b0 at *
  generalize decide (old = root) = b1 at *
  generalize (p.length : Int) = PL at *
  generalize (n : Int) = N at *
  cases b0 <;> simp [mf22, c0, c1, c2, c3, f4, mm, d1, d2, sc, fb, fs, lp, e0, e1, -evBin, -evLenSl, -frz]

/-- the two values and what Backward finds, in memory -/
theorem mem22 {A : Arena} {o : AV} {w : List Side} (hF : FullW A o w) (x : Str) : ∃ A1 X, evBox 1 (.str []) A = some (.ptr A.length 0 0, A ++ [.row 1 false [.str []]]) ∧ A1 = A ++ [Ent.row 1 false [.str x], .row 1 false [.str x]] ∧ X = A1 ++ [Ent.row 1 false [o]] ∧
    (∀ hd, H44 hd [o] A1 = some (.func (.func 57) [] [.ptr (A.length + 2) 0 0], X)) ∧ BackW X (A.length + 2) o w ∧ X[A.length]? = some (.row 1 false [.str x]) ∧ X[A.length + 1]? = some (.row 1 false [.str x]) ∧ (∀ id n, o = .sl id 0 n → id ≠ A.length ∧ id ≠ A.length + 1) := by
  refine ⟨_, _, by simp [evBox], rfl, rfl, fun hd => ?_, ⟨by simp, ?_⟩, by simp, by simp, fun id n he => ?_⟩
  · have := H44_eq hd (A ++ [Ent.row 1 false [.str x], .row 1 false [.str x]]) o (by rcases hF with h | ⟨id, e1, _⟩; exact .inl h.1; exact .inr ⟨id, _, e1⟩)
    rw [show (A ++ [Ent.row 1 false [.str x], .row 1 false [.str x]]).length = A.length + 2 by simp] at this
    exact this
  · rcases hF with h | ⟨id, e1, e2, e3⟩
    · exact .inl h
    · have := (List.getElem?_eq_some_iff.1 e3).1
      exact .inr ⟨id, e1, e2, by rw [List.getElem?_append_left (by simp; omega), List.getElem?_append_left this]; exact e3⟩
  · rcases hF with h | ⟨id', e1, _, e3⟩
    · rw [h.1] at he; cases he
    · rw [e1] at he; injection he with he; have := (List.getElem?_eq_some_iff.1 e3).1; omega
theorem store22 {A : Arena} (x y z : Str) : evStore 1 (A ++ [Ent.row 1 false [.str x], .row 1 false [.str y]]) (.ptr A.length 0 0) (.str z) = some (A ++ [Ent.row 1 false [.str z], .row 1 false [.str y]]) ∧ evStore 1 (A ++ [Ent.row 1 false [.str x], .row 1 false [.str y]]) (.ptr (A.length + 1) 0 0) (.str z) = some (A ++ [Ent.row 1 false [.str x], .row 1 false [.str z]]) := by
  constructor
  · rw [store_arr (es := [.str x]) (by simp) rfl rfl rfl]; simp
  · rw [store_arr (es := [.str y]) (by simp) rfl rfl rfl]; simp
set_option maxRecDepth 100000 in
set_option maxHeartbeats 4000000 in
theorem M22_way (hm : 1 ≤ m) (hmn : m < n) (hn : n < 9223372036854775808) (hp : SlA 1 (strsA p) pv) (hpl : p.length ≤ 80) (hd : p.all isDig = true) (ho : isDig old = true) (hr : isDig root = true) : M22 [.str old, .int .i64 (m : Int), .str root, .int .i64 (n : Int), pv] = some (.bool (match upR m n true p.reverse with
    | none => false
    | some (w, q, true) => decide (q = []) && (decide (firstV w old = old) && decide (w.foldr joinT old = root))
    | some (w, [x], false) => decide (firstV w x = old) && decide (w.foldr joinT x = root)
    | some (_, _, false) => false)) := by
  have c0 : evBin .lss (.int .i64 (m : Int)) (.int .i64 0) = some (.bool false) := by rw [bLt]; simp
  have c1 := gt_nat m n .i64
  rw [decide_eq_false (by omega)] at c1
  have c2 := eq_nat m 0 .i64
  rw [decide_eq_false (by omega), show ((0 : Nat) : Int) = 0 from rfl] at c2
  have c3 := eq_nat m n .i64
  rw [decide_eq_false (by omega)] at c3
  have mm := M42_eq hp (by omega)
  have d1 := M46_eq old
  have d2 := M46_eq root
  rw [hd] at mm
  rw [ho] at d1
  rw [hr] at d2
  have f4 := fun A n => hp.frz (A := A) n
  have fb := frz_b
  have fs := frz_s
  have sc : ∀ b, scalarB 4 (.bool b) = true := fun _ => rfl
  have lp := loop22 (.str old) (.str root) p.reverse m n true [] [] .nilS pv 100 hm hn (by omega) (by rw [List.reverse_reverse]; exact hp) (.inl ⟨rfl, rfl⟩) (by simp; omega) (by simp; omega)
  cases hw : upR m n true p.reverse with
  | none =>
    rw [hw] at lp
    obtain ⟨σ, B, lp, hσ⟩ := lp
    unfold M22
    rw [evP_run _ _ rfl]
    generalize (n : Int) = N0 at *
    generalize (m : Int) = I0 at *
    simp [mf22, c0, c1, c2, c3, f4, mm, d1, d2, sc, fb, fs, go22x0 lp, hσ, -evBin, -frz]
  | some y =>
    obtain ⟨w, q, wh⟩ := y
    rw [hw] at lp
    obtain ⟨v1, v3, v4, o, A, lp, h4, hF⟩ := lp
    rw [List.nil_append] at hF
    obtain ⟨q1, q2, q3⟩ := upR_mem _ _ _ _ _ _ _ hw
    have hdl : ∀ x ∈ w, x.1.length ≤ 2000 := fun x hx => by
      have := dig_len hd (List.mem_reverse.1 (q1 x hx)); omega
    simp only [List.length_reverse] at q3
    have l4 := h4.slen
    rw [List.length_reverse] at l4
    have bx : evBox 1 (.str []) A = some (.ptr A.length 0 0, A ++ [.row 1 false [.str []]]) := by simp [evBox]
    have bx2 : evBox 1 (.str []) (A ++ [.row 1 false [.str []]]) = some (.ptr (A.length + 1) 0 0, A ++ [.row 1 false [.str []], .row 1 false [.str []]]) := by simp [evBox]
    have s1 := (store22 (A := A) [] [] old).1
    have s2 := (store22 (A := A) old [] old).2
    cases wh with
    | true =>
      have h32 := isDig_len ho
      obtain ⟨A1, X, _, hA1, hX, c44, hB, hXr, hXr2, hor⟩ := mem22 hF old
      have e1 : (outs1 old w w.length) = old := by simp [outs1, firstV]
      have e2 : (outsV old w w.length) = old := by simp [outsV]
      have rg := fun v0 v1 v2 v3 v4 v5 v6 v7 v8 v9 v10 v11 v14 v15 v16 v17 v18 v19 v20 v21 v22 v24 v25 v26 K => range22 (r := A.length) (r2 := A.length + 1) (o1 := outs1 old w) (o2 := outsV old w) (by omega) hB (by omega) (by rw [e1]; exact hXr) (by rw [e2]; exact hXr2) (by omega) (by omega) hor hdl (fun i => by have := firstV_len old h32 (w.drop i); unfold outs1; omega) (fun i => by have := outsV_len old h32 w i; omega) (outs1_step old w) (outsV_step old w) v0 v1 v2 v3 v4 v5 v6 v7 v8 v9 v10 v11 v14 v15 v16 v17 v18 v19 v20 v21 v22 v24 v25 v26 K
      have ldf : evLoad false 1 (TCk (X ++ [.dead]) A.length (A.length + 1) w (outs1 old w) (outsV old w) w.length) (.ptr A.length 0 0) = some (.str (firstV w old)) := by
        refine load_arr (es := [.str (firstV w old)]) ?_ rfl rfl
        rw [TCk_out (by omega) (by rw [List.getElem?_append_left (List.getElem?_eq_some_iff.1 hXr).1, e1]; exact hXr) _ (Nat.le_refl _), Nat.sub_self, outs1, List.drop_zero]
      have ldf2 : evLoad false 1 (TCk (X ++ [.dead]) A.length (A.length + 1) w (outs1 old w) (outsV old w) w.length) (.ptr (A.length + 1) 0 0) = some (.str (w.foldr joinT old)) := by
        refine load_arr (es := [.str (w.foldr joinT old)]) ?_ rfl rfl
        rw [TCk_out2 (by rw [List.getElem?_append_left (List.getElem?_eq_some_iff.1 hXr2).1, e2]; exact hXr2) _ (Nat.le_refl _), Nat.sub_self, outsV, List.drop_zero]
      have e0 := eq_nat q.length 0 .i64
      rw [show ((0 : Nat) : Int) = 0 from rfl, show decide (q.length = 0) = decide (q = []) from by simp [List.length_eq_zero_iff]] at e0
      have e3 := eq_str (firstV w old) old
      have e4 := eq_str (w.foldr joinT old) root
      rw [← hA1] at s2
      unfold M22
      rw [evP_run _ _ rfl]
      simp only
      generalize decide (q = []) = b0 at *
      generalize decide (firstV w old = old) = b1 at *
      generalize decide (w.foldr joinT old = root) = b2 at *
      generalize TCk (X ++ [.dead]) A.length (A.length + 1) w (outs1 old w) (outsV old w) w.length = FIN at *
      generalize w.foldr joinT old = WF at *
      generalize firstV w old = FV at *
      generalize (n : Int) = N0 at *
      generalize (m : Int) = I0 at *
      generalize (q.length : Int) = QL at *
      generalize A ++ [Ent.row 1 false [.str []]] = A0 at *
      generalize A ++ [Ent.row 1 false [.str []], .row 1 false [.str []]] = A00 at *
      generalize A ++ [Ent.row 1 false [.str old], .row 1 false [.str []]] = A000 at *
      clear hA1 hX hB hXr hXr2 hF hor
      cases b0 <;> cases b1 <;> simp [mf22, c0, c1, c2, c3, f4, mm, d1, d2, sc, fb, fs, go22x0 lp, bx, bx2, s1, s2, c44, rg, l4, e0, ldf, ldf2, e3, e4, -evBin, -evLenSl, -evLoad, -evStore, -evBox, -frz]
    | false =>
      have n0 := ne_nat q.length 1 .i64
      rw [show ((1 : Nat) : Int) = 1 from rfl] at n0
      by_cases hq : q.length = 1
      · obtain ⟨x, rfl⟩ : ∃ x, q = [x] := by
          match q, hq with
          | [x], _ => exact ⟨x, rfl⟩
        have h32 : x.length = 32 := dig_len hd (List.mem_reverse.1 (q2 x (by simp)))
        rw [decide_eq_true hq] at n0
        obtain ⟨A1, X, _, hA1, hX, c44, hB, hXr, hXr2, hor⟩ := mem22 hF x
        have e1 : (outs1 x w w.length) = x := by simp [outs1, firstV]
        have e2 : (outsV x w w.length) = x := by simp [outsV]
        have rg := fun v0 v1 v2 v3 v4 v5 v6 v7 v8 v9 v10 v11 v14 v15 v16 v17 v18 v19 v20 v21 v22 v24 v25 v26 K => range22 (r := A.length) (r2 := A.length + 1) (o1 := outs1 x w) (o2 := outsV x w) (by omega) hB (by omega) (by rw [e1]; exact hXr) (by rw [e2]; exact hXr2) (by omega) (by omega) hor hdl (fun i => by have := firstV_len x h32 (w.drop i); unfold outs1; omega) (fun i => by have := outsV_len x h32 w i; omega) (outs1_step x w) (outsV_step x w) v0 v1 v2 v3 v4 v5 v6 v7 v8 v9 v10 v11 v14 v15 v16 v17 v18 v19 v20 v21 v22 v24 v25 v26 K
        have ldf : evLoad false 1 (TCk (X ++ [.dead]) A.length (A.length + 1) w (outs1 x w) (outsV x w) w.length) (.ptr A.length 0 0) = some (.str (firstV w x)) := by
          refine load_arr (es := [.str (firstV w x)]) ?_ rfl rfl
          rw [TCk_out (by omega) (by rw [List.getElem?_append_left (List.getElem?_eq_some_iff.1 hXr).1, e1]; exact hXr) _ (Nat.le_refl _), Nat.sub_self, outs1, List.drop_zero]
        have ldf2 : evLoad false 1 (TCk (X ++ [.dead]) A.length (A.length + 1) w (outs1 x w) (outsV x w) w.length) (.ptr (A.length + 1) 0 0) = some (.str (w.foldr joinT x)) := by
          refine load_arr (es := [.str (w.foldr joinT x)]) ?_ rfl rfl
          rw [TCk_out2 (by rw [List.getElem?_append_left (List.getElem?_eq_some_iff.1 hXr2).1, e2]; exact hXr2) _ (Nat.le_refl _), Nat.sub_self, outsV, List.drop_zero]
        have ix := fun A => h4.strs (i := 0) (s := x) (by simp) (A := A) .i64
        rw [show ((0 : Nat) : Int) = 0 from rfl] at ix
        have h4' : v4 = .fs 1 [.str x] := by
          rcases h4 with ⟨_, h0⟩ | h0
          · simp [strsA] at h0
          · exact h0
        subst h4'
        have s3 := (store22 (A := A) old old x).1
        have s4 := (store22 (A := A) x old x).2
        rw [← hA1] at s4
        have e0 : evBin .eql (.int .i64 0) (.int .i64 0) = some (.bool true) := rfl
        have l0 : evLenSl .nilS = some (.int .i64 0) := rfl
        have e3 := eq_str (firstV w x) old
        have e4 := eq_str (w.foldr joinT x) root
        unfold M22
        rw [evP_run _ _ rfl]
        simp only
        simp only [List.length_cons, List.length_nil, Nat.zero_add] at l4 n0
        rw [show ((1 : Nat) : Int) = 1 from rfl] at l4 n0
        generalize decide (firstV w x = old) = b1 at *
        generalize decide (w.foldr joinT x = root) = b2 at *
        generalize TCk (X ++ [.dead]) A.length (A.length + 1) w (outs1 x w) (outsV x w) w.length = FIN at *
        generalize w.foldr joinT x = WF at *
        generalize firstV w x = FV at *
        generalize (n : Int) = N0 at *
        generalize (m : Int) = I0 at *
        generalize A ++ [Ent.row 1 false [.str []]] = A0 at *
        generalize A ++ [Ent.row 1 false [.str []], .row 1 false [.str []]] = A00 at *
        generalize A ++ [Ent.row 1 false [.str old], .row 1 false [.str []]] = A000 at *
        generalize A ++ [Ent.row 1 false [.str old], .row 1 false [.str old]] = A0000 at *
        generalize A ++ [Ent.row 1 false [.str x], .row 1 false [.str old]] = A00000 at *
        clear hA1 hX hB hXr hXr2 hF hor
        cases b1 <;> simp [mf22, c0, c1, c2, c3, f4, mm, d1, d2, sc, fb, fs, go22x0 lp, bx, bx2, s1, s2, n0, l4, l0, ix, load_fp1, s3, s4, c44, rg, e0, ldf, ldf2, e3, e4, -evBin, -evLenSl, -evLoad, -evStore, -evIndexSl, -evBox, -frz]
      · rw [decide_eq_false hq] at n0
        have hres : (match (some (w, q, false) : Option (List Side × List Str × Bool)) with
          | none => false
          | some (w, q, true) => decide (q = []) && (decide (firstV w old = old) && decide (w.foldr joinT old = root))
          | some (w, [x], false) => decide (firstV w x = old) && decide (w.foldr joinT x = root)
          | some (_, _, false) => false) = false := by
          match q, hq with
          | [], _ => rfl
          | [x], h => exact absurd rfl h
          | x :: y :: r, _ => rfl
        rw [hres]
        unfold M22
        rw [evP_run _ _ rfl]
        generalize (n : Int) = N0 at *
        generalize (m : Int) = I0 at *
        generalize (q.length : Int) = QL at *
        generalize A ++ [Ent.row 1 false [.str []]] = A0 at *
        generalize A ++ [Ent.row 1 false [.str []], .row 1 false [.str []]] = A00 at *
        generalize A ++ [Ent.row 1 false [.str old], .row 1 false [.str []]] = A000 at *
        simp [mf22, c0, c1, c2, c3, f4, mm, d1, d2, sc, fb, fs, go22x0 lp, bx, bx2, s1, s2, n0, l4, -evBin, -evLenSl, -evLoad, -evStore, -evBox, -frz]
end
theorem M22_eq (old root : Str) {n m : Int} (hn : n < 9223372036854775808) {p : List Str} {pv : AV} (hp : SlA 1 (strsA p) pv) (hpl : p.length ≤ 80) : M22 [.str old, .int .i64 m, .str root, .int .i64 n, pv] = some (.bool (verifyX old m root n p)) := by
  unfold verifyX
  by_cases h : (0 ≤ m ∧ m ≤ n) ∧ p.all isDig = true ∧ isDig old = true ∧ isDig root = true
  · rw [if_pos h]
    obtain ⟨⟨h0, h1⟩, hd, ho, hr⟩ := h
    obtain ⟨N, rfl⟩ : ∃ N : Nat, n = N := ⟨n.toNat, by omega⟩
    obtain ⟨I, rfl⟩ : ∃ I : Nat, m = I := ⟨m.toNat, by omega⟩
    by_cases hz : (I : Int) = 0
    · rw [if_pos hz, hz]
      exact M22_zero hp hpl hd ho hr
    · rw [if_neg hz]
      by_cases he : (I : Int) = N
      · rw [if_pos he, he]
        exact M22_same (by omega) hp hpl hd ho hr
      · rw [if_neg he]
        simp only [Int.toNat_natCast]
        exact M22_way (by omega) (by omega) (by omega) hp hpl hd ho hr
  · rw [if_neg h]
    exact M22_no old root hp hpl h
end Go.Proofs.YtgbnngmpaefbcaaDoor
/-
  Digest: few (12), binary (20), Same (17), hex (36).
-/
namespace Go.Proofs.YtgbnngmpaefbcaaDoor
open Go

/-- a string cut -/
def cut60 (s : Str) : Str := s.take 60
def fewT (l : List Str) (n : Nat) : List Str := (l.take n).map cut60
theorem cut60_len (s : Str) : (cut60 s).length ≤ 60 := by simp [cut60]; omega
theorem fewT_len (l : List Str) (n : Nat) : (fewT l n).length ≤ n := by simp [fewT]; omega
theorem fewT_mem {l : List Str} {n : Nat} {s : Str} (h : s ∈ fewT l n) : s.length ≤ 60 := by
  obtain ⟨x, _, rfl⟩ := List.mem_map.1 h
  exact cut60_len x
theorem min60 (s : Str) : evMinL false (.int .i64 (s.length : Int)) [.int .i64 60] = some (.int .i64 ((min s.length 60 : Nat) : Int)) := by
  have := min2_nat s.length 60 .i64 .i64
  simp only [evMinL]
  rw [show (.int .i64 60 : AV) = .int .i64 ((60 : Nat) : Int) from rfl, this]
theorem cutS60 (s : Str) : evSliceStr none (some (.int .i64 ((min s.length 60 : Nat) : Int))) (.str s) = some (.str (cut60 s)) := by
  have h : min s.length 60 ≤ s.length := by omega
  have : s.take (min s.length 60) = cut60 s := by
    rw [cut60]
    by_cases h60 : s.length ≤ 60
    · rw [Nat.min_eq_left h60, List.take_of_length_le (Nat.le_refl _), List.take_of_length_le h60]
    · rw [Nat.min_eq_right (by omega)]
  rw [← this]
  simp only [evSliceStr, evBounds, loB, hi_nat .i64 h, if_pos (Nat.zero_le _), Option.map_some, List.drop_zero, Nat.sub_zero]
theorem lenS (s : Str) : evLenStr (.str s) = some (.int .i64 (s.length : Int)) := by simp [evLenStr]
set_option maxRecDepth 100000 in
set_option maxHeartbeats 4000000 in
theorem loop12 {l : List Str} {a : AV} (ha : SlA 1 (strsA l) a) (n : Nat) (hn : n ≤ 90) : ∀ (c i : Nat) (A : Arena) (o : AV) (m : Nat), i + c = min l.length n → FullN A o (strsA (fewT l i)) → c < m →
    ∃ o' A', iter (evC (envOf GD []) 100 lp12x0) mask12x0 m (st12x0 a (.int .i64 (n : Int)) o (.int .i64 (i : Int))) A = some (.exit 0 ((st12x0 a (.int .i64 (n : Int)) o' (.int .i64 ((min l.length n : Nat) : Int))).set 5 (.bool false)) A') ∧ FullN A' o' (strsA (fewT l n)) := by
  have la := ha.slen
  intro c
  induction c with
  | zero =>
    intro i A o m hi hF hm
    obtain ⟨m, rfl⟩ : ∃ k, m = k + 1 := ⟨m - 1, by omega⟩
    have hfe : fewT l i = fewT l n := by
      unfold fewT
      congr 1
      rw [show i = min l.length n by omega]
      by_cases h : l.length ≤ n
      · rw [Nat.min_eq_left h, List.take_of_length_le (Nat.le_refl _), List.take_of_length_le h]
      · rw [Nat.min_eq_right (by omega)]
    rw [hfe] at hF
    refine ⟨o, A, ?_, hF⟩
    obtain rfl : i = min l.length n := by omega
    have c0 := Dlt_nat (min l.length n) l.length .i64
    have c1 := Dlt_nat (min l.length n) n .i64
    rw [iter_succ, cl12x0]
    by_cases h : l.length ≤ n
    · rw [decide_eq_false (by omega)] at c0
      generalize ((min l.length n : Nat) : Int) = M at *
      generalize (l.length : Int) = L at *
      generalize (n : Int) = N at *
      simp [lp12x0, la, c0, -evBin, -evLenSl]
    · rw [decide_eq_true (by omega)] at c0
      rw [decide_eq_false (by omega)] at c1
      generalize ((min l.length n : Nat) : Int) = M at *
      generalize (l.length : Int) = L at *
      generalize (n : Int) = N at *
      simp [lp12x0, la, c0, c1, -evBin, -evLenSl]
  | succ c ih =>
    intro i A o m hi hF hm
    obtain ⟨m, rfl⟩ : ∃ k, m = k + 1 := ⟨m - 1, by omega⟩
    have hil : i < l.length := by omega
    have hs : l[i]? = some l[i] := List.getElem?_eq_getElem hil
    have hfe : fewT l i ++ [cut60 l[i]] = fewT l (i + 1) := by
      unfold fewT
      rw [← List.take_append_getElem hil, List.map_append]; rfl
    obtain ⟨o1, B, a1, hF1⟩ := appN_fullN hF (cut60 l[i]) (by have := fewT_len l i; omega)
    rw [hfe] at hF1
    obtain ⟨o', A', h3, h4⟩ := ih (i + 1) B o1 m (by omega) hF1 (by omega)
    refine ⟨o', A', ?_, h4⟩
    have c0 := Dlt_nat i l.length .i64
    rw [decide_eq_true hil] at c0
    have c1 := Dlt_nat i n .i64
    rw [decide_eq_true (by omega)] at c1
    have ix := fun A => ha.strs hs (A := A) .i64
    have l0 := lenS l[i]
    have mn := min60 l[i]
    have sl := cutS60 l[i]
    have p0 := Dadd_nat i 1 (by omega)
    rw [show ((1 : Nat) : Int) = 1 from rfl] at p0
    have hr : run (envOf GD []) 100 [.code lp12x0] (st12x0 a (.int .i64 (n : Int)) o (.int .i64 (i : Int))) A = some (.normal (st12x0 a (.int .i64 (n : Int)) o1 (.int .i64 ((i + 1 : Nat) : Int))) B) := by
      generalize ((i + 1 : Nat) : Int) = I1 at *
      generalize (i : Int) = I0 at *
      generalize ((min l[i].length 60 : Nat) : Int) = M at *
      generalize (l[i].length : Int) = L1 at *
      generalize (l.length : Int) = L at *
      generalize (n : Int) = N at *
      generalize cut60 l[i] = CS at *
      simp [lp12x0, la, c0, c1, ix, load_fp1, l0, mn, sl, a1, p0, -evBin, -evLenSl, -evIndexSl, -evLoad, -evLenStr, -evMinL, -evSliceStr]
    rw [iter_succ, cl12x0, hr]
    exact h3
noncomputable def M12 : PModel := fun args => evF (envOf GD []) 100 mf12 4 args
theorem spec12 : PureSpecF Tryd.prog GD 12 M12 := PureSpecF.of_ev (E := envOf GD []) (envOf_sound lookM_nil) rfl at12 comp12 4 fun _ _ h => ⟨100, h⟩
theorem M12_eq {l : List Str} {a : AV} (ha : SlA 1 (strsA l) a) {n : Nat} (hn : n ≤ 90) : ∃ r, M12 [a, .int .i64 (n : Int)] = some r ∧ SlA 1 (strsA (fewT l n)) r := by
  obtain ⟨o', A', lp, hF⟩ := loop12 ha n hn (min l.length n) 0 [] .nilS 100 (by omega) (.inl ⟨rfl, by simp [fewT, strsA]⟩) (by omega)
  obtain ⟨q1, q2⟩ := hF.fin 2
  refine ⟨frz A' 4 o', ?_, q1⟩
  rw [show ((0 : Nat) : Int) = 0 from rfl] at lp
  unfold M12
  rw [evF_run _ _ rfl]
  generalize ((min l.length n : Nat) : Int) = M at *
  generalize (n : Int) = N at *
  simp [mf12, go12x0 lp, pack, q2, -frz]

/-! ### binary -/
theorem loop20 : ∀ (k n c m : Nat), n < 2 ^ k → k ≤ 40 → c + k ≤ 100 → k < m → n < 9223372036854775808 →
    iter (evC (envOf GD []) 100 lp20x0) mask20x0 m (st20x0 (.int .i64 (n : Int)) (.int .i64 (c : Int))) [] = some (.exit 0 ((st20x0 (.int .i64 0) (.int .i64 ((c + Lib.bitLen n : Nat) : Int))).set 3 (.bool false)) []) := by
  intro k
  induction k with
  | zero =>
    intro n c m hn _ hc hm _
    obtain ⟨m, rfl⟩ : ∃ j, m = j + 1 := ⟨m - 1, by omega⟩
    obtain rfl : n = 0 := by simpa using hn
    have b0 : evBin .gtr (.int .i64 0) (.int .i64 0) = some (.bool false) := rfl
    rw [iter_succ, cl20x0, show Lib.bitLen 0 = 0 by decide, Nat.add_zero, show ((0 : Nat) : Int) = 0 from rfl]
    generalize (c : Int) = C at *
    simp [lp20x0, b0, -evBin]
  | succ k ih =>
    intro n c m hn hk hc hm hb
    obtain ⟨m, rfl⟩ : ∃ j, m = j + 1 := ⟨m - 1, by omega⟩
    by_cases h0 : n = 0
    · subst h0
      have b0 : evBin .gtr (.int .i64 0) (.int .i64 0) = some (.bool false) := rfl
      rw [iter_succ, cl20x0, show Lib.bitLen 0 = 0 by decide, Nat.add_zero, show ((0 : Nat) : Int) = 0 from rfl]
      generalize (c : Int) = C at *
      simp [lp20x0, b0, -evBin]
    · have hh := Lib.bitLen_half n h0 (by omega)
      have := ih (n / 2) (c + 1) m (by rw [Nat.pow_succ] at hn; omega) (by omega) (by omega) (by omega) (by omega)
      have b0 := gt_nat n 0 .i64
      rw [decide_eq_true (by omega), show ((0 : Nat) : Int) = 0 from rfl] at b0
      have p0 := Dadd_nat c 1 (by omega)
      have q0 : evBin .quo (.int .i64 (n : Int)) (.int .i64 2) = some (.int .i64 ((n / 2 : Nat) : Int)) := by
        have e : (n : Int).tdiv 2 = ((n / 2 : Nat) : Int) := by
          rw [Int.tdiv_eq_ediv_of_nonneg (Int.natCast_nonneg n)]; norm_cast
        simp only [evBin, if_true, e]
        rw [wrapI (by unfold inI; omega)]
        rfl
      rw [show c + 1 + Lib.bitLen (n / 2) = c + Lib.bitLen n by omega] at this
      rw [show ((1 : Nat) : Int) = 1 from rfl] at p0
      have hr : run (envOf GD []) 100 [.code lp20x0] (st20x0 (.int .i64 (n : Int)) (.int .i64 (c : Int))) [] = some (.normal (st20x0 (.int .i64 ((n / 2 : Nat) : Int)) (.int .i64 ((c + 1 : Nat) : Int))) []) := by
        generalize ((n / 2 : Nat) : Int) = N2 at *
        generalize ((c + 1 : Nat) : Int) = C1 at *
        generalize (c : Int) = C at *
        generalize (n : Int) = N at *
        simp [lp20x0, b0, p0, q0, -evBin]
      rw [iter_succ, cl20x0, hr]
      exact this
noncomputable def M20 : PModel := fun args => evP (envOf GD []) 100 mf20 1 args
theorem spec20 : PureSpec Tryd.prog GD 20 M20 := PureSpec.of_ev (E := envOf GD []) (envOf_sound lookM_nil) rfl at20 comp20 1 fun _ _ h => ⟨100, h⟩
theorem M20_eq {n : Nat} (hn : n < 1000000) : M20 [.int .i64 (n : Int)] = some (.int .i64 (Lib.bitLen n : Int)) := by
  have lp := loop20 20 n 0 100 (by omega) (by omega) (by omega) (by omega) (by omega)
  rw [Nat.zero_add, show ((0 : Nat) : Int) = 0 from rfl] at lp
  have fi := frz_i
  unfold M20
  rw [evP_run _ _ rfl]
  generalize (Lib.bitLen n : Int) = R at *
  generalize (n : Int) = N at *
  simp [mf20, go20x0 lp, fi, -frz]

/-! ### Same -/
theorem ne_str (a b : Str) : evBin .neq (.str a) (.str b) = some (.bool (!decide (a = b))) := by
  simp only [evBin]
  by_cases h : a = b <;> simp [h]
set_option maxRecDepth 100000 in
set_option maxHeartbeats 4000000 in
theorem loop17 {l k : List Str} {a b : AV} (ha : SlA 1 (strsA l) a) (hb : SlA 1 (strsA k) b) (hlk : l.length = k.length) (hl : l.length ≤ 1000000) : ∀ (r q : List Str) (i m : Nat), i ≤ l.length → l.drop i = r → k.drop i = q → r.length < m →
    ∃ σ, iter (evC (envOf GD []) 200 lp17x0) mask17x0 m (st17x0 a b (.int .i64 (i : Int))) [] = some (if r = q then .exit 0 ((st17x0 a b (.int .i64 (l.length : Int))).set 5 (.bool false)) [] else .ret σ []) ∧ (r ≠ q → σ[2]? = some (.bool false)) := by
  have la := ha.slen
  intro r
  induction r with
  | nil =>
    intro q i m hil hr hq hm
    obtain ⟨m, rfl⟩ : ∃ k, m = k + 1 := ⟨m - 1, by omega⟩
    have : l.length ≤ i := List.drop_eq_nil_iff.1 hr
    obtain rfl : i = l.length := by omega
    obtain rfl : q = [] := by rw [← hq]; exact List.drop_eq_nil_iff.2 (by omega)
    refine ⟨[], ?_, fun h => absurd rfl h⟩
    have c0 := Dlt_nat l.length l.length .i64
    rw [decide_eq_false (by omega)] at c0
    rw [iter_succ, cl17x0, if_pos rfl]
    generalize (l.length : Int) = N at *
    simp [lp17x0, la, c0, -evBin, -evLenSl]
  | cons s r ih =>
    intro q i m hil hr hq hm
    obtain ⟨m, rfl⟩ : ∃ k, m = k + 1 := ⟨m - 1, by omega⟩
    obtain ⟨h1, h2, h3⟩ := drop_cons hr
    obtain ⟨t, q', rfl⟩ : ∃ t q', q = t :: q' := by
      cases q with
      | nil => have := List.drop_eq_nil_iff.1 hq; omega
      | cons t q' => exact ⟨t, q', rfl⟩
    obtain ⟨g1, g2, g3⟩ := drop_cons hq
    have c0 := Dlt_nat i l.length .i64
    rw [decide_eq_true h3] at c0
    have ix := fun A => ha.strs h1 (A := A) .i64
    have iy := fun A => hb.strs g1 (A := A) .i64
    have e0 := ne_str s t
    have p0 := Dadd_nat i 1 (by omega)
    rw [show ((1 : Nat) : Int) = 1 from rfl] at p0
    by_cases hst : s = t
    · subst hst
      obtain ⟨σ, i1, i2⟩ := ih q' (i + 1) m (by omega) h2 g2 (by simpa using hm)
      refine ⟨σ, ?_, fun h => i2 fun e => h (by rw [e])⟩
      rw [decide_eq_true rfl] at e0
      have hr : run (envOf GD []) 200 [.code lp17x0] (st17x0 a b (.int .i64 (i : Int))) [] = some (.normal (st17x0 a b (.int .i64 ((i + 1 : Nat) : Int))) []) := by
        generalize ((i + 1 : Nat) : Int) = I1 at *
        generalize (i : Int) = I0 at *
        generalize (l.length : Int) = N at *
        simp [lp17x0, la, c0, ix, iy, load_fp1, e0, p0, -evBin, -evLenSl, -evIndexSl, -evLoad]
      rw [iter_succ, cl17x0, hr]
      simp only [List.cons.injEq, true_and]
      exact i1
    · rw [decide_eq_false hst] at e0
      refine ⟨[a, b, .bool false, .int .i64 (i : Int), .undef, .bool true, .bool true], ?_, fun _ => rfl⟩
      rw [iter_succ, cl17x0, if_neg (by intro h; injection h with h; exact hst h)]
      generalize (i : Int) = I0 at *
      generalize (l.length : Int) = N at *
      simp [lp17x0, la, c0, ix, iy, load_fp1, e0, -evBin, -evLenSl, -evIndexSl, -evLoad]
noncomputable def M17 : PModel := fun args => evP (envOf GD []) 200 mf17 1 args
theorem spec17 : PureSpec Tryd.prog GD 17 M17 := PureSpec.of_ev (E := envOf GD []) (envOf_sound lookM_nil) rfl at17 comp17 1 fun _ _ h => ⟨200, h⟩
theorem M17_eq {l k : List Str} {a b : AV} (ha : SlA 1 (strsA l) a) (hb : SlA 1 (strsA k) b) (hl : l.length ≤ 150) : M17 [a, b] = some (.bool (decide (l = k))) := by
  have la := ha.slen
  have lb := hb.slen
  have n0 := ne_nat l.length k.length .i64
  have fb := frz_b
  by_cases hlk : l.length = k.length
  · obtain ⟨σ, lp, hσ⟩ := loop17 ha hb hlk (by omega) l k 0 200 (by omega) rfl rfl (by omega)
    rw [decide_eq_true hlk] at n0
    rw [show ((0 : Nat) : Int) = 0 from rfl] at lp
    by_cases h : l = k
    · rw [if_pos h] at lp
      rw [decide_eq_true h]
      unfold M17
      rw [evP_run _ _ rfl]
      generalize (l.length : Int) = N at *
      generalize (k.length : Int) = N2 at *
      simp [mf17, la, lb, n0, go17x0 lp, fb, -evBin, -evLenSl, -frz]
    · rw [if_neg h] at lp
      have hσ := hσ h
      rw [decide_eq_false h]
      unfold M17
      rw [evP_run _ _ rfl]
      generalize (l.length : Int) = N at *
      generalize (k.length : Int) = N2 at *
      simp [mf17, la, lb, n0, go17x0 lp, hσ, fb, -evBin, -evLenSl, -frz]
  · rw [decide_eq_false hlk] at n0
    have h : l ≠ k := fun h => hlk (by rw [h])
    rw [decide_eq_false h]
    unfold M17
    rw [evP_run _ _ rfl]
    generalize (l.length : Int) = N at *
    generalize (k.length : Int) = N2 at *
    simp [mf17, la, lb, n0, fb, -evBin, -evLenSl, -frz]

/-! ### hex -/
def hexD : List UInt8 := [48, 49, 50, 51, 52, 53, 54, 55, 56, 57, 97, 98, 99, 100, 101, 102]
def hexB (b : UInt8) : Str := [hexD.getD (b.toNat / 16) 0, hexD.getD (b.toNat % 16) 0]
def hexT (s : Str) : Str := s.flatMap hexB
theorem dig_cut (q : Nat) (h : q < 16) : evSliceStr (some (.int .u8 (q : Int))) (some (.int .u8 ((q + 1 : Nat) : Int))) (.str hexD) = some (.str [hexD.getD q 0]) := by
  have : q = 0 ∨ q = 1 ∨ q = 2 ∨ q = 3 ∨ q = 4 ∨ q = 5 ∨ q = 6 ∨ q = 7 ∨ q = 8 ∨ q = 9 ∨ q = 10 ∨ q = 11 ∨ q = 12 ∨ q = 13 ∨ q = 14 ∨ q = 15 := by omega
  rcases this with rfl | rfl | rfl | rfl | rfl | rfl | rfl | rfl | rfl | rfl | rfl | rfl | rfl | rfl | rfl | rfl <;> rfl
theorem wrap8 (n : Nat) (h : n < 256) : IntKind.u8.wrap (n : Int) = (n : Int) := by
  simp only [IntKind.wrap, IntKind.signed, IntKind.bits, Bool.false_and, Bool.false_eq_true, if_false]
  omega
set_option maxRecDepth 100000 in
set_option maxHeartbeats 4000000 in
theorem round36 {s : Str} {i : Nat} (hi : i < s.length) {out : Str} (ho : out.length ≤ 100000) (hs : s.length ≤ 100000) :
    run (envOf GD []) 100 [.code lp36x0] (st36x0 (.str s) (.str out) (.int .i64 (i : Int))) [] = some (.normal (st36x0 (.str s) (.str (out ++ hexB s[i])) (.int .i64 ((i + 1 : Nat) : Int))) []) := by
  have hb : s[i].toNat < 256 := s[i].toNat_lt
  have c0 := Dlt_nat i s.length .i64
  rw [decide_eq_true hi] at c0
  have ls := lenS s
  have p0 := Dadd_nat i 1 (by omega)
  have ix : evIndexStr (.str s) (.int .i64 (i : Int)) = some (.int .u8 (s[i].toNat : Int)) := by
    simp [evIndexStr, hi]
  have q0 : evBin .quo (.int .u8 (s[i].toNat : Int)) (.int .u8 16) = some (.int .u8 ((s[i].toNat / 16 : Nat) : Int)) := by
    have e : (s[i].toNat : Int).tdiv 16 = ((s[i].toNat / 16 : Nat) : Int) := by
      rw [Int.tdiv_eq_ediv_of_nonneg (Int.natCast_nonneg _)]; norm_cast
    simp only [evBin, if_true, e]
    rw [wrap8 _ (by omega)]
    rfl
  have r0 : evBin .rem (.int .u8 (s[i].toNat : Int)) (.int .u8 16) = some (.int .u8 ((s[i].toNat % 16 : Nat) : Int)) := by
    have e : (s[i].toNat : Int).tmod 16 = ((s[i].toNat % 16 : Nat) : Int) := by
      rw [Int.tmod_eq_emod_of_nonneg (Int.natCast_nonneg _)]; norm_cast
    simp only [evBin, if_true, e]
    rfl
  have a0 : evBin .add (.int .u8 ((s[i].toNat / 16 : Nat) : Int)) (.int .u8 1) = some (.int .u8 ((s[i].toNat / 16 + 1 : Nat) : Int)) := by
    simp only [evBin, if_true]
    rw [show ((s[i].toNat / 16 : Nat) : Int) + 1 = ((s[i].toNat / 16 + 1 : Nat) : Int) by omega, wrap8 _ (by omega)]
  have a1 : evBin .add (.int .u8 ((s[i].toNat % 16 : Nat) : Int)) (.int .u8 1) = some (.int .u8 ((s[i].toNat % 16 + 1 : Nat) : Int)) := by
    simp only [evBin, if_true]
    rw [show ((s[i].toNat % 16 : Nat) : Int) + 1 = ((s[i].toNat % 16 + 1 : Nat) : Int) by omega, wrap8 _ (by omega)]
  have d0 := dig_cut (s[i].toNat / 16) (by omega)
  have d1 := dig_cut (s[i].toNat % 16) (by omega)
  have s0 : evBin .add (.str out) (.str [hexD.getD (s[i].toNat / 16) 0]) = some (.str (out ++ [hexD.getD (s[i].toNat / 16) 0])) := by
    have : out.length + 1 ≤ 9223372036854775807 := by omega
    simp [evBin, this]
  have s1 : evBin .add (.str (out ++ [hexD.getD (s[i].toNat / 16) 0])) (.str [hexD.getD (s[i].toNat % 16) 0]) = some (.str (out ++ hexB s[i])) := by
    have : out.length + 1 + 1 ≤ 9223372036854775807 := by omega
    simp [evBin, this, hexB]
  rw [show ((1 : Nat) : Int) = 1 from rfl] at p0
  unfold hexD at d0 d1
  change _ = some (AV.str [hexD.getD (s[i].toNat / 16) 0]) at d0
  change _ = some (AV.str [hexD.getD (s[i].toNat % 16) 0]) at d1
  generalize hexD.getD (s[i].toNat / 16) 0 = X0 at *
  generalize hexD.getD (s[i].toNat % 16) 0 = X1 at *
  generalize out ++ hexB s[i] = O2 at *
  generalize out ++ [X0] = O1 at *
  generalize ((s[i].toNat / 16 + 1 : Nat) : Int) = Q1 at *
  generalize ((s[i].toNat % 16 + 1 : Nat) : Int) = R1 at *
  generalize ((s[i].toNat / 16 : Nat) : Int) = Q0 at *
  generalize ((s[i].toNat % 16 : Nat) : Int) = R0 at *
  generalize (s[i].toNat : Int) = B0 at *
  generalize ((i + 1 : Nat) : Int) = I1 at *
  generalize (i : Int) = I0 at *
  generalize (s.length : Int) = N at *
  simp [lp36x0, c0, ls, p0, ix, q0, r0, a0, a1, d0, d1, s0, s1, -evBin, -evIndexStr, -evSliceStr, -evLenStr]
theorem loop36 {s : Str} (hs : s.length ≤ 1000) : ∀ (c i : Nat) (m : Nat), i + c = s.length → c < m →
    iter (evC (envOf GD []) 100 lp36x0) mask36x0 m (st36x0 (.str s) (.str (hexT (s.take i))) (.int .i64 (i : Int))) [] = some (.exit 0 ((st36x0 (.str s) (.str (hexT s)) (.int .i64 (s.length : Int))).set 4 (.bool false)) []) := by
  have ls := lenS s
  intro c
  induction c with
  | zero =>
    intro i m hi hm
    obtain ⟨m, rfl⟩ : ∃ k, m = k + 1 := ⟨m - 1, by omega⟩
    obtain rfl : i = s.length := by omega
    have c0 := Dlt_nat s.length s.length .i64
    rw [decide_eq_false (by omega)] at c0
    rw [iter_succ, cl36x0, List.take_length]
    generalize (s.length : Int) = N at *
    simp [lp36x0, ls, c0, -evBin, -evLenStr]
  | succ c ih =>
    intro i m hi hm
    obtain ⟨m, rfl⟩ : ∃ k, m = k + 1 := ⟨m - 1, by omega⟩
    have hil : i < s.length := by omega
    have hl : ∀ t : Str, (hexT t).length = 2 * t.length := fun t => by
      induction t with
      | nil => rfl
      | cons a t iht => simp [hexT, hexB] at iht ⊢; omega
    have := ih (i + 1) m (by omega) (by omega)
    rw [iter_succ, cl36x0, round36 hil (by rw [hl]; simp; omega) (by omega)]
    rw [show hexT (s.take i) ++ hexB s[i] = hexT (s.take (i + 1)) by
      rw [← List.take_append_getElem hil, hexT, hexT, List.flatMap_append]; simp]
    exact this
noncomputable def M36 : PModel := fun args => evP (envOf GD []) 100 mf36 1 args
theorem spec36 : PureSpec Tryd.prog GD 36 M36 := PureSpec.of_ev (E := envOf GD []) (envOf_sound lookM_nil) rfl at36 comp36 1 fun _ _ h => ⟨100, h⟩
theorem M36_eq {s : Str} (hs : s.length ≤ 90) : M36 [.str s] = some (.str (hexT s)) := by
  have lp := loop36 (s := s) (by omega) s.length 0 100 (by omega) (by omega)
  rw [show ((0 : Nat) : Int) = 0 from rfl, List.take_zero, show hexT [] = [] from rfl] at lp
  have fs := frz_s
  unfold M36
  rw [evP_run _ _ rfl]
  generalize (s.length : Int) = N at *
  generalize hexT s = H at *
  simp [mf36, go36x0 lp, fs, -frz]
end Go.Proofs.YtgbnngmpaefbcaaDoor
/-
  Digest: sane (11).
-/
namespace Go.Proofs.YtgbnngmpaefbcaaDoor
open Go

noncomputable def fs11 : List (FuncId × HModel) := [(13, pureFH 4 M13), (15, pureFH 4 M15), (18, pureH 4 M18), (27, pureH 4 M27), (36, pureH 4 M36), (21, pureH 4 M21), (22, pureH 4 M22)]
@[simp] theorem fs11_13 : lookM fs11 13 = some (pureFH 4 M13) := rfl
@[simp] theorem fs11_15 : lookM fs11 15 = some (pureFH 4 M15) := rfl
@[simp] theorem fs11_18 : lookM fs11 18 = some (pureH 4 M18) := rfl
@[simp] theorem fs11_27 : lookM fs11 27 = some (pureH 4 M27) := rfl
@[simp] theorem fs11_36 : lookM fs11 36 = some (pureH 4 M36) := rfl
@[simp] theorem fs11_21 : lookM fs11 21 = some (pureH 4 M21) := rfl
@[simp] theorem fs11_22 : lookM fs11 22 = some (pureH 4 M22) := rfl
theorem sound11 : ∀ f M, lookM fs11 f = some M → FnSpecY Tryd.prog GD f M :=
  lookM_cons (FnSpec.of_pureF spec13 4).y (lookM_cons (FnSpec.of_pureF spec15 4).y (lookM_cons (FnSpecY.of_pure spec18 4) (lookM_cons (FnSpecY.of_pure spec27 4) (lookM_cons (FnSpecY.of_pure spec36 4) (lookM_cons (FnSpecY.of_pure spec21 4) (lookM_cons (FnSpecY.of_pure spec22 4) lookM_nil))))))

def sA : Str := [97]
def sB : Str := [98]
def sC : Str := [99]
theorem left2 : leftT 2 = 1 := by decide
theorem left3 : leftT 3 = 2 := by decide
theorem sane_proof : proofZ [sA, sB, sC] 2 = [rootT [sA, sB]] := by
  simp [proofZ, pathF, left3]
theorem sane_ext : extZ [sA, sB, sC] 1 = [rootT [sB], rootT [sC]] := by
  simp [extZ, extF, left3, left2]
set_option maxRecDepth 100000 in
theorem sane_hex1 : decide (hexT (sumT []) = [101, 51, 98, 48, 99, 52, 52, 50, 57, 56, 102, 99, 49, 99, 49, 52, 57, 97, 102, 98, 102, 52, 99, 56, 57, 57, 54, 102, 98, 57, 50, 52, 50, 55, 97, 101, 52, 49, 101, 52, 54, 52, 57, 98, 57, 51, 52, 99, 97, 52, 57, 53, 57, 57, 49, 98, 55, 56, 53, 50, 98, 56, 53, 53]) = true := by kernel_rfl
set_option maxRecDepth 100000 in
theorem sane_hex2 : decide (hexT (sumT [97, 98, 99]) = [98, 97, 55, 56, 49, 54, 98, 102, 56, 102, 48, 49, 99, 102, 101, 97, 52, 49, 52, 49, 52, 48, 100, 101, 53, 100, 97, 101, 50, 50, 50, 51, 98, 48, 48, 51, 54, 49, 97, 51, 57, 54, 49, 55, 55, 97, 57, 99, 98, 52, 49, 48, 102, 102, 54, 49, 102, 50, 48, 48, 49, 53, 97, 100]) = true := by kernel_rfl
set_option maxRecDepth 100000 in
theorem sane_v1 : verifyT (rootT [sA, sB, sC]) 3 2 sC [rootT [sA, sB]] = true := by kernel_rfl
set_option maxRecDepth 100000 in
theorem sane_v2 : verifyT (rootT [sA, sB, sC]) 3 2 [100] [rootT [sA, sB]] = false := by kernel_rfl
set_option maxRecDepth 100000 in
theorem sane_v3 : verifyX (rootT [sA]) 1 (rootT [sA, sB, sC]) 3 [rootT [sB], rootT [sC]] = true := by kernel_rfl
set_option maxRecDepth 100000 in
theorem sane_v4 : verifyX (rootT [sA, sB]) 1 (rootT [sA, sB, sC]) 3 [rootT [sB], rootT [sC]] = false := by kernel_rfl
end Go.Proofs.YtgbnngmpaefbcaaDoor
/-
  Digest: sane (11), walked; the slices that the laws are given.
-/
namespace Go.Proofs.YtgbnngmpaefbcaaDoor
open Go

noncomputable def M11 : PModel := fun args => evP (envOf GD fs11) 100 mf11 1 args
theorem spec11 : PureSpec Tryd.prog GD 11 M11 := PureSpec.of_ev (E := envOf GD fs11) (envOf_sound sound11) rfl at11 comp11 1 fun _ _ h => ⟨100, h⟩
theorem SlA.fs {l : List Str} {a : AV} (h : SlA 1 (strsA l) a) (hl : l ≠ []) : a = .fs 1 (strsA l) := by
  rcases h with ⟨_, h0⟩ | h0
  · have := congrArg List.length h0
    rw [strsA_len, List.length_nil] at this
    exact absurd (List.length_eq_zero_iff.1 this) hl
  · exact h0
set_option maxRecDepth 100000 in
set_option maxHeartbeats 4000000 in
theorem M11_eq : M11 [] = some (.bool true) := by
  have hs3 : ∀ s ∈ [sA, sB, sC], s.length ≤ 4000 := by simp [sA, sB, sC]
  have hs2 : ∀ s ∈ [sA, sB], s.length ≤ 4000 := by simp [sA, sB]
  have hs1 : ∀ s ∈ [sA], s.length ≤ 4000 := by simp [sA]
  obtain ⟨p, m1, hp⟩ := M13_eq (l := [sA, sB, sC]) (a := .fs 1 (strsA [sA, sB, sC])) (.inr rfl) hs3 (by simp) 2
  obtain ⟨x, m2, hx⟩ := M15_eq (l := [sA, sB, sC]) (a := .fs 1 (strsA [sA, sB, sC])) (.inr rfl) hs3 (by simp) 1
  obtain ⟨y, m3, _⟩ := M13_eq (l := [sA, sB, sC]) (a := .fs 1 (strsA [sA, sB, sC])) (.inr rfl) hs3 (by simp) 3
  rw [sane_proof] at hp
  rw [sane_ext] at hx
  have hp := hp.fs (by simp)
  have hx := hx.fs (by simp)
  subst hp; subst hx
  rw [show errZ [sA, sB, sC] 2 = 0 by simp [errZ]] at m1
  rw [show errX [sA, sB, sC] 1 = 0 by simp [errX]] at m2
  rw [show errZ [sA, sB, sC] 3 = 2 by simp [errZ]] at m3
  have m18a := M18_eq (l := [sA, sB, sC]) (a := .fs 1 (strsA [sA, sB, sC])) (.inr rfl) hs3 (by simp)
  have m18b := M18_eq (l := [sA, sB]) (a := .fs 1 (strsA [sA, sB])) (.inr rfl) hs2 (by simp)
  have m18c := M18_eq (l := [sA]) (a := .fs 1 (strsA [sA])) (.inr rfl) hs1 (by simp)
  have v1 := M21_eq (rootT [sA, sB, sC]) (n := 3) (i := 2) (by omega) (s := sC) (by simp [sC]) (p := [rootT [sA, sB]]) (pv := .fs 1 (strsA [rootT [sA, sB]])) (.inr rfl) (by simp)
  have v2 := M21_eq (rootT [sA, sB, sC]) (n := 3) (i := 2) (by omega) (s := [100]) (by simp) (p := [rootT [sA, sB]]) (pv := .fs 1 (strsA [rootT [sA, sB]])) (.inr rfl) (by simp)
  have v3 := M22_eq (rootT [sA]) (rootT [sA, sB, sC]) (n := 3) (m := 1) (by omega) (p := [rootT [sB], rootT [sC]]) (pv := .fs 1 (strsA [rootT [sB], rootT [sC]])) (.inr rfl) (by simp)
  have v4 := M22_eq (rootT [sA, sB]) (rootT [sA, sB, sC]) (n := 3) (m := 1) (by omega) (p := [rootT [sB], rootT [sC]]) (pv := .fs 1 (strsA [rootT [sB], rootT [sC]])) (.inr rfl) (by simp)
  rw [sane_v1] at v1
  rw [sane_v2] at v2
  rw [sane_v3] at v3
  rw [sane_v4] at v4
  have s1 := M27_eq (s := []) (by simp)
  have s2 := M27_eq (s := [97, 98, 99]) (by simp)
  have h1 := M36_eq (s := sumT []) (by rw [sumT_len]; omega)
  have h2 := M36_eq (s := sumT [97, 98, 99]) (by rw [sumT_len]; omega)
  have e1 := eq_str (hexT (sumT [])) [101, 51, 98, 48, 99, 52, 52, 50, 57, 56, 102, 99, 49, 99, 49, 52, 57, 97, 102, 98, 102, 52, 99, 56, 57, 57, 54, 102, 98, 57, 50, 52, 50, 55, 97, 101, 52, 49, 101, 52, 54, 52, 57, 98, 57, 51, 52, 99, 97, 52, 57, 53, 57, 57, 49, 98, 55, 56, 53, 50, 98, 56, 53, 53]
  have e2 := eq_str (hexT (sumT [97, 98, 99])) [98, 97, 55, 56, 49, 54, 98, 102, 56, 102, 48, 49, 99, 102, 101, 97, 52, 49, 52, 49, 52, 48, 100, 101, 53, 100, 97, 101, 50, 50, 50, 51, 98, 48, 48, 51, 54, 49, 97, 51, 57, 54, 49, 55, 55, 97, 57, 99, 98, 52, 49, 48, 102, 102, 54, 49, 102, 50, 48, 48, 49, 53, 97, 100]
  rw [sane_hex1] at e1
  rw [sane_hex2] at e2
  have fs := frz_s
  have fb := frz_b
  have fi := frz_i
  have scs : ∀ s, scalarB 4 (.str s) = true := fun _ => rfl
  have scb : ∀ s, scalarB 4 (.bool s) = true := fun _ => rfl
  have sci : ∀ k s, scalarB 4 (.int k s) = true := fun _ _ => rfl
  have bs : evBuildSlice 1 [.str [97], .str [98], .str [99]] [] = some (.sl 0 0 3, [.row 1 false (strsA [sA, sB, sC])]) := rfl
  have f3 : frz [.row 1 false (strsA [sA, sB, sC])] 4 (.sl 0 0 3) = .fs 1 (strsA [sA, sB, sC]) := rfl
  have f2 : frz [.row 1 false (strsA [sA, sB, sC])] 4 (.sl 0 0 2) = .fs 1 (strsA [sA, sB]) := rfl
  have f1 : frz [.row 1 false (strsA [sA, sB, sC])] 4 (.sl 0 0 1) = .fs 1 (strsA [sA]) := rfl
  have z1 : evSliceSl 1 [.row 1 false (strsA [sA, sB, sC])] none (some (.int .i64 1)) (.sl 0 0 3) = some (.sl 0 0 1) := rfl
  have z2 : evSliceSl 1 [.row 1 false (strsA [sA, sB, sC])] none (some (.int .i64 2)) (.sl 0 0 3) = some (.sl 0 0 2) := rfl
  have ff : ∀ (A : Arena) (l : List AV), frz A 4 (.fs 1 l) = .fs 1 l := fun _ _ => rfl
  have l1 : evLenSl (.fs 1 (strsA [rootT [sA, sB]])) = some (.int .i64 1) := rfl
  have l2 : evLenSl (.fs 1 (strsA [rootT [sB], rootT [sC]])) = some (.int .i64 2) := rfl
  have b1 : evBin .eql (.int .i64 0) (.int .i64 0) = some (.bool true) := rfl
  have b2 : evBin .eql (.int .i64 1) (.int .i64 1) = some (.bool true) := rfl
  have b3 : evBin .eql (.int .i64 2) (.int .i64 2) = some (.bool true) := rfl
  unfold M11
  rw [evP_run _ _ rfl]
  generalize rootT [sA, sB, sC] = R3 at *
  generalize rootT [sA, sB] = R2 at *
  generalize rootT [sA] = R1 at *
  generalize strsA [R2] = P at *
  generalize strsA [rootT [sB], rootT [sC]] = X at *
  generalize strsA [sA, sB, sC] = L3 at *
  generalize strsA [sA, sB] = L2 at *
  generalize strsA [sA] = L1 at *
  generalize hexT (sumT []) = H1 at *
  generalize hexT (sumT [97, 98, 99]) = H2 at *
  generalize sumT [] = S1 at *
  generalize sumT [97, 98, 99] = S2 at *
  unfold sC at v1
  simp [mf11, bs, f3, f2, f1, z1, z2, ff, m1, m2, m3, m18a, m18b, m18c, v1, v2, v3, v4, s1, s2, h1, h2, e1, e2, fs, fb, fi, scs, scb, sci, l1, l2, b1, b2, b3, -evBuildSlice, -evSliceSl, -evLenSl, -evBin, -frz]

/-- what a law is given: strings -/
theorem strs_arg {xs : List Str} {a : AV} (h : SlA 1 (xs.map AV.str) a) : SlA 1 (strsA xs) a := h
end Go.Proofs.YtgbnngmpaefbcaaDoor
/-
  Digest: what the laws' cards share.
-/
namespace Go.Proofs.YtgbnngmpaefbcaaDoor
open Go

theorem ownK : ownKnob Tryd.prog.godebug = none := by kernel_rfl
theorem gTab : Tryd.prog.globalNamed "cleanroom/digest.round" = some 0 := by kernel_rfl
theorem gTabType : (Tryd.prog.globals[0]?).map (·.type) = some 83 := by kernel_rfl
theorem cells83 : Tryd.prog.cellsOf 83 = 64 := by kernel_rfl
theorem cells64 : Tryd.prog.cellsOf 64 = 1 := by kernel_rfl
def kwsI : List Int := [1116352408, 1899447441, 3049323471, 3921009573, 961987163, 1508970993, 2453635748, 2870763221, 3624381080, 310598401, 607225278, 1426881987, 1925078388, 2162078206, 2614888103, 3248222580, 3835390401, 4022224774, 264347078, 604807628, 770255983, 1249150122, 1555081692, 1996064986, 2554220882, 2821834349, 2952996808, 3210313671, 3336571891, 3584528711, 113926993, 338241895, 666307205, 773529912, 1294757372, 1396182291, 1695183700, 1986661051, 2177026350, 2456956037, 2730485921, 2820302411, 3259730800, 3345764771, 3516065817, 3600352804, 4094571909, 275423344, 430227734, 506948616, 659060556, 883997877, 958139571, 1322822218, 1537002063, 1747873779, 1955562222, 2024104815, 2227730452, 2361852424, 2428436474, 2756734187, 3204031479, 3329325298]
theorem kwsA : kW.map wA = kwsI.map (.int .u32 ·) := by kernel_rfl
theorem grel_of {W : World} (h : Lib.TabIs Tryd.prog W "cleanroom/digest.round" .u32 kwsI) : GRel GD W (fun b => b < W.heap.size) := by
  intro gl cs hg
  unfold GD at hg
  split at hg
  · rename_i e
    subst e
    injection hg with hg
    rw [kwsA] at hg
    subst hg
    have hc : ∀ i (hi : i < kwsI.length), W.cell? ⟨0, i, none⟩ = some (.int .u32 kwsI[i]) := fun i hi => by
      have := h.cell gTab i hi
      rwa [List.getD_eq_getElem?_getD, List.getElem?_eq_getElem hi, Option.getD_some] at this
    have h0 := hc 0 (by decide)
    cases hh : W.heap[0]? with
    | none => simp [World.cell?, hh] at h0
    | some o =>
      cases o with
      | cells c T fz =>
        refine .fp _ 0 0 T c fz _ (fun i => .int .u32 (kwsI.getD i 0)) (Array.getElem?_eq_some_iff.1 hh).1 hh (by decide) (fun i hi => ?_) (fun i hi => ?_)
        · have hi' : i < kwsI.length := by simpa using hi
          simp only [List.getElem_map, List.getD_eq_getElem?_getD, List.getElem?_eq_getElem hi', Option.getD_some]
          exact .int _ _ _
        · have hi' : i < kwsI.length := by simpa using hi
          have := hc i hi'
          simp only [World.cell?, hh] at this
          simp only [Nat.zero_add, List.getD_eq_getElem?_getD, List.getElem?_eq_getElem hi', Option.getD_some]
          exact ⟨by simpa using this, rfl⟩
      | _ => simp [World.cell?, hh] at h0
  · cases hg

/-- A WORLD FOR THE WITNESS: the table holds what its initialiser lays. -/
noncomputable def laidWorld (os : Os) : World :=
  let w := World.holding Tryd.prog os ⟨#[], #[], []⟩
  { w with heap := w.heap.modify 0 fun
      | .cells _ t frozen => .cells #[.int .u32 1116352408, .int .u32 1899447441, .int .u32 3049323471, .int .u32 3921009573, .int .u32 961987163, .int .u32 1508970993, .int .u32 2453635748, .int .u32 2870763221, .int .u32 3624381080, .int .u32 310598401, .int .u32 607225278, .int .u32 1426881987, .int .u32 1925078388, .int .u32 2162078206, .int .u32 2614888103, .int .u32 3248222580, .int .u32 3835390401, .int .u32 4022224774, .int .u32 264347078, .int .u32 604807628, .int .u32 770255983, .int .u32 1249150122, .int .u32 1555081692, .int .u32 1996064986, .int .u32 2554220882, .int .u32 2821834349, .int .u32 2952996808, .int .u32 3210313671, .int .u32 3336571891, .int .u32 3584528711, .int .u32 113926993, .int .u32 338241895, .int .u32 666307205, .int .u32 773529912, .int .u32 1294757372, .int .u32 1396182291, .int .u32 1695183700, .int .u32 1986661051, .int .u32 2177026350, .int .u32 2456956037, .int .u32 2730485921, .int .u32 2820302411, .int .u32 3259730800, .int .u32 3345764771, .int .u32 3516065817, .int .u32 3600352804, .int .u32 4094571909, .int .u32 275423344, .int .u32 430227734, .int .u32 506948616, .int .u32 659060556, .int .u32 883997877, .int .u32 958139571, .int .u32 1322822218, .int .u32 1537002063, .int .u32 1747873779, .int .u32 1955562222, .int .u32 2024104815, .int .u32 2227730452, .int .u32 2361852424, .int .u32 2428436474, .int .u32 2756734187, .int .u32 3204031479, .int .u32 3329325298] t frozen
      | o => o }

/-- a law's argument: strings -/
theorem arg_strs {n : Nat} {a : AV} (h : TA Tryd.prog (n + 1) 22 a) : ∃ l : List Str, SlA 1 (strsA l) a := by
  obtain ⟨zs, h1, _⟩ := TA.strs Tryd.underlying22 Tryd.underlying9 (by kernel_rfl) h
  exact ⟨zs, h1⟩
theorem arg_str {n : Nat} {a : AV} (h : TA Tryd.prog n 9 a) : ∃ s : Str, a = .str s := by
  obtain ⟨s, h1, _⟩ := TA.str Tryd.underlying9 h
  exact ⟨s, h1⟩
theorem arg_int {n : Nat} {a : AV} (h : TA Tryd.prog n 3 a) : ∃ z : Int, a = .int .i64 z ∧ inI z := TA.i64 Tryd.underlying3 h
end Go.Proofs.YtgbnngmpaefbcaaDoor
/-
  Digest: proofs and extensions are accepted, and are short (plain).
-/
namespace Go.Proofs.YtgbnngmpaefbcaaDoor
open Go

theorem wayR_path : ∀ (f : Nat) (l : List Str) (i : Nat) (s : Str), l[i]? = some s → l.length ≤ f → l.length < 9223372036854775808 → ∃ w, wayR l.length i (pathF f l i) = some (w, []) ∧ w.foldr joinT (leafT s) = rootT l
  | 0, l, i, s, hs, hf, _ => by have := (List.getElem?_eq_some_iff.1 hs).1; omega
  | f + 1, l, i, s, hs, hf, hb => by
    have hi := (List.getElem?_eq_some_iff.1 hs).1
    unfold pathF
    by_cases h1 : l.length ≤ 1
    · rw [if_pos h1]
      refine ⟨[], by unfold wayR; rw [if_pos h1], ?_⟩
      match l, h1, hs with
      | [x], _, hs =>
        have : i = 0 := by simp at hi; omega
        subst this
        injection hs with hs; subst hs; rfl
      | [], _, hs => cases hs
    · rw [if_neg h1]
      obtain ⟨b1, b2, b3, _⟩ := leftT_bounds (n := l.length) (by omega) hb
      have h2 := rootT_two (l := l) (by omega) hb
      by_cases hk : leftT l.length ≤ i
      · rw [if_pos hk]
        obtain ⟨w, h3, h4⟩ := wayR_path f (l.drop (leftT l.length)) (i - leftT l.length) s (by rw [List.getElem?_drop, show leftT l.length + (i - leftT l.length) = i by omega]; exact hs) (by simp; omega) (by simp; omega)
        refine ⟨(rootT (l.take (leftT l.length)), true) :: w, ?_, ?_⟩
        · rw [wayR, if_neg h1, if_pos hk]
          rw [List.length_drop] at h3
          rw [h3]; rfl
        · rw [List.foldr_cons, h4, h2]; rfl
      · rw [if_neg hk]
        obtain ⟨w, h3, h4⟩ := wayR_path f (l.take (leftT l.length)) i s (by rw [List.getElem?_take_of_lt (by omega)]; exact hs) (by simp; omega) (by simp; omega)
        refine ⟨(rootT (l.drop (leftT l.length)), false) :: w, ?_, ?_⟩
        · rw [wayR, if_neg h1, if_neg hk]
          rw [List.length_take, Nat.min_eq_left (by omega)] at h3
          rw [h3]; rfl
        · rw [List.foldr_cons, h4, h2]; rfl
theorem all_dig {p : List Str} (h : ∀ s ∈ p, s.length = 32) : p.all isDig = true := List.all_eq_true.2 fun s hs => by simp [isDig, h s hs]
theorem proofZ_eq {l : List Str} {i : Nat} (hi : i < l.length) : proofZ l i = (pathF l.length l i).reverse := by
  rw [proofZ, if_pos (by omega), Int.toNat_natCast]
/-- the proof of an entry is accepted -/
theorem proof_ok {l : List Str} {i : Nat} {s : Str} (hs : l[i]? = some s) (hb : l.length < 9223372036854775808) : verifyT (rootT l) l.length i s (proofZ l i) = true := by
  have hi := (List.getElem?_eq_some_iff.1 hs).1
  obtain ⟨w, h1, h2⟩ := wayR_path l.length l i s hs (Nat.le_refl _) hb
  have hd : (proofZ l i).all isDig = true := all_dig fun x hx => by
    rw [proofZ_eq hi] at hx
    exact pathF_dig _ _ _ x (List.mem_reverse.1 hx)
  rw [verifyT, if_pos ⟨by omega, hd⟩, proofZ_eq hi, List.reverse_reverse, Int.toNat_natCast, Int.toNat_natCast, h1]
  simp [h2]
theorem wayR_len : ∀ (r : List Str) (n i : Nat) (w : List Side) (q : List Str), wayR n i r = some (w, q) → w.length + q.length = r.length
  | [], n, i, w, q, h => by
    unfold wayR at h
    split at h
    · injection h with h; injection h with h1 h2; subst h1; subst h2; rfl
    · cases h
  | x :: r, n, i, w, q, h => by
    unfold wayR at h
    split at h
    · injection h with h; injection h with h1 h2; subst h1; subst h2; simp
    · split at h <;>
      · simp only [Option.map_eq_some_iff] at h
        obtain ⟨y, h1, h2⟩ := h
        injection h2 with h2 h3
        subst h2; subst h3
        have := wayR_len r _ _ y.1 y.2 h1
        simp; omega
theorem wayR_depth : ∀ (r1 r2 : List Str) (n i : Nat) (w1 w2 : List Side) (q1 q2 : List Str), wayR n i r1 = some (w1, q1) → wayR n i r2 = some (w2, q2) → w1.length = w2.length
  | [], r2, n, i, w1, w2, q1, q2, h, h' => by
    unfold wayR at h
    split at h
    · rename_i hn
      injection h with h; injection h with h1 h2; subst h1
      unfold wayR at h'
      split at h'
      · rw [if_pos hn] at h'; injection h' with h'; injection h' with h1 h2; subst h1; rfl
      · rw [if_pos hn] at h'; injection h' with h'; injection h' with h1 h2; subst h1; rfl
    · cases h
  | x :: r, r2, n, i, w1, w2, q1, q2, h, h' => by
    unfold wayR at h
    split at h
    · rename_i hn
      injection h with h; injection h with h1 h2; subst h1
      unfold wayR at h'
      split at h'
      · rw [if_pos hn] at h'; injection h' with h'; injection h' with h1 h2; subst h1; rfl
      · rw [if_pos hn] at h'; injection h' with h'; injection h' with h1 h2; subst h1; rfl
    · rename_i hn
      cases r2 with
      | nil => rw [wayR, if_neg hn] at h'; cases h'
      | cons x2 r2 =>
        rw [wayR, if_neg hn] at h'
        by_cases hk : leftT n ≤ i
        · rw [if_pos hk] at h h'
          simp only [Option.map_eq_some_iff] at h h'
          obtain ⟨y, h1, h2⟩ := h
          obtain ⟨y', h1', h2'⟩ := h'
          injection h2 with h2 h3
          injection h2' with h2' h3'
          subst h2; subst h2'
          have := wayR_depth r r2 _ _ y.1 y'.1 y.2 y'.2 h1 h1'
          simp [this]
        · rw [if_neg hk] at h h'
          simp only [Option.map_eq_some_iff] at h h'
          obtain ⟨y, h1, h2⟩ := h
          obtain ⟨y', h1', h2'⟩ := h'
          injection h2 with h2 h3
          injection h2' with h2' h3'
          subst h2; subst h2'
          have := wayR_depth r r2 _ _ y.1 y'.1 y.2 y'.2 h1 h1'
          simp [this]
/-- a proof of another length is refused -/
theorem proof_length {l : List Str} {i : Nat} {s : Str} (hs : l[i]? = some s) (hb : l.length < 9223372036854775808) (root t : Str) {p : List Str} (hp : p.length ≠ (proofZ l i).length) : verifyT root l.length i t p = false := by
  have hi := (List.getElem?_eq_some_iff.1 hs).1
  obtain ⟨w, h1, _⟩ := wayR_path l.length l i s hs (Nat.le_refl _) hb
  have hl1 := wayR_len _ _ _ _ _ h1
  rw [proofZ_eq hi, List.length_reverse] at hp
  unfold verifyT
  split
  · rw [Int.toNat_natCast, Int.toNat_natCast]
    cases hw : wayR l.length i p.reverse with
    | none => rfl
    | some y =>
      obtain ⟨w2, q2⟩ := y
      have hl2 := wayR_len _ _ _ _ _ hw
      have hd := wayR_depth _ _ _ _ _ _ _ _ h1 hw
      have hq : q2 ≠ [] := by
        rintro rfl
        simp at hl1 hl2; omega
      simp [hq]
  · rfl
theorem leftT_pow {n k : Nat} (h2 : 2 ≤ n) (hb : n < 9223372036854775808) (h : n ≤ 2 ^ (k + 1)) : leftT n ≤ 2 ^ k := by
  obtain ⟨b1, b2, b3, _⟩ := leftT_bounds h2 hb
  unfold leftT at *
  generalize Lib.bitLen (n - 1) - 1 = j at *
  have : j < k + 1 := (Nat.pow_lt_pow_iff_right (a := 2) (by omega)).1 (by omega)
  exact Nat.pow_le_pow_right (by omega) (by omega)
theorem path_short : ∀ (f k : Nat) (l : List Str) (i : Nat), l.length ≤ 2 ^ k → l.length < 9223372036854775808 → (pathF f l i).length ≤ k
  | 0, k, _, _, _, _ => Nat.zero_le _
  | f + 1, k, l, i, h, hb => by
    unfold pathF
    by_cases h1 : l.length ≤ 1
    · rw [if_pos h1]; simp
    · rw [if_neg h1]
      obtain ⟨k, rfl⟩ : ∃ j, k = j + 1 := ⟨k - 1, by
        cases k with
        | zero => simp at h; omega
        | succ k => rfl⟩
      obtain ⟨b1, b2, b3, _⟩ := leftT_bounds (n := l.length) (by omega) hb
      have hp := leftT_pow (by omega) hb h
      split
      · have := path_short f k (l.drop (leftT l.length)) (i - leftT l.length) (by simp; omega) (by simp; omega)
        simp; omega
      · have := path_short f k (l.take (leftT l.length)) i (by simp; omega) (by simp; omega)
        simp; omega
theorem le_bitLen {n : Nat} (h : n < 9223372036854775808) : n ≤ 2 ^ Lib.bitLen n := by
  by_cases h0 : n = 0
  · subst h0; simp
  · obtain ⟨_, _, h3⟩ := bitLen_bounds 64 n (by omega) h0 (Nat.le_refl _)
    omega
theorem proof_short {l : List Str} {i : Nat} (hi : i < l.length) (hb : l.length < 9223372036854775808) : (proofZ l i).length ≤ Lib.bitLen l.length := by
  rw [proofZ_eq hi, List.length_reverse]
  exact path_short _ _ _ _ (le_bitLen hb) hb

/-! ### extensions -/
theorem leftT_is (n : Nat) : ∃ e, leftT n = 2 ^ e := ⟨_, rfl⟩
theorem upR_ext : ∀ (f : Nat) (l : List Str) (m : Nat) (wh : Bool), 1 ≤ m → m ≤ l.length → l.length ≤ f → l.length < 9223372036854775808 →
    ∃ w wh' b, upR m l.length wh (extF f l m wh) = some (w, (if wh' then [] else [b]), wh') ∧ firstV w b = rootT (l.take m) ∧ w.foldr joinT b = rootT l ∧ (wh' = true → wh = true ∧ b = rootT (l.take m))
  | 0, l, m, wh, h1, hm, hf, _ => by omega
  | f + 1, l, m, wh, h1, hm, hf, hb => by
    unfold extF
    by_cases he : l.length ≤ m
    · rw [if_pos he]
      have ht : l.take m = l := List.take_of_length_le he
      refine ⟨[], wh, rootT l, ?_, by rw [ht]; rfl, rfl, fun h => ⟨h, by rw [ht]⟩⟩
      cases wh <;> (unfold upR; simp [he])
    · rw [if_neg he]
      obtain ⟨b1, b2, b3, _⟩ := leftT_bounds (n := l.length) (by omega) hb
      have h2 := rootT_two (l := l) (by omega) hb
      by_cases hk : leftT l.length < m
      · rw [if_pos hk]
        obtain ⟨w, wh', b, i1, i2, i3, i4⟩ := upR_ext f (l.drop (leftT l.length)) (m - leftT l.length) false (by omega) (by simp; omega) (by simp; omega) (by simp; omega)
        rw [List.length_drop] at i1
        refine ⟨(rootT (l.take (leftT l.length)), true) :: w, wh', b, ?_, ?_, ?_, fun h => absurd (i4 h).1 (by simp)⟩
        · rw [upR, if_neg he, if_pos hk, i1]; rfl
        · rw [show firstV ((rootT (l.take (leftT l.length)), true) :: w) b = nodeT (rootT (l.take (leftT l.length))) (firstV w b) from rfl, i2]
          obtain ⟨e, he2⟩ := leftT_is l.length
          rw [← rootT_append (e := e) (by rw [List.length_take, Nat.min_eq_left (by omega), he2]) (by
            intro h0
            have := congrArg List.length h0
            simp at this; omega) (by simp; omega) (by simp; omega)]
          congr 1
          rw [show m = leftT l.length + (m - leftT l.length) by omega, List.take_add]
          rw [show leftT l.length + (m - leftT l.length) - leftT l.length = m - leftT l.length by omega]
        · rw [List.foldr_cons, i3, h2]; rfl
      · rw [if_neg hk]
        obtain ⟨w, wh', b, i1, i2, i3, i4⟩ := upR_ext f (l.take (leftT l.length)) m wh h1 (by simp; omega) (by simp; omega) (by simp; omega)
        rw [List.length_take, Nat.min_eq_left (by omega)] at i1
        rw [List.take_take, Nat.min_eq_left (by omega)] at i2 i4
        refine ⟨(rootT (l.drop (leftT l.length)), false) :: w, wh', b, ?_, ?_, ?_, i4⟩
        · rw [upR, if_neg he, if_neg hk, i1]; rfl
        · exact i2
        · rw [List.foldr_cons, i3, h2]; rfl
theorem extZ_eq {l : List Str} {m : Nat} (h1 : 1 ≤ m) (hm : m ≤ l.length) : extZ l m = (extF l.length l m true).reverse := by
  rw [extZ, if_pos (by omega), Int.toNat_natCast]
/-- the extension of a beginning is accepted -/
theorem ext_ok {l : List Str} {m : Nat} (hm : m ≤ l.length) (hb : l.length < 9223372036854775808) : verifyX (rootT (l.take m)) m (rootT l) l.length (extZ l m) = true := by
  have hdr : ∀ l, isDig (rootT l) = true := fun l => by simp [isDig, rootT_len]
  unfold verifyX
  by_cases h0 : m = 0
  · subst h0
    have he : extZ l (0 : Nat) = [] := by rw [extZ, if_neg (by omega)]
    rw [he, if_pos ⟨by omega, rfl, hdr _, hdr _⟩, if_pos (show ((0 : Nat) : Int) = 0 from rfl), List.take_zero, rootT_nil]
    simp
  · have hd : (extZ l m).all isDig = true := all_dig fun x hx => by
      rw [extZ_eq (by omega) hm] at hx
      exact extF_dig _ _ _ _ x (List.mem_reverse.1 hx)
    rw [if_pos ⟨by omega, hd, hdr _, hdr _⟩, if_neg (by omega)]
    by_cases he : m = l.length
    · have hx : extZ l m = [] := by
        rw [extZ_eq (by omega) hm]
        cases hl : l.length with
        | zero => omega
        | succ f => rw [extF, if_pos (by omega)]; rfl
      rw [if_pos (by omega), hx, he, List.take_length]
      simp
    · rw [if_neg (by omega), Int.toNat_natCast, Int.toNat_natCast, extZ_eq (by omega) hm, List.reverse_reverse]
      obtain ⟨w, wh', b, i1, i2, i3, i4⟩ := upR_ext l.length l m true (by omega) hm (Nat.le_refl _) hb
      rw [i1]
      cases wh' with
      | true =>
        have := (i4 rfl).2
        subst this
        simp [i2, i3]
      | false => simp [i2, i3]
theorem ext_short' : ∀ (f k : Nat) (l : List Str) (m : Nat) (w : Bool), l.length ≤ 2 ^ k → l.length < 9223372036854775808 → 1 ≤ m → (extF f l m w).length ≤ k + 1
  | 0, k, l, _, w, _, _, _ => by cases w <;> simp [extF]
  | f + 1, k, l, m, w, h, hb, hm => by
    unfold extF
    by_cases h1 : l.length ≤ m
    · rw [if_pos h1]; cases w <;> simp
    · rw [if_neg h1]
      obtain ⟨k, rfl⟩ : ∃ j, k = j + 1 := ⟨k - 1, by
        cases k with
        | zero => simp at h; omega
        | succ k => rfl⟩
      obtain ⟨b1, b2, b3, _⟩ := leftT_bounds (n := l.length) (by omega) hb
      have hp := leftT_pow (by omega) hb h
      split
      · have := ext_short' f k (l.drop (leftT l.length)) (m - leftT l.length) false (by simp; omega) (by simp; omega) (by omega)
        simp; omega
      · have := ext_short' f k (l.take (leftT l.length)) m w (by simp; omega) (by simp; omega) hm
        simp; omega
theorem ext_short {l : List Str} {m : Nat} (hm : m ≤ l.length) (hb : l.length < 9223372036854775808) : (extZ l m).length ≤ 2 * Lib.bitLen l.length := by
  by_cases h0 : m = 0
  · subst h0
    rw [extZ, if_neg (by omega)]; simp
  · rw [extZ_eq (by omega) hm, List.length_reverse]
    have := ext_short' l.length (Lib.bitLen l.length) l m true (le_bitLen hb) hb (by omega)
    obtain ⟨h1, _, _⟩ := bitLen_bounds 64 l.length (by omega) (by omega) (Nat.le_refl _)
    omega
end Go.Proofs.YtgbnngmpaefbcaaDoor
/-
  Digest: ProofAccepted (4), walked.
-/
namespace Go.Proofs.YtgbnngmpaefbcaaDoor
open Go

noncomputable def fs4 : List (FuncId × HModel) := [(11, pureH 4 M11), (12, pureFH 4 M12), (13, pureFH 4 M13), (15, pureFH 4 M15), (18, pureH 4 M18), (20, pureH 4 M20), (21, pureH 4 M21), (22, pureH 4 M22), (26, pureH 4 M26), (27, pureH 4 M27), (28, pureH 4 M28), (29, pureH 4 M29)]
@[simp] theorem fs4_11 : lookM fs4 11 = some (pureH 4 M11) := rfl
@[simp] theorem fs4_12 : lookM fs4 12 = some (pureFH 4 M12) := rfl
@[simp] theorem fs4_13 : lookM fs4 13 = some (pureFH 4 M13) := rfl
@[simp] theorem fs4_15 : lookM fs4 15 = some (pureFH 4 M15) := rfl
@[simp] theorem fs4_18 : lookM fs4 18 = some (pureH 4 M18) := rfl
@[simp] theorem fs4_20 : lookM fs4 20 = some (pureH 4 M20) := rfl
@[simp] theorem fs4_21 : lookM fs4 21 = some (pureH 4 M21) := rfl
@[simp] theorem fs4_22 : lookM fs4 22 = some (pureH 4 M22) := rfl
@[simp] theorem fs4_26 : lookM fs4 26 = some (pureH 4 M26) := rfl
@[simp] theorem fs4_27 : lookM fs4 27 = some (pureH 4 M27) := rfl
@[simp] theorem fs4_28 : lookM fs4 28 = some (pureH 4 M28) := rfl
@[simp] theorem fs4_29 : lookM fs4 29 = some (pureH 4 M29) := rfl
theorem sound4 : ∀ f M, lookM fs4 f = some M → FnSpecY Tryd.prog GD f M :=
  lookM_cons (FnSpecY.of_pure spec11 4) (lookM_cons (FnSpecY.of_pureF spec12 4) (lookM_cons (FnSpecY.of_pureF spec13 4) (lookM_cons (FnSpecY.of_pureF spec15 4) (lookM_cons (FnSpecY.of_pure spec18 4) (lookM_cons (FnSpecY.of_pure spec20 4) (lookM_cons (FnSpecY.of_pure spec21 4) (lookM_cons (FnSpecY.of_pure spec22 4)
    (lookM_cons (FnSpecY.of_pure spec26 4) (lookM_cons (FnSpecY.of_pure spec27 4) (lookM_cons (FnSpecY.of_pure spec28 4) (lookM_cons (FnSpecY.of_pure spec29 4) lookM_nil)))))))))))

section
variable {l : List Str} {a : AV} (ha : SlA 1 (strsA l) a) (hsl : ∀ s ∈ l, s.length ≤ 60) (hl : l.length ≤ 42)
include ha hsl hl
set_option maxRecDepth 100000 in
set_option maxHeartbeats 4000000 in
theorem round4 {i : Nat} (hi : i < l.length) (v1 v3 : AV) :
    run (envOf GD fs4) 100 [.code lp4x0] (st4x0 a v1 v3 (.str (rootT l)) (.int .i64 (i : Int))) [] = some (.normal (st4x0 a v1 v3 (.str (rootT l)) (.int .i64 ((i + 1 : Nat) : Int))) []) := by
  have hs : l[i]? = some l[i] := List.getElem?_eq_getElem hi
  have hb : l.length < 9223372036854775808 := by omega
  obtain ⟨p, m13, hp⟩ := M13_eq ha (fun s h => by have := hsl s h; omega) (by omega) (i : Int)
  rw [show errZ l i = 0 by rw [errZ, if_pos (by omega)]] at m13
  have hshort := proof_short hi hb
  have hok := proof_ok hs hb
  have hpl : (proofZ l i).length ≤ 42 := by
    rw [proofZ_eq hi, List.length_reverse]; have := pathF_len l.length l i; omega
  have m21 := M21_eq (rootT l) (n := (l.length : Int)) (i := (i : Int)) (by omega) (s := l[i]) (by have := hsl _ (List.getElem_mem hi); omega) hp (by omega)
  rw [hok] at m21
  have m20 := M20_eq (n := l.length) (by omega)
  have la := ha.slen
  have lp := hp.slen
  have c0 := Dlt_nat i l.length .i64
  rw [decide_eq_true hi] at c0
  have p0 := Dadd_nat i 1 (by omega)
  rw [show ((1 : Nat) : Int) = 1 from rfl] at p0
  have n0 : evBin .neq (.int .i64 0) (.int .i64 0) = some (.bool false) := rfl
  have g0 := gt_nat (proofZ l i).length (Lib.bitLen l.length) .i64
  rw [decide_eq_false (by omega)] at g0
  have ix := fun A => ha.strs hs (A := A) .i64
  have fa := fun A n => ha.frz (A := A) n
  have fp := fun A n => hp.frz (A := A) n
  have fs := frz_s
  have fi := frz_i
  have sci : ∀ k s, scalarB 4 (.int k s) = true := fun _ _ => rfl
  have scb : ∀ s, scalarB 4 (.bool s) = true := fun _ => rfl
  generalize ((i + 1 : Nat) : Int) = I1 at *
  generalize (i : Int) = I0 at *
  generalize ((proofZ l I0).length : Int) = PL at *
  generalize (Lib.bitLen l.length : Int) = BL at *
  generalize (l.length : Int) = N at *
  generalize rootT l = R at *
  simp [lp4x0, la, c0, m13, fa, fi, n0, lp, m20, g0, ix, load_fp1, fs, fp, m21, sci, scb, p0, -evBin, -evLenSl, -evIndexSl, -evLoad, -frz]
theorem loop4 (v1 v3 : AV) : ∀ (c i m : Nat), i + c = l.length → c < m →
    iter (evC (envOf GD fs4) 100 lp4x0) mask4x0 m (st4x0 a v1 v3 (.str (rootT l)) (.int .i64 (i : Int))) [] = some (.exit 0 ((st4x0 a v1 v3 (.str (rootT l)) (.int .i64 (l.length : Int))).set 13 (.bool false)) []) := by
  have la := ha.slen
  intro c
  induction c with
  | zero =>
    intro i m hi hm
    obtain ⟨m, rfl⟩ : ∃ k, m = k + 1 := ⟨m - 1, by omega⟩
    obtain rfl : i = l.length := by omega
    have c0 := Dlt_nat l.length l.length .i64
    rw [decide_eq_false (by omega)] at c0
    rw [iter_succ, cl4x0]
    generalize (l.length : Int) = N at *
    simp [lp4x0, la, c0, -evBin, -evLenSl]
  | succ c ih =>
    intro i m hi hm
    obtain ⟨m, rfl⟩ : ∃ k, m = k + 1 := ⟨m - 1, by omega⟩
    rw [iter_succ, cl4x0, round4 ha hsl hl (by omega)]
    exact ih (i + 1) m (by omega) (by omega)
end
set_option maxRecDepth 100000 in
set_option maxHeartbeats 4000000 in
theorem ev4 {l0 : List Str} {a0 : AV} (ha0 : SlA 1 (strsA l0) a0) (z : Int) : evP (envOf GD fs4) 100 mf4 1 [a0, .int .i64 z] = some (.bool true) := by
  obtain ⟨a, m12, ha⟩ := M12_eq ha0 (n := 40) (by omega)
  have hsl : ∀ s ∈ fewT l0 40, s.length ≤ 60 := fun s h => fewT_mem h
  have hl := fewT_len l0 40
  obtain ⟨l, hld⟩ : ∃ l, l = fewT l0 40 := ⟨_, rfl⟩
  rw [← hld] at ha hsl hl
  have hsl4 : ∀ s ∈ l, s.length ≤ 4000 := fun s h => by have := hsl s h; omega
  have hb : l.length < 9223372036854775808 := by omega
  have m11 := M11_eq
  have m18 := M18_eq ha hsl4 (by omega)
  have lp := loop4 ha hsl (by omega) (.int .i64 z) (.bool true) l.length 0 100 (by omega) (by omega)
  obtain ⟨p, m13, hp⟩ := M13_eq ha hsl4 (by omega) z
  have la := ha.slen
  have lpp := hp.slen
  have c0 := bGe .i64 z 0
  have c1 := bLt .i64 z l.length
  have fa0 := fun A n => ha0.frz (A := A) n
  have fa := fun A n => ha.frz (A := A) n
  have fp := fun A n => hp.frz (A := A) n
  have fs := frz_s
  have fi := frz_i
  have fb := frz_b
  have sci : ∀ k s, scalarB 4 (.int k s) = true := fun _ _ => rfl
  have scb : ∀ s, scalarB 4 (.bool s) = true := fun _ => rfl
  have scs : ∀ s, scalarB 4 (.str s) = true := fun _ => rfl
  rw [show ((0 : Nat) : Int) = 0 from rfl] at lp
  rw [show ((40 : Nat) : Int) = 40 from rfl] at m12
  by_cases h : 0 ≤ z ∧ z < l.length
  · obtain ⟨k, rfl⟩ : ∃ k : Nat, z = k := ⟨z.toNat, by omega⟩
    have hk : k < l.length := by omega
    have hs : l[k]? = some l[k] := List.getElem?_eq_getElem hk
    have hle : errZ l k = 0 := by rw [errZ, if_pos h]
    rw [hle] at m13
    rw [decide_eq_true h.1] at c0
    rw [decide_eq_true h.2] at c1
    have hsk : l[k].length ≤ 60 := hsl _ (List.getElem_mem hk)
    have hfa := ha.fs (fun h0 => by rw [h0] at hk; simp at hk)
    have ix := fun A => ha.strs hs (A := A) .i64
    subst hfa
    have hpl : (proofZ l k).length ≤ 42 := by
      rw [proofZ_eq hk, List.length_reverse]; have := pathF_len l.length l k; omega
    have n0 : evBin .eql (.int .i64 0) (.int .i64 0) = some (.bool true) := rfl
    have m21a := M21_eq (rootT l) (n := (l.length : Int)) (i := (k : Int)) (by omega) (s := l[k]) (by omega) (p := proofZ l k ++ [rootT l]) (pv := .fs 1 (strsA (proofZ l k ++ [rootT l]))) (.inr rfl) (by simp; omega)
    rw [proof_length hs hb _ _ (by simp)] at m21a
    have bs : evBuildSlice 1 [] [] = some (.sl 0 0 0, [.row 1 false []]) := rfl
    have ap1 : evAppendN 1 16 [.row 1 false []] (.sl 0 0 0) p = some (.sl 1 0 (proofZ l k).length, [.dead, .row 1 false (strsA (proofZ l k))]) := by
      have hb : (proofZ l k).length * 16 ≤ 140737488355328 := by omega
      simp [evAppendN, hp.src, strsA_len, hb]
    have ap2 : evAppendN 1 16 [.dead, .row 1 false (strsA (proofZ l k))] (.sl 1 0 (proofZ l k).length) (.fs 1 [.str (rootT l)]) = some (.sl 2 0 ((proofZ l k).length + 1), [.dead, .dead, .row 1 false (strsA (proofZ l k ++ [rootT l]))]) := by
      have hb : ((proofZ l k).length + 1) * 16 ≤ 140737488355328 := by omega
      have ht : (strsA (proofZ l k)).take (proofZ l k).length = strsA (proofZ l k) := List.take_of_length_le (by rw [strsA_len]; omega)
      have e : strsA (proofZ l k ++ [rootT l]) = strsA (proofZ l k) ++ [.str (rootT l)] := by simp [strsA, strA]
      rw [e]
      simp [evAppendN, srcElems, hb, ht]
    have fz2 : frz [.dead, .dead, .row 1 false (strsA (proofZ l k ++ [rootT l]))] 4 (.sl 2 0 ((proofZ l k).length + 1)) = .fs 1 (strsA (proofZ l k ++ [rootT l])) := by
      have ht : (strsA (proofZ l k ++ [rootT l])).take ((proofZ l k).length + 1) = strsA (proofZ l k ++ [rootT l]) := List.take_of_length_le (by rw [strsA_len]; simp)
      have hm : (strsA (proofZ l k ++ [rootT l])).map (frz [.dead, .dead, .row 1 false (strsA (proofZ l k ++ [rootT l]))] 3) = strsA (proofZ l k ++ [rootT l]) := by
        conv => lhs; rw [strsA, List.map_map]
        exact List.map_congr_left fun x _ => rfl
      simp only [frz, List.getElem?_cons_succ, List.getElem?_cons_zero, List.drop_zero, ht, hm]
    have g0 := gt_nat (proofZ l k).length 0 .i64
    rw [show ((0 : Nat) : Int) = 0 from rfl] at g0
    by_cases hpz : proofZ l k = []
    · rw [hpz] at g0 lpp
      rw [decide_eq_false (by simp)] at g0
      rw [show (([] : List Str).length : Int) = 0 from rfl] at g0 lpp
      generalize strsA (proofZ l k ++ [rootT l]) = PR at *
      generalize strsA (proofZ l k) = PP at *
      generalize strsA l = LA at *
      generalize (proofZ l k).length + 1 = P1 at *
      generalize (proofZ l k).length = P0 at *
      rw [evP_run _ _ rfl]
      generalize (k : Int) = K at *
      generalize (l.length : Int) = N at *
      generalize rootT l = R at *
      simp [mf4, m11, m12, fa0, fa, fi, fs, fb, m18, sci, scb, scs, go4x0 lp, m13, c0, c1, la, n0, bs, ap1, ap2, ix, load_fp1, fz2, m21a, lpp, g0, -evBin, -evLenSl, -evIndexSl, -evLoad, -evBuildSlice, -frz]
    · rw [decide_eq_true (by have := List.length_pos_iff.2 hpz; omega)] at g0
      have hpf := hp.fs hpz
      have hpos := List.length_pos_iff.2 hpz
      have sl := fs_from (l := proofZ l k) (k := 1) [.dead, .dead, .row 1 false (strsA (proofZ l k ++ [rootT l]))] hpos
      rw [← hpf, show ((1 : Nat) : Int) = 1 from rfl] at sl
      have m21b := M21_eq (rootT l) (n := (l.length : Int)) (i := (k : Int)) (by omega) (s := l[k]) (by omega) (p := (proofZ l k).drop 1) (pv := .fs 1 (strsA ((proofZ l k).drop 1))) (.inr rfl) (by simp; omega)
      rw [proof_length hs hb _ _ (by simp; omega)] at m21b
      have ffs : ∀ (A : Arena) (l : List AV), frz A 4 (.fs 1 l) = .fs 1 l := fun _ _ => rfl
      generalize strsA (proofZ l k ++ [rootT l]) = PR at *
      generalize strsA ((proofZ l k).drop 1) = PD at *
      generalize strsA (proofZ l k) = PP at *
      generalize strsA l = LA at *
      generalize (proofZ l k).length + 1 = P1 at *
      generalize hP0 : (proofZ l k).length = P0 at *
      rw [evP_run _ _ rfl]
      generalize (k : Int) = K at *
      generalize (l.length : Int) = N at *
      generalize rootT l = R at *
      simp [mf4, m11, m12, fa0, fa, fi, fs, fb, ffs, m18, sci, scb, scs, go4x0 lp, m13, c0, c1, la, n0, bs, ap1, ap2, ix, load_fp1, fz2, m21a, lpp, g0, sl, m21b, -evBin, -evLenSl, -evIndexSl, -evLoad, -evBuildSlice, -evSliceSl, -frz]
  · have hle : errZ l z = 2 := by rw [errZ, if_neg h]
    rw [hle] at m13
    have hpz : proofZ l z = [] := by rw [proofZ, if_neg h]
    rw [hpz] at lpp
    rw [show (([] : List Str).length : Int) = 0 from rfl] at lpp
    have m21 := M21_eq (rootT l) (n := (l.length : Int)) (i := z) (by omega) (s := []) (by simp) (p := []) (pv := .nilS) (.inl ⟨rfl, rfl⟩) (by simp)
    rw [show verifyT (rootT l) l.length z [] [] = false by rw [verifyT, if_neg (fun h' => h h'.1)]] at m21
    have n0 : evBin .eql (.int .i64 2) (.int .i64 0) = some (.bool false) := rfl
    have n1 : evBin .neq (.int .i64 2) (.int .i64 2) = some (.bool false) := rfl
    have n2 : evBin .neq (.int .i64 0) (.int .i64 0) = some (.bool false) := rfl
    have fn : ∀ A n, frz A n .nilS = .nilS := fun A n => by cases n <;> rfl
    rw [evP_run _ _ rfl]
    by_cases h0 : 0 ≤ z
    · rw [decide_eq_true h0] at c0
      rw [decide_eq_false (by omega)] at c1
      generalize (l.length : Int) = N at *
      generalize rootT l = R at *
      simp [mf4, m11, m12, fa0, fa, fi, fs, fb, fn, m18, sci, scb, scs, go4x0 lp, m13, c0, c1, la, lpp, n0, n1, n2, m21, -evBin, -evLenSl, -evIndexSl, -evLoad, -frz]
    · rw [decide_eq_false h0] at c0
      generalize (l.length : Int) = N at *
      generalize rootT l = R at *
      simp [mf4, m11, m12, fa0, fa, fi, fs, fb, fn, m18, sci, scb, scs, go4x0 lp, m13, c0, c1, la, lpp, n0, n1, n2, m21, -evBin, -evLenSl, -evIndexSl, -evLoad, -frz]
end Go.Proofs.YtgbnngmpaefbcaaDoor
/-
  Digest: ProofAccepted (4), for the card.
-/
namespace Go.Proofs.YtgbnngmpaefbcaaDoor
open Go

theorem ev4L (args : List AV) (h : LawArgs Tryd.prog 8 Tryd.f4.params.toList args) : ∃ fuel, evP (envOf GD fs4) fuel mf4 1 args = some (.bool true) := by
  rw [Tryd.params4] at h
  obtain ⟨a, r, rfl, h0, h⟩ := h.cons
  obtain ⟨b, r, rfl, h1, h⟩ := h.cons
  obtain rfl := h.nil
  obtain ⟨l, hl⟩ := arg_strs h0
  obtain ⟨z, rfl, hz⟩ := arg_int h1
  exact ⟨100, ev4 hl z⟩
end Go.Proofs.YtgbnngmpaefbcaaDoor
