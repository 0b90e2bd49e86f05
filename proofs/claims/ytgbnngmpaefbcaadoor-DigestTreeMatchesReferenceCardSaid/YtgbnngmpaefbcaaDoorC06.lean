/-
  What the proof is built on (D24 to D43p).
-/
import Derived.Test.YtgbnngmpaefbcaaDoorC05
import Derived.Test.YtgbnngmpaefbcaaDoorC03
import Derived.Lib.LaidTab
import Derived.Test.YtgbnngmpaefbcaaDoorChecked
import Derived.KernelRfl
/-
  Digest: VerifyExtension (22), as a whole.
-/
namespace Go.Proofs.YtgbnngmpaefbcaaDoor
open Go

/-- the beginning's value -/
def firstV (w : List Side) (x : Str) : Str := w.foldr (fun s o => if s.2 then joinT s o else o) x
/-- what VerifyExtension answers -/
def verifyX (old : Str) (m : Int) (root : Str) (n : Int) (p : List Str) : Bool :=
  if (0 ≤ m ∧ m ≤ n) ∧ p.all isDig = true ∧ isDig old = true ∧ isDig root = true then
    if m = 0 then decide (p = []) && decide (old = sumT [])
    else if m = n then decide (p = []) && decide (old = root)
    else match upR m.toNat n.toNat true p.reverse with
    | none => false
    | some (w, q, true) => decide (q = []) && (decide (firstV w old = old) && decide (w.foldr joinT old = root))
    | some (w, [x], false) => decide (firstV w x = old) && decide (w.foldr joinT x = root)
    | some (_, _, false) => false
  else false
noncomputable def M22 : PModel := fun args => evP (envOf GD fs21) 100 mf22 1 args
theorem spec22 : PureSpec Tryd.prog GD 22 M22 := PureSpec.of_ev (E := envOf GD fs21) (envOf_sound sound21) rfl at22 comp22 1 fun _ _ h => ⟨100, h⟩
def outs1 (s0 : Str) (w : List Side) (j : Nat) : Str := firstV (w.drop j) s0
theorem outs1_step (s0 : Str) (w : List Side) (i : Nat) (s : Side) (h : w[i]? = some s) : outs1 s0 w i = if s.2 then joinT s (outs1 s0 w (i + 1)) else outs1 s0 w (i + 1) := by
  obtain ⟨h1, h2⟩ := List.getElem?_eq_some_iff.1 h
  unfold outs1
  rw [List.drop_eq_getElem_cons h1, h2]; rfl
theorem firstV_len (s0 : Str) (h0 : s0.length = 32) : ∀ w : List Side, (firstV w s0).length = 32
  | [] => h0
  | x :: r => by
    unfold firstV
    rw [List.foldr_cons]
    split
    · exact joinT_len _ _
    · exact firstV_len s0 h0 r
theorem isDig_len {s : Str} (h : isDig s = true) : s.length = 32 := by simpa [isDig] using h
theorem and_pick (b c : Bool) : (if b = true then c else false) = (b && c) := by cases b <;> rfl
set_option maxRecDepth 100000 in
set_option maxHeartbeats 4000000 in
theorem M22_no (old root : Str) {n m : Int} {p : List Str} {pv : AV} (hp : SlA 1 (strsA p) pv) (hpl : p.length ≤ 80) (h : ¬ ((0 ≤ m ∧ m ≤ n) ∧ p.all isDig = true ∧ isDig old = true ∧ isDig root = true)) : M22 [.str old, .int .i64 m, .str root, .int .i64 n, pv] = some (.bool false) := by
  have c0 := bLt .i64 m 0
  have c1 := bGt .i64 m n
  have mm := M42_eq hp (by omega)
  have d1 := M46_eq old
  have d2 := M46_eq root
  have f4 := fun A n => hp.frz (A := A) n
  have fb := frz_b
  have fs := frz_s
  have sc : ∀ b, scalarB 4 (.bool b) = true := fun _ => rfl
  unfold M22
  rw [evP_run _ _ rfl]
  by_cases h0 : m < 0
  · rw [decide_eq_true h0] at c0
    simp [mf22, c0, fb, -evBin, -frz]
  · rw [decide_eq_false h0] at c0
    by_cases h1 : n < m
    · rw [decide_eq_true h1] at c1
      simp [mf22, c0, c1, fb, -evBin, -frz]
    · rw [decide_eq_false h1] at c1
      cases hd : p.all isDig with
      | false =>
        rw [hd] at mm
        simp [mf22, c0, c1, f4, mm, fb, -evBin, -frz]
      | true =>
        rw [hd] at mm
        cases ho : isDig old with
        | false =>
          rw [ho] at d1
          simp [mf22, c0, c1, f4, mm, d1, fb, fs, -evBin, -frz]
        | true =>
          rw [ho] at d1
          have hr : isDig root = false := by
            cases hr : isDig root with
            | false => rfl
            | true => exact absurd ⟨⟨by omega, by omega⟩, hd, ho, hr⟩ h
          rw [hr] at d2
          simp [mf22, c0, c1, f4, mm, d1, d2, fb, fs, -evBin, -frz]
section
variable {old root : Str} {n m : Nat} {p : List Str} {pv : AV}
set_option maxRecDepth 100000 in
set_option maxHeartbeats 4000000 in
theorem M22_zero (hp : SlA 1 (strsA p) pv) (hpl : p.length ≤ 80) (hd : p.all isDig = true) (ho : isDig old = true) (hr : isDig root = true) : M22 [.str old, .int .i64 0, .str root, .int .i64 (n : Int), pv] = some (.bool (decide (p = []) && decide (old = sumT []))) := by
  have c0 : evBin .lss (.int .i64 0) (.int .i64 0) = some (.bool false) := rfl
  have c1 : evBin .gtr (.int .i64 0) (.int .i64 (n : Int)) = some (.bool false) := by rw [bGt]; simp
  have c2 : evBin .eql (.int .i64 0) (.int .i64 0) = some (.bool true) := rfl
  have mm := M42_eq hp (by omega)
  have d1 := M46_eq old
  have d2 := M46_eq root
  rw [hd] at mm
  rw [ho] at d1
  rw [hr] at d2
  have f4 := fun A n => hp.frz (A := A) n
  have fb := frz_b
  have fs := frz_s
  have sc : ∀ b, scalarB 4 (.bool b) = true := fun _ => rfl
  have scs : ∀ b, scalarB 4 (.str b) = true := fun _ => rfl
  have lp := hp.slen
  have e0 := eq_nat p.length 0 .i64
  rw [show ((0 : Nat) : Int) = 0 from rfl, show decide (p.length = 0) = decide (p = []) from by simp [List.length_eq_zero_iff]] at e0
  have m27 := M27_eq (s := []) (by simp)
  have e1 := eq_str old (sumT [])
  unfold M22
  rw [evP_run _ _ rfl]
  generalize decide (p = []) = b0 at *
  generalize decide (old = sumT []) = b1 at *
  generalize sumT [] = S at *
  generalize (p.length : Int) = PL at *
  generalize (n : Int) = N at *
  cases b0 <;> simp [mf22, c0, c1, c2, f4, mm, d1, d2, fb, fs, lp, e0, m27, e1, -evBin, -evLenSl, -frz]
set_option maxRecDepth 100000 in
set_option maxHeartbeats 4000000 in
theorem M22_same (hn0 : n ≠ 0) (hp : SlA 1 (strsA p) pv) (hpl : p.length ≤ 80) (hd : p.all isDig = true) (ho : isDig old = true) (hr : isDig root = true) : M22 [.str old, .int .i64 (n : Int), .str root, .int .i64 (n : Int), pv] = some (.bool (decide (p = []) && decide (old = root))) := by
  have c0 : evBin .lss (.int .i64 (n : Int)) (.int .i64 0) = some (.bool false) := by rw [bLt]; simp
  have c1 : evBin .gtr (.int .i64 (n : Int)) (.int .i64 (n : Int)) = some (.bool false) := by rw [bGt]; simp
  have c2 := eq_nat n 0 .i64
  rw [decide_eq_false hn0, show ((0 : Nat) : Int) = 0 from rfl] at c2
  have c3 := eq_nat n n .i64
  rw [decide_eq_true rfl] at c3
  have mm := M42_eq hp (by omega)
  have d1 := M46_eq old
  have d2 := M46_eq root
  rw [hd] at mm
  rw [ho] at d1
  rw [hr] at d2
  have f4 := fun A n => hp.frz (A := A) n
  have fb := frz_b
  have fs := frz_s
  have sc : ∀ b, scalarB 4 (.bool b) = true := fun _ => rfl
  have lp := hp.slen
  have e0 := eq_nat p.length 0 .i64
  rw [show ((0 : Nat) : Int) = 0 from rfl, show decide (p.length = 0) = decide (p = []) from by simp [List.length_eq_zero_iff]] at e0
  have e1 := eq_str old root
  unfold M22
  rw [evP_run _ _ rfl]
  generalize decide (p = []) = b0 at *
  generalize decide (old = root) = b1 at *
  generalize (p.length : Int) = PL at *
  generalize (n : Int) = N at *
  cases b0 <;> simp [mf22, c0, c1, c2, c3, f4, mm, d1, d2, fb, fs, lp, e0, e1, -evBin, -evLenSl, -frz]

/-- the two values and what Backward finds, in memory -/
theorem mem22 {A : Arena} {o : AV} {w : List Side} (hF : FullW A o w) (x : Str) : ∃ A1 X, evBox 1 (.str []) A = some (.ptr A.length 0 0, A ++ [.row 1 false [.str []]]) ∧ A1 = A ++ [Ent.row 1 false [.str x], .row 1 false [.str x]] ∧ X = A1 ++ [Ent.row 1 false [o]] ∧
    (∀ hd, H44 hd [o] A1 = some (.func (.func 57) [] [.ptr (A.length + 2) 0 0], X)) ∧ BackW X (A.length + 2) o w ∧ X[A.length]? = some (.row 1 false [.str x]) ∧ X[A.length + 1]? = some (.row 1 false [.str x]) ∧ (∀ id n, o = .sl id 0 n → id ≠ A.length ∧ id ≠ A.length + 1) := by
  refine ⟨_, _, by simp [evBox], rfl, rfl, fun hd => ?_, ⟨by simp, ?_⟩, by simp, by simp, fun id n he => ?_⟩
  · have := H44_eq hd (A ++ [Ent.row 1 false [.str x], .row 1 false [.str x]]) o (by rcases hF with h | ⟨id, e1, _⟩; exact .inl h.1; exact .inr ⟨id, _, e1⟩)
    rw [show (A ++ [Ent.row 1 false [.str x], .row 1 false [.str x]]).length = A.length + 2 by simp] at this
    exact this
  · rcases hF with h | ⟨id, e1, e2, e3⟩
    · exact .inl h
    · have := (List.getElem?_eq_some_iff.1 e3).1
      exact .inr ⟨id, e1, e2, by rw [List.getElem?_append_left (by simp; omega), List.getElem?_append_left this]; exact e3⟩
  · rcases hF with h | ⟨id', e1, _, e3⟩
    · rw [h.1] at he; cases he
    · rw [e1] at he; injection he with he; have := (List.getElem?_eq_some_iff.1 e3).1; omega
theorem store22 {A : Arena} (x y z : Str) : evStore 1 (A ++ [Ent.row 1 false [.str x], .row 1 false [.str y]]) (.ptr A.length 0 0) (.str z) = some (A ++ [Ent.row 1 false [.str z], .row 1 false [.str y]]) ∧ evStore 1 (A ++ [Ent.row 1 false [.str x], .row 1 false [.str y]]) (.ptr (A.length + 1) 0 0) (.str z) = some (A ++ [Ent.row 1 false [.str x], .row 1 false [.str z]]) := by
  constructor
  · rw [store_arr (es := [.str x]) (by simp) rfl rfl rfl]; simp
  · rw [store_arr (es := [.str y]) (by simp) rfl rfl rfl]; simp
set_option maxRecDepth 100000 in
set_option maxHeartbeats 4000000 in
theorem M22_way (hm : 1 ≤ m) (hmn : m < n) (hn : n < 9223372036854775808) (hp : SlA 1 (strsA p) pv) (hpl : p.length ≤ 80) (hd : p.all isDig = true) (ho : isDig old = true) (hr : isDig root = true) : M22 [.str old, .int .i64 (m : Int), .str root, .int .i64 (n : Int), pv] = some (.bool (match upR m n true p.reverse with
    | none => false
    | some (w, q, true) => decide (q = []) && (decide (firstV w old = old) && decide (w.foldr joinT old = root))
    | some (w, [x], false) => decide (firstV w x = old) && decide (w.foldr joinT x = root)
    | some (_, _, false) => false)) := by
  have c0 : evBin .lss (.int .i64 (m : Int)) (.int .i64 0) = some (.bool false) := by rw [bLt]; simp
  have c1 := gt_nat m n .i64
  rw [decide_eq_false (by omega)] at c1
  have c2 := eq_nat m 0 .i64
  rw [decide_eq_false (by omega), show ((0 : Nat) : Int) = 0 from rfl] at c2
  have c3 := eq_nat m n .i64
  rw [decide_eq_false (by omega)] at c3
  have mm := M42_eq hp (by omega)
  have d1 := M46_eq old
  have d2 := M46_eq root
  rw [hd] at mm
  rw [ho] at d1
  rw [hr] at d2
  have f4 := fun A n => hp.frz (A := A) n
  have fb := frz_b
  have fs := frz_s
  have sc : ∀ b, scalarB 4 (.bool b) = true := fun _ => rfl
  have lp := loop22 (.str old) (.str root) p.reverse m n true [] [] .nilS pv 100 hm hn (by omega) (by rw [List.reverse_reverse]; exact hp) (.inl ⟨rfl, rfl⟩) (by simp; omega) (by simp; omega)
  cases hw : upR m n true p.reverse with
  | none =>
    rw [hw] at lp
    obtain ⟨σ, B, lp, hσ⟩ := lp
    unfold M22
    rw [evP_run _ _ rfl]
    generalize (n : Int) = N0 at *
    generalize (m : Int) = I0 at *
    simp [mf22, c0, c1, c2, c3, f4, mm, d1, d2, fb, fs, go22x0 lp, hσ, -evBin, -frz]
  | some y =>
    obtain ⟨w, q, wh⟩ := y
    rw [hw] at lp
    obtain ⟨v1, v3, v4, o, A, lp, h4, hF⟩ := lp
    rw [List.nil_append] at hF
    obtain ⟨q1, q2, q3⟩ := upR_mem _ _ _ _ _ _ _ hw
    have hdl : ∀ x ∈ w, x.1.length ≤ 2000 := fun x hx => by
      have := dig_len hd (List.mem_reverse.1 (q1 x hx)); omega
    simp only [List.length_reverse] at q3
    have l4 := h4.slen
    rw [List.length_reverse] at l4
    have bx : evBox 1 (.str []) A = some (.ptr A.length 0 0, A ++ [.row 1 false [.str []]]) := by simp [evBox]
    have bx2 : evBox 1 (.str []) (A ++ [.row 1 false [.str []]]) = some (.ptr (A.length + 1) 0 0, A ++ [.row 1 false [.str []], .row 1 false [.str []]]) := by simp [evBox]
    have s1 := (store22 (A := A) [] [] old).1
    have s2 := (store22 (A := A) old [] old).2
    cases wh with
    | true =>
      have h32 := isDig_len ho
      obtain ⟨A1, X, _, hA1, hX, c44, hB, hXr, hXr2, hor⟩ := mem22 hF old
      have e1 : (outs1 old w w.length) = old := by simp [outs1, firstV]
      have e2 : (outsV old w w.length) = old := by simp [outsV]
      have rg := fun v0 v1 v2 v3 v4 v5 v6 v7 v8 v9 v10 v11 v14 v15 v16 v17 v18 v19 v20 v21 v22 v24 v25 v26 K => range22 (r := A.length) (r2 := A.length + 1) (o1 := outs1 old w) (o2 := outsV old w) (by omega) hB (by omega) (by rw [e1]; exact hXr) (by rw [e2]; exact hXr2) (by omega) (by omega) hor hdl (fun i => by have := firstV_len old h32 (w.drop i); unfold outs1; omega) (fun i => by have := outsV_len old h32 w i; omega) (outs1_step old w) (outsV_step old w) v0 v1 v2 v3 v4 v5 v6 v7 v8 v9 v10 v11 v14 v15 v16 v17 v18 v19 v20 v21 v22 v24 v25 v26 K
      have ldf : evLoad false 1 (TCk (X ++ [.dead]) A.length (A.length + 1) w (outs1 old w) (outsV old w) w.length) (.ptr A.length 0 0) = some (.str (firstV w old)) := by
        refine load_arr (es := [.str (firstV w old)]) ?_ rfl rfl
        rw [TCk_out (by omega) (by rw [List.getElem?_append_left (List.getElem?_eq_some_iff.1 hXr).1, e1]; exact hXr) _ (Nat.le_refl _), Nat.sub_self, outs1, List.drop_zero]
      have ldf2 : evLoad false 1 (TCk (X ++ [.dead]) A.length (A.length + 1) w (outs1 old w) (outsV old w) w.length) (.ptr (A.length + 1) 0 0) = some (.str (w.foldr joinT old)) := by
        refine load_arr (es := [.str (w.foldr joinT old)]) ?_ rfl rfl
        rw [TCk_out2 (by rw [List.getElem?_append_left (List.getElem?_eq_some_iff.1 hXr2).1, e2]; exact hXr2) _ (Nat.le_refl _), Nat.sub_self, outsV, List.drop_zero]
      have e0 := eq_nat q.length 0 .i64
      rw [show ((0 : Nat) : Int) = 0 from rfl, show decide (q.length = 0) = decide (q = []) from by simp [List.length_eq_zero_iff]] at e0
      have e3 := eq_str (firstV w old) old
      have e4 := eq_str (w.foldr joinT old) root
      rw [← hA1] at s2
      unfold M22
      rw [evP_run _ _ rfl]
      simp only
      generalize decide (q = []) = b0 at *
      generalize decide (firstV w old = old) = b1 at *
      generalize decide (w.foldr joinT old = root) = b2 at *
      generalize TCk (X ++ [.dead]) A.length (A.length + 1) w (outs1 old w) (outsV old w) w.length = FIN at *
      generalize w.foldr joinT old = WF at *
      generalize firstV w old = FV at *
      generalize (n : Int) = N0 at *
      generalize (m : Int) = I0 at *
      generalize (q.length : Int) = QL at *
      generalize A ++ [Ent.row 1 false [.str []]] = A0 at *
      generalize A ++ [Ent.row 1 false [.str []], .row 1 false [.str []]] = A00 at *
      generalize A ++ [Ent.row 1 false [.str old], .row 1 false [.str []]] = A000 at *
      clear hA1 hX hB hXr hXr2 hF hor
      cases b0 <;> cases b1 <;> simp [mf22, c0, c1, c2, c3, f4, mm, d1, d2, fb, fs, go22x0 lp, bx, bx2, s1, s2, c44, rg, l4, e0, ldf, ldf2, e3, e4, -evBin, -evLenSl, -evLoad, -evStore, -evBox, -frz]
    | false =>
      have n0 := ne_nat q.length 1 .i64
      rw [show ((1 : Nat) : Int) = 1 from rfl] at n0
      by_cases hq : q.length = 1
      · obtain ⟨x, rfl⟩ : ∃ x, q = [x] := by
          match q, hq with
          | [x], _ => exact ⟨x, rfl⟩
        have h32 : x.length = 32 := dig_len hd (List.mem_reverse.1 (q2 x (by simp)))
        rw [decide_eq_true hq] at n0
        obtain ⟨A1, X, _, hA1, hX, c44, hB, hXr, hXr2, hor⟩ := mem22 hF x
        have e1 : (outs1 x w w.length) = x := by simp [outs1, firstV]
        have e2 : (outsV x w w.length) = x := by simp [outsV]
        have rg := fun v0 v1 v2 v3 v4 v5 v6 v7 v8 v9 v10 v11 v14 v15 v16 v17 v18 v19 v20 v21 v22 v24 v25 v26 K => range22 (r := A.length) (r2 := A.length + 1) (o1 := outs1 x w) (o2 := outsV x w) (by omega) hB (by omega) (by rw [e1]; exact hXr) (by rw [e2]; exact hXr2) (by omega) (by omega) hor hdl (fun i => by have := firstV_len x h32 (w.drop i); unfold outs1; omega) (fun i => by have := outsV_len x h32 w i; omega) (outs1_step x w) (outsV_step x w) v0 v1 v2 v3 v4 v5 v6 v7 v8 v9 v10 v11 v14 v15 v16 v17 v18 v19 v20 v21 v22 v24 v25 v26 K
        have ldf : evLoad false 1 (TCk (X ++ [.dead]) A.length (A.length + 1) w (outs1 x w) (outsV x w) w.length) (.ptr A.length 0 0) = some (.str (firstV w x)) := by
          refine load_arr (es := [.str (firstV w x)]) ?_ rfl rfl
          rw [TCk_out (by omega) (by rw [List.getElem?_append_left (List.getElem?_eq_some_iff.1 hXr).1, e1]; exact hXr) _ (Nat.le_refl _), Nat.sub_self, outs1, List.drop_zero]
        have ldf2 : evLoad false 1 (TCk (X ++ [.dead]) A.length (A.length + 1) w (outs1 x w) (outsV x w) w.length) (.ptr (A.length + 1) 0 0) = some (.str (w.foldr joinT x)) := by
          refine load_arr (es := [.str (w.foldr joinT x)]) ?_ rfl rfl
          rw [TCk_out2 (by rw [List.getElem?_append_left (List.getElem?_eq_some_iff.1 hXr2).1, e2]; exact hXr2) _ (Nat.le_refl _), Nat.sub_self, outsV, List.drop_zero]
        have ix := fun A => h4.strs (i := 0) (s := x) (by simp) (A := A) .i64
        rw [show ((0 : Nat) : Int) = 0 from rfl] at ix
        have h4' : v4 = .fs 1 [.str x] := by
          rcases h4 with ⟨_, h0⟩ | h0
          · simp [strsA] at h0
          · exact h0
        subst h4'
        have s3 := (store22 (A := A) old old x).1
        have s4 := (store22 (A := A) x old x).2
        rw [← hA1] at s4
        have e0 : evBin .eql (.int .i64 0) (.int .i64 0) = some (.bool true) := rfl
        have l0 : evLenSl .nilS = some (.int .i64 0) := rfl
        have e3 := eq_str (firstV w x) old
        have e4 := eq_str (w.foldr joinT x) root
        unfold M22
        rw [evP_run _ _ rfl]
        simp only
        simp only [List.length_cons, List.length_nil, Nat.zero_add] at l4 n0
        rw [show ((1 : Nat) : Int) = 1 from rfl] at l4 n0
        generalize decide (firstV w x = old) = b1 at *
        generalize decide (w.foldr joinT x = root) = b2 at *
        generalize TCk (X ++ [.dead]) A.length (A.length + 1) w (outs1 x w) (outsV x w) w.length = FIN at *
        generalize w.foldr joinT x = WF at *
        generalize firstV w x = FV at *
        generalize (n : Int) = N0 at *
        generalize (m : Int) = I0 at *
        generalize A ++ [Ent.row 1 false [.str []]] = A0 at *
        generalize A ++ [Ent.row 1 false [.str []], .row 1 false [.str []]] = A00 at *
        generalize A ++ [Ent.row 1 false [.str old], .row 1 false [.str []]] = A000 at *
        generalize A ++ [Ent.row 1 false [.str old], .row 1 false [.str old]] = A0000 at *
        generalize A ++ [Ent.row 1 false [.str x], .row 1 false [.str old]] = A00000 at *
        clear hA1 hX hB hXr hXr2 hF hor
        cases b1 <;> simp [mf22, c0, c1, c2, c3, f4, mm, d1, d2, fb, fs, go22x0 lp, bx, bx2, s1, s2, n0, l4, l0, ix, load_fp1, s3, s4, c44, rg, e0, ldf, ldf2, e3, e4, -evBin, -evLenSl, -evLoad, -evStore, -evIndexSl, -evBox, -frz]
      · rw [decide_eq_false hq] at n0
        have hres : (match (some (w, q, false) : Option (List Side × List Str × Bool)) with
          | none => false
          | some (w, q, true) => decide (q = []) && (decide (firstV w old = old) && decide (w.foldr joinT old = root))
          | some (w, [x], false) => decide (firstV w x = old) && decide (w.foldr joinT x = root)
          | some (_, _, false) => false) = false := by
          match q, hq with
          | [], _ => rfl
          | [x], h => exact absurd rfl h
          | x :: y :: r, _ => rfl
        rw [hres]
        unfold M22
        rw [evP_run _ _ rfl]
        generalize (n : Int) = N0 at *
        generalize (m : Int) = I0 at *
        generalize (q.length : Int) = QL at *
        generalize A ++ [Ent.row 1 false [.str []]] = A0 at *
        generalize A ++ [Ent.row 1 false [.str []], .row 1 false [.str []]] = A00 at *
        generalize A ++ [Ent.row 1 false [.str old], .row 1 false [.str []]] = A000 at *
        simp [mf22, c0, c1, c2, c3, f4, mm, d1, d2, fb, fs, go22x0 lp, bx, bx2, s1, s2, n0, l4, -evBin, -evLenSl, -evLoad, -evStore, -evBox, -frz]
end
theorem M22_eq (old root : Str) {n m : Int} (hn : n < 9223372036854775808) {p : List Str} {pv : AV} (hp : SlA 1 (strsA p) pv) (hpl : p.length ≤ 80) : M22 [.str old, .int .i64 m, .str root, .int .i64 n, pv] = some (.bool (verifyX old m root n p)) := by
  unfold verifyX
  by_cases h : (0 ≤ m ∧ m ≤ n) ∧ p.all isDig = true ∧ isDig old = true ∧ isDig root = true
  · rw [if_pos h]
    obtain ⟨⟨h0, h1⟩, hd, ho, hr⟩ := h
    obtain ⟨N, rfl⟩ : ∃ N : Nat, n = N := ⟨n.toNat, by omega⟩
    obtain ⟨I, rfl⟩ : ∃ I : Nat, m = I := ⟨m.toNat, by omega⟩
    by_cases hz : (I : Int) = 0
    · rw [if_pos hz, hz]
      exact M22_zero hp hpl hd ho hr
    · rw [if_neg hz]
      by_cases he : (I : Int) = N
      · rw [if_pos he, he]
        exact M22_same (by omega) hp hpl hd ho hr
      · rw [if_neg he]
        simp only [Int.toNat_natCast]
        exact M22_way (by omega) (by omega) (by omega) hp hpl hd ho hr
  · rw [if_neg h]
    exact M22_no old root hp hpl h
end Go.Proofs.YtgbnngmpaefbcaaDoor
/-
  Digest: few (12), binary (20), Same (17), hex (36).
-/
namespace Go.Proofs.YtgbnngmpaefbcaaDoor
open Go

/-- a string cut -/
def cut60 (s : Str) : Str := s.take 60
def fewT (l : List Str) (n : Nat) : List Str := (l.take n).map cut60
theorem cut60_len (s : Str) : (cut60 s).length ≤ 60 := by simp [cut60]; omega
theorem fewT_len (l : List Str) (n : Nat) : (fewT l n).length ≤ n := by simp [fewT]; omega
theorem fewT_mem {l : List Str} {n : Nat} {s : Str} (h : s ∈ fewT l n) : s.length ≤ 60 := by
  obtain ⟨x, _, rfl⟩ := List.mem_map.1 h
  exact cut60_len x
theorem min60 (s : Str) : evMinL false (.int .i64 (s.length : Int)) [.int .i64 60] = some (.int .i64 ((min s.length 60 : Nat) : Int)) := by
  have := min2_nat s.length 60 .i64 .i64
  simp only [evMinL]
  rw [show (.int .i64 60 : AV) = .int .i64 ((60 : Nat) : Int) from rfl, this]
theorem cutS60 (s : Str) : evSliceStr none (some (.int .i64 ((min s.length 60 : Nat) : Int))) (.str s) = some (.str (cut60 s)) := by
  have h : min s.length 60 ≤ s.length := by omega
  have : s.take (min s.length 60) = cut60 s := by
    rw [cut60]
    by_cases h60 : s.length ≤ 60
    · rw [Nat.min_eq_left h60, List.take_of_length_le (Nat.le_refl _), List.take_of_length_le h60]
    · rw [Nat.min_eq_right (by omega)]
  rw [← this]
  simp only [evSliceStr, evBounds, loB, hi_nat .i64 h, if_pos (Nat.zero_le _), Option.map_some, List.drop_zero, Nat.sub_zero]
theorem lenS (s : Str) : evLenStr (.str s) = some (.int .i64 (s.length : Int)) := by simp [evLenStr]
set_option maxRecDepth 100000 in
set_option maxHeartbeats 4000000 in
theorem loop12 {l : List Str} {a : AV} (ha : SlA 1 (strsA l) a) (n : Nat) (hn : n ≤ 90) : ∀ (c i : Nat) (A : Arena) (o : AV) (m : Nat), i + c = min l.length n → FullN A o (strsA (fewT l i)) → c < m →
    ∃ o' A', iter (evC (envOf GD []) 100 lp12x0) mask12x0 m (st12x0 a (.int .i64 (n : Int)) o (.int .i64 (i : Int))) A = some (.exit 0 ((st12x0 a (.int .i64 (n : Int)) o' (.int .i64 ((min l.length n : Nat) : Int))).set 5 (.bool false)) A') ∧ FullN A' o' (strsA (fewT l n)) := by
  have la := ha.slen
  intro c
  induction c with
  | zero =>
    intro i A o m hi hF hm
    obtain ⟨m, rfl⟩ : ∃ k, m = k + 1 := ⟨m - 1, by omega⟩
    have hfe : fewT l i = fewT l n := by
      unfold fewT
      congr 1
      rw [show i = min l.length n by omega]
      by_cases h : l.length ≤ n
      · rw [Nat.min_eq_left h, List.take_of_length_le (Nat.le_refl _), List.take_of_length_le h]
      · rw [Nat.min_eq_right (by omega)]
    rw [hfe] at hF
    refine ⟨o, A, ?_, hF⟩
    obtain rfl : i = min l.length n := by omega
    have c0 := Dlt_nat (min l.length n) l.length .i64
    have c1 := Dlt_nat (min l.length n) n .i64
    rw [iter_succ, cl12x0]
    by_cases h : l.length ≤ n
    · rw [decide_eq_false (by omega)] at c0
      generalize ((min l.length n : Nat) : Int) = M at *
      generalize (l.length : Int) = L at *
      generalize (n : Int) = N at *
      simp [lp12x0, la, c0, -evBin, -evLenSl]
    · rw [decide_eq_true (by omega)] at c0
      rw [decide_eq_false (by omega)] at c1
      generalize ((min l.length n : Nat) : Int) = M at *
      generalize (l.length : Int) = L at *
      generalize (n : Int) = N at *
      simp [lp12x0, la, c0, c1, -evBin, -evLenSl]
  | succ c ih =>
    intro i A o m hi hF hm
    obtain ⟨m, rfl⟩ : ∃ k, m = k + 1 := ⟨m - 1, by omega⟩
    have hil : i < l.length := by omega
    have hs : l[i]? = some l[i] := List.getElem?_eq_getElem hil
    have hfe : fewT l i ++ [cut60 l[i]] = fewT l (i + 1) := by
      unfold fewT
      rw [← List.take_append_getElem hil, List.map_append]; rfl
    obtain ⟨o1, B, a1, hF1⟩ := appN_fullN hF (cut60 l[i]) (by have := fewT_len l i; omega)
    rw [hfe] at hF1
    obtain ⟨o', A', h3, h4⟩ := ih (i + 1) B o1 m (by omega) hF1 (by omega)
    refine ⟨o', A', ?_, h4⟩
    have c0 := Dlt_nat i l.length .i64
    rw [decide_eq_true hil] at c0
    have c1 := Dlt_nat i n .i64
    rw [decide_eq_true (by omega)] at c1
    have ix := fun A => ha.strs hs (A := A) .i64
    have l0 := lenS l[i]
    have mn := min60 l[i]
    have sl := cutS60 l[i]
    have p0 := Dadd_nat i 1 (by omega)
    rw [show ((1 : Nat) : Int) = 1 from rfl] at p0
    have hr : run (envOf GD []) 100 [.code lp12x0] (st12x0 a (.int .i64 (n : Int)) o (.int .i64 (i : Int))) A = some (.normal (st12x0 a (.int .i64 (n : Int)) o1 (.int .i64 ((i + 1 : Nat) : Int))) B) := by
      generalize ((i + 1 : Nat) : Int) = I1 at *
      generalize (i : Int) = I0 at *
      generalize ((min l[i].length 60 : Nat) : Int) = M at *
      generalize (l[i].length : Int) = L1 at *
      generalize (l.length : Int) = L at *
      generalize (n : Int) = N at *
      generalize cut60 l[i] = CS at *
      simp [lp12x0, la, c0, c1, ix, load_fp1, l0, mn, sl, a1, p0, -evBin, -evLenSl, -evIndexSl, -evLoad, -evLenStr, -evMinL, -evSliceStr]
    rw [iter_succ, cl12x0, hr]
    exact h3
noncomputable def M12 : PModel := fun args => evF (envOf GD []) 100 mf12 4 args
theorem spec12 : PureSpecF Tryd.prog GD 12 M12 := PureSpecF.of_ev (E := envOf GD []) (envOf_sound lookM_nil) rfl at12 comp12 4 fun _ _ h => ⟨100, h⟩
theorem M12_eq {l : List Str} {a : AV} (ha : SlA 1 (strsA l) a) {n : Nat} (hn : n ≤ 90) : ∃ r, M12 [a, .int .i64 (n : Int)] = some r ∧ SlA 1 (strsA (fewT l n)) r := by
  obtain ⟨o', A', lp, hF⟩ := loop12 ha n hn (min l.length n) 0 [] .nilS 100 (by omega) (.inl ⟨rfl, by simp [fewT, strsA]⟩) (by omega)
  obtain ⟨q1, q2⟩ := hF.fin 2
  refine ⟨frz A' 4 o', ?_, q1⟩
  rw [show ((0 : Nat) : Int) = 0 from rfl] at lp
  unfold M12
  rw [evF_run _ _ rfl]
  generalize ((min l.length n : Nat) : Int) = M at *
  generalize (n : Int) = N at *
  simp [mf12, go12x0 lp, pack, q2, -frz]

/-! ### binary -/
theorem loop20 : ∀ (k n c m : Nat), n < 2 ^ k → k ≤ 40 → c + k ≤ 100 → k < m → n < 9223372036854775808 →
    iter (evC (envOf GD []) 100 lp20x0) mask20x0 m (st20x0 (.int .i64 (n : Int)) (.int .i64 (c : Int))) [] = some (.exit 0 ((st20x0 (.int .i64 0) (.int .i64 ((c + Lib.bitLen n : Nat) : Int))).set 3 (.bool false)) []) := by
  intro k
  induction k with
  | zero =>
    intro n c m hn _ hc hm _
    obtain ⟨m, rfl⟩ : ∃ j, m = j + 1 := ⟨m - 1, by omega⟩
    obtain rfl : n = 0 := by simpa using hn
    have b0 : evBin .gtr (.int .i64 0) (.int .i64 0) = some (.bool false) := rfl
    rw [iter_succ, cl20x0, show Lib.bitLen 0 = 0 by decide, Nat.add_zero, show ((0 : Nat) : Int) = 0 from rfl]
    generalize (c : Int) = C at *
    simp [lp20x0, b0, -evBin]
  | succ k ih =>
    intro n c m hn hk hc hm hb
    obtain ⟨m, rfl⟩ : ∃ j, m = j + 1 := ⟨m - 1, by omega⟩
    by_cases h0 : n = 0
    · subst h0
      have b0 : evBin .gtr (.int .i64 0) (.int .i64 0) = some (.bool false) := rfl
      rw [iter_succ, cl20x0, show Lib.bitLen 0 = 0 by decide, Nat.add_zero, show ((0 : Nat) : Int) = 0 from rfl]
      generalize (c : Int) = C at *
      simp [lp20x0, b0, -evBin]
    · have hh := Lib.bitLen_half n h0 (by omega)
      have := ih (n / 2) (c + 1) m (by rw [Nat.pow_succ] at hn; omega) (by omega) (by omega) (by omega) (by omega)
      have b0 := gt_nat n 0 .i64
      rw [decide_eq_true (by omega), show ((0 : Nat) : Int) = 0 from rfl] at b0
      have p0 := Dadd_nat c 1 (by omega)
      have q0 : evBin .quo (.int .i64 (n : Int)) (.int .i64 2) = some (.int .i64 ((n / 2 : Nat) : Int)) := by
        have e : (n : Int).tdiv 2 = ((n / 2 : Nat) : Int) := by
          rw [Int.tdiv_eq_ediv_of_nonneg (Int.natCast_nonneg n)]; norm_cast
        simp only [evBin, if_true, e]
        rw [wrapI (by unfold inI; omega)]
        rfl
      rw [show c + 1 + Lib.bitLen (n / 2) = c + Lib.bitLen n by omega] at this
      rw [show ((1 : Nat) : Int) = 1 from rfl] at p0
      have hr : run (envOf GD []) 100 [.code lp20x0] (st20x0 (.int .i64 (n : Int)) (.int .i64 (c : Int))) [] = some (.normal (st20x0 (.int .i64 ((n / 2 : Nat) : Int)) (.int .i64 ((c + 1 : Nat) : Int))) []) := by
        generalize ((n / 2 : Nat) : Int) = N2 at *
        generalize ((c + 1 : Nat) : Int) = C1 at *
        generalize (c : Int) = C at *
        generalize (n : Int) = N at *
        simp [lp20x0, b0, p0, q0, -evBin]
      rw [iter_succ, cl20x0, hr]
      exact this
noncomputable def M20 : PModel := fun args => evP (envOf GD []) 100 mf20 1 args
theorem spec20 : PureSpec Tryd.prog GD 20 M20 := PureSpec.of_ev (E := envOf GD []) (envOf_sound lookM_nil) rfl at20 comp20 1 fun _ _ h => ⟨100, h⟩
theorem M20_eq {n : Nat} (hn : n < 1000000) : M20 [.int .i64 (n : Int)] = some (.int .i64 (Lib.bitLen n : Int)) := by
  have lp := loop20 20 n 0 100 (by omega) (by omega) (by omega) (by omega) (by omega)
  rw [Nat.zero_add, show ((0 : Nat) : Int) = 0 from rfl] at lp
  have fi := frz_i
  unfold M20
  rw [evP_run _ _ rfl]
  generalize (Lib.bitLen n : Int) = R at *
  generalize (n : Int) = N at *
  simp [mf20, go20x0 lp, fi, -frz]

/-! ### Same -/
theorem ne_str (a b : Str) : evBin .neq (.str a) (.str b) = some (.bool (!decide (a = b))) := by
  simp only [evBin]
  by_cases h : a = b <;> simp [h]
set_option maxRecDepth 100000 in
set_option maxHeartbeats 4000000 in
theorem loop17 {l k : List Str} {a b : AV} (ha : SlA 1 (strsA l) a) (hb : SlA 1 (strsA k) b) (hlk : l.length = k.length) (hl : l.length ≤ 1000000) : ∀ (r q : List Str) (i m : Nat), i ≤ l.length → l.drop i = r → k.drop i = q → r.length < m →
    ∃ σ, iter (evC (envOf GD []) 200 lp17x0) mask17x0 m (st17x0 a b (.int .i64 (i : Int))) [] = some (if r = q then .exit 0 ((st17x0 a b (.int .i64 (l.length : Int))).set 5 (.bool false)) [] else .ret σ []) ∧ (r ≠ q → σ[2]? = some (.bool false)) := by
  have la := ha.slen
  intro r
  induction r with
  | nil =>
    intro q i m hil hr hq hm
    obtain ⟨m, rfl⟩ : ∃ k, m = k + 1 := ⟨m - 1, by omega⟩
    have : l.length ≤ i := List.drop_eq_nil_iff.1 hr
    obtain rfl : i = l.length := by omega
    obtain rfl : q = [] := by rw [← hq]; exact List.drop_eq_nil_iff.2 (by omega)
    refine ⟨[], ?_, fun h => absurd rfl h⟩
    have c0 := Dlt_nat l.length l.length .i64
    rw [decide_eq_false (by omega)] at c0
    rw [iter_succ, cl17x0, if_pos rfl]
    generalize (l.length : Int) = N at *
    simp [lp17x0, la, c0, -evBin, -evLenSl]
  | cons s r ih =>
    intro q i m hil hr hq hm
    obtain ⟨m, rfl⟩ : ∃ k, m = k + 1 := ⟨m - 1, by omega⟩
    obtain ⟨h1, h2, h3⟩ := drop_cons hr
    obtain ⟨t, q', rfl⟩ : ∃ t q', q = t :: q' := by
      cases q with
      | nil => have := List.drop_eq_nil_iff.1 hq; omega
      | cons t q' => exact ⟨t, q', rfl⟩
    obtain ⟨g1, g2, g3⟩ := drop_cons hq
    have c0 := Dlt_nat i l.length .i64
    rw [decide_eq_true h3] at c0
    have ix := fun A => ha.strs h1 (A := A) .i64
    have iy := fun A => hb.strs g1 (A := A) .i64
    have e0 := ne_str s t
    have p0 := Dadd_nat i 1 (by omega)
    rw [show ((1 : Nat) : Int) = 1 from rfl] at p0
    by_cases hst : s = t
    · subst hst
      obtain ⟨σ, i1, i2⟩ := ih q' (i + 1) m (by omega) h2 g2 (by simpa using hm)
      refine ⟨σ, ?_, fun h => i2 fun e => h (by rw [e])⟩
      rw [decide_eq_true rfl] at e0
      have hr : run (envOf GD []) 200 [.code lp17x0] (st17x0 a b (.int .i64 (i : Int))) [] = some (.normal (st17x0 a b (.int .i64 ((i + 1 : Nat) : Int))) []) := by
        generalize ((i + 1 : Nat) : Int) = I1 at *
        generalize (i : Int) = I0 at *
        generalize (l.length : Int) = N at *
        simp [lp17x0, la, c0, ix, iy, load_fp1, e0, p0, -evBin, -evLenSl, -evIndexSl, -evLoad]
      rw [iter_succ, cl17x0, hr]
      simp only [List.cons.injEq, true_and]
      exact i1
    · rw [decide_eq_false hst] at e0
      refine ⟨[a, b, .bool false, .int .i64 (i : Int), .undef, .bool true, .bool true], ?_, fun _ => rfl⟩
      rw [iter_succ, cl17x0, if_neg (by intro h; injection h with h; exact hst h)]
      generalize (i : Int) = I0 at *
      generalize (l.length : Int) = N at *
      simp [lp17x0, la, c0, ix, iy, load_fp1, e0, -evBin, -evLenSl, -evIndexSl, -evLoad]
noncomputable def M17 : PModel := fun args => evP (envOf GD []) 200 mf17 1 args
theorem spec17 : PureSpec Tryd.prog GD 17 M17 := PureSpec.of_ev (E := envOf GD []) (envOf_sound lookM_nil) rfl at17 comp17 1 fun _ _ h => ⟨200, h⟩
theorem M17_eq {l k : List Str} {a b : AV} (ha : SlA 1 (strsA l) a) (hb : SlA 1 (strsA k) b) (hl : l.length ≤ 150) : M17 [a, b] = some (.bool (decide (l = k))) := by
  have la := ha.slen
  have lb := hb.slen
  have n0 := ne_nat l.length k.length .i64
  have fb := frz_b
  by_cases hlk : l.length = k.length
  · obtain ⟨σ, lp, hσ⟩ := loop17 ha hb hlk (by omega) l k 0 200 (by omega) rfl rfl (by omega)
    rw [decide_eq_true hlk] at n0
    rw [show ((0 : Nat) : Int) = 0 from rfl] at lp
    by_cases h : l = k
    · rw [if_pos h] at lp
      rw [decide_eq_true h]
      unfold M17
      rw [evP_run _ _ rfl]
      generalize (l.length : Int) = N at *
      generalize (k.length : Int) = N2 at *
      simp [mf17, la, lb, n0, go17x0 lp, fb, -evBin, -evLenSl, -frz]
    · rw [if_neg h] at lp
      have hσ := hσ h
      rw [decide_eq_false h]
      unfold M17
      rw [evP_run _ _ rfl]
      generalize (l.length : Int) = N at *
      generalize (k.length : Int) = N2 at *
      simp [mf17, la, lb, n0, go17x0 lp, hσ, fb, -evBin, -evLenSl, -frz]
  · rw [decide_eq_false hlk] at n0
    have h : l ≠ k := fun h => hlk (by rw [h])
    rw [decide_eq_false h]
    unfold M17
    rw [evP_run _ _ rfl]
    generalize (l.length : Int) = N at *
    generalize (k.length : Int) = N2 at *
    simp [mf17, la, lb, n0, fb, -evBin, -evLenSl, -frz]

/-! ### hex -/
def hexD : List UInt8 := [48, 49, 50, 51, 52, 53, 54, 55, 56, 57, 97, 98, 99, 100, 101, 102]
def hexB (b : UInt8) : Str := [hexD.getD (b.toNat / 16) 0, hexD.getD (b.toNat % 16) 0]
def hexT (s : Str) : Str := s.flatMap hexB
theorem dig_cut (q : Nat) (h : q < 16) : evSliceStr (some (.int .u8 (q : Int))) (some (.int .u8 ((q + 1 : Nat) : Int))) (.str hexD) = some (.str [hexD.getD q 0]) := by
  have : q = 0 ∨ q = 1 ∨ q = 2 ∨ q = 3 ∨ q = 4 ∨ q = 5 ∨ q = 6 ∨ q = 7 ∨ q = 8 ∨ q = 9 ∨ q = 10 ∨ q = 11 ∨ q = 12 ∨ q = 13 ∨ q = 14 ∨ q = 15 := by omega
  rcases this with rfl | rfl | rfl | rfl | rfl | rfl | rfl | rfl | rfl | rfl | rfl | rfl | rfl | rfl | rfl | rfl <;> rfl
theorem wrap8 (n : Nat) (h : n < 256) : IntKind.u8.wrap (n : Int) = (n : Int) := by
  simp only [IntKind.wrap, IntKind.signed, IntKind.bits, Bool.false_and, Bool.false_eq_true, if_false]
  omega
set_option maxRecDepth 100000 in
set_option maxHeartbeats 4000000 in
theorem round36 {s : Str} {i : Nat} (hi : i < s.length) {out : Str} (ho : out.length ≤ 100000) (hs : s.length ≤ 100000) :
    run (envOf GD []) 100 [.code lp36x0] (st36x0 (.str s) (.str out) (.int .i64 (i : Int))) [] = some (.normal (st36x0 (.str s) (.str (out ++ hexB s[i])) (.int .i64 ((i + 1 : Nat) : Int))) []) := by
  have hb : s[i].toNat < 256 := s[i].toNat_lt
  have c0 := Dlt_nat i s.length .i64
  rw [decide_eq_true hi] at c0
  have ls := lenS s
  have p0 := Dadd_nat i 1 (by omega)
  have ix : evIndexStr (.str s) (.int .i64 (i : Int)) = some (.int .u8 (s[i].toNat : Int)) := by
    simp [evIndexStr, hi]
  have q0 : evBin .quo (.int .u8 (s[i].toNat : Int)) (.int .u8 16) = some (.int .u8 ((s[i].toNat / 16 : Nat) : Int)) := by
    have e : (s[i].toNat : Int).tdiv 16 = ((s[i].toNat / 16 : Nat) : Int) := by
      rw [Int.tdiv_eq_ediv_of_nonneg (Int.natCast_nonneg _)]; norm_cast
    simp only [evBin, if_true, e]
    rw [wrap8 _ (by omega)]
    rfl
  have r0 : evBin .rem (.int .u8 (s[i].toNat : Int)) (.int .u8 16) = some (.int .u8 ((s[i].toNat % 16 : Nat) : Int)) := by
    have e : (s[i].toNat : Int).tmod 16 = ((s[i].toNat % 16 : Nat) : Int) := by
      rw [Int.tmod_eq_emod_of_nonneg (Int.natCast_nonneg _)]; norm_cast
    simp only [evBin, if_true, e]
    rfl
  have a0 : evBin .add (.int .u8 ((s[i].toNat / 16 : Nat) : Int)) (.int .u8 1) = some (.int .u8 ((s[i].toNat / 16 + 1 : Nat) : Int)) := by
    simp only [evBin, if_true]
    rw [show ((s[i].toNat / 16 : Nat) : Int) + 1 = ((s[i].toNat / 16 + 1 : Nat) : Int) by omega, wrap8 _ (by omega)]
  have a1 : evBin .add (.int .u8 ((s[i].toNat % 16 : Nat) : Int)) (.int .u8 1) = some (.int .u8 ((s[i].toNat % 16 + 1 : Nat) : Int)) := by
    simp only [evBin, if_true]
    rw [show ((s[i].toNat % 16 : Nat) : Int) + 1 = ((s[i].toNat % 16 + 1 : Nat) : Int) by omega, wrap8 _ (by omega)]
  have d0 := dig_cut (s[i].toNat / 16) (by omega)
  have d1 := dig_cut (s[i].toNat % 16) (by omega)
  have s0 : evBin .add (.str out) (.str [hexD.getD (s[i].toNat / 16) 0]) = some (.str (out ++ [hexD.getD (s[i].toNat / 16) 0])) := by
    have : out.length + 1 ≤ 9223372036854775807 := by omega
    simp [evBin, this]
  have s1 : evBin .add (.str (out ++ [hexD.getD (s[i].toNat / 16) 0])) (.str [hexD.getD (s[i].toNat % 16) 0]) = some (.str (out ++ hexB s[i])) := by
    have : out.length + 1 + 1 ≤ 9223372036854775807 := by omega
    simp [evBin, this, hexB]
  rw [show ((1 : Nat) : Int) = 1 from rfl] at p0
  unfold hexD at d0 d1
  change _ = some (AV.str [hexD.getD (s[i].toNat / 16) 0]) at d0
  change _ = some (AV.str [hexD.getD (s[i].toNat % 16) 0]) at d1
  generalize hexD.getD (s[i].toNat / 16) 0 = X0 at *
  generalize hexD.getD (s[i].toNat % 16) 0 = X1 at *
  generalize out ++ hexB s[i] = O2 at *
  generalize out ++ [X0] = O1 at *
  generalize ((s[i].toNat / 16 + 1 : Nat) : Int) = Q1 at *
  generalize ((s[i].toNat % 16 + 1 : Nat) : Int) = R1 at *
  generalize ((s[i].toNat / 16 : Nat) : Int) = Q0 at *
  generalize ((s[i].toNat % 16 : Nat) : Int) = R0 at *
  generalize (s[i].toNat : Int) = B0 at *
  generalize ((i + 1 : Nat) : Int) = I1 at *
  generalize (i : Int) = I0 at *
  generalize (s.length : Int) = N at *
  simp [lp36x0, c0, ls, p0, ix, q0, r0, a0, a1, d0, d1, s0, s1, -evBin, -evIndexStr, -evSliceStr, -evLenStr]
theorem loop36 {s : Str} (hs : s.length ≤ 1000) : ∀ (c i : Nat) (m : Nat), i + c = s.length → c < m →
    iter (evC (envOf GD []) 100 lp36x0) mask36x0 m (st36x0 (.str s) (.str (hexT (s.take i))) (.int .i64 (i : Int))) [] = some (.exit 0 ((st36x0 (.str s) (.str (hexT s)) (.int .i64 (s.length : Int))).set 4 (.bool false)) []) := by
  have ls := lenS s
  intro c
  induction c with
  | zero =>
    intro i m hi hm
    obtain ⟨m, rfl⟩ : ∃ k, m = k + 1 := ⟨m - 1, by omega⟩
    obtain rfl : i = s.length := by omega
    have c0 := Dlt_nat s.length s.length .i64
    rw [decide_eq_false (by omega)] at c0
    rw [iter_succ, cl36x0, List.take_length]
    generalize (s.length : Int) = N at *
    simp [lp36x0, ls, c0, -evBin, -evLenStr]
  | succ c ih =>
    intro i m hi hm
    obtain ⟨m, rfl⟩ : ∃ k, m = k + 1 := ⟨m - 1, by omega⟩
    have hil : i < s.length := by omega
    have hl : ∀ t : Str, (hexT t).length = 2 * t.length := fun t => by
      induction t with
      | nil => rfl
      | cons a t iht => simp [hexT, hexB] at iht ⊢; omega
    have := ih (i + 1) m (by omega) (by omega)
    rw [iter_succ, cl36x0, round36 hil (by rw [hl]; simp; omega) (by omega)]
    rw [show hexT (s.take i) ++ hexB s[i] = hexT (s.take (i + 1)) by
      rw [← List.take_append_getElem hil, hexT, hexT, List.flatMap_append]; simp]
    exact this
noncomputable def M36 : PModel := fun args => evP (envOf GD []) 100 mf36 1 args
theorem spec36 : PureSpec Tryd.prog GD 36 M36 := PureSpec.of_ev (E := envOf GD []) (envOf_sound lookM_nil) rfl at36 comp36 1 fun _ _ h => ⟨100, h⟩
theorem M36_eq {s : Str} (hs : s.length ≤ 90) : M36 [.str s] = some (.str (hexT s)) := by
  have lp := loop36 (s := s) (by omega) s.length 0 100 (by omega) (by omega)
  rw [show ((0 : Nat) : Int) = 0 from rfl, List.take_zero, show hexT [] = [] from rfl] at lp
  have fs := frz_s
  unfold M36
  rw [evP_run _ _ rfl]
  generalize (s.length : Int) = N at *
  generalize hexT s = H at *
  simp [mf36, go36x0 lp, fs, -frz]
end Go.Proofs.YtgbnngmpaefbcaaDoor
/-
  Digest: sane (11).
-/
namespace Go.Proofs.YtgbnngmpaefbcaaDoor
open Go

noncomputable def fs11 : List (FuncId × HModel) := [(13, pureFH 4 M13), (15, pureFH 4 M15), (18, pureH 4 M18), (27, pureH 4 M27), (36, pureH 4 M36), (21, pureH 4 M21), (22, pureH 4 M22)]
@[simp] theorem fs11_13 : lookM fs11 13 = some (pureFH 4 M13) := rfl
@[simp] theorem fs11_15 : lookM fs11 15 = some (pureFH 4 M15) := rfl
@[simp] theorem fs11_18 : lookM fs11 18 = some (pureH 4 M18) := rfl
@[simp] theorem fs11_27 : lookM fs11 27 = some (pureH 4 M27) := rfl
@[simp] theorem fs11_36 : lookM fs11 36 = some (pureH 4 M36) := rfl
@[simp] theorem fs11_21 : lookM fs11 21 = some (pureH 4 M21) := rfl
@[simp] theorem fs11_22 : lookM fs11 22 = some (pureH 4 M22) := rfl
theorem sound11 : ∀ f M, lookM fs11 f = some M → FnSpecY Tryd.prog GD f M :=
  lookM_cons (FnSpec.of_pureF spec13 4).y (lookM_cons (FnSpec.of_pureF spec15 4).y (lookM_cons (FnSpecY.of_pure spec18 4) (lookM_cons (FnSpecY.of_pure spec27 4) (lookM_cons (FnSpecY.of_pure spec36 4) (lookM_cons (FnSpecY.of_pure spec21 4) (lookM_cons (FnSpecY.of_pure spec22 4) lookM_nil))))))

def sA : Str := [97]
def sB : Str := [98]
def sC : Str := [99]
theorem left2 : leftT 2 = 1 := by decide
theorem left3 : leftT 3 = 2 := by decide
theorem sane_proof : proofZ [sA, sB, sC] 2 = [rootT [sA, sB]] := by
  simp [proofZ, pathF, left3]
theorem sane_ext : extZ [sA, sB, sC] 1 = [rootT [sB], rootT [sC]] := by
  simp [extZ, extF, left3, left2]
set_option maxRecDepth 100000 in
theorem sane_hex1 : decide (hexT (sumT []) = [101, 51, 98, 48, 99, 52, 52, 50, 57, 56, 102, 99, 49, 99, 49, 52, 57, 97, 102, 98, 102, 52, 99, 56, 57, 57, 54, 102, 98, 57, 50, 52, 50, 55, 97, 101, 52, 49, 101, 52, 54, 52, 57, 98, 57, 51, 52, 99, 97, 52, 57, 53, 57, 57, 49, 98, 55, 56, 53, 50, 98, 56, 53, 53]) = true := by kernel_rfl
set_option maxRecDepth 100000 in
theorem sane_hex2 : decide (hexT (sumT [97, 98, 99]) = [98, 97, 55, 56, 49, 54, 98, 102, 56, 102, 48, 49, 99, 102, 101, 97, 52, 49, 52, 49, 52, 48, 100, 101, 53, 100, 97, 101, 50, 50, 50, 51, 98, 48, 48, 51, 54, 49, 97, 51, 57, 54, 49, 55, 55, 97, 57, 99, 98, 52, 49, 48, 102, 102, 54, 49, 102, 50, 48, 48, 49, 53, 97, 100]) = true := by kernel_rfl
set_option maxRecDepth 100000 in
theorem sane_v1 : verifyT (rootT [sA, sB, sC]) 3 2 sC [rootT [sA, sB]] = true := by kernel_rfl
set_option maxRecDepth 100000 in
theorem sane_v2 : verifyT (rootT [sA, sB, sC]) 3 2 [100] [rootT [sA, sB]] = false := by kernel_rfl
set_option maxRecDepth 100000 in
theorem sane_v3 : verifyX (rootT [sA]) 1 (rootT [sA, sB, sC]) 3 [rootT [sB], rootT [sC]] = true := by kernel_rfl
set_option maxRecDepth 100000 in
theorem sane_v4 : verifyX (rootT [sA, sB]) 1 (rootT [sA, sB, sC]) 3 [rootT [sB], rootT [sC]] = false := by kernel_rfl
end Go.Proofs.YtgbnngmpaefbcaaDoor
/-
  Digest: sane (11), walked; the slices that the laws are given.
-/
namespace Go.Proofs.YtgbnngmpaefbcaaDoor
open Go

noncomputable def M11 : PModel := fun args => evP (envOf GD fs11) 100 mf11 1 args
theorem spec11 : PureSpec Tryd.prog GD 11 M11 := PureSpec.of_ev (E := envOf GD fs11) (envOf_sound sound11) rfl at11 comp11 1 fun _ _ h => ⟨100, h⟩
theorem SlA.fs {l : List Str} {a : AV} (h : SlA 1 (strsA l) a) (hl : l ≠ []) : a = .fs 1 (strsA l) := by
  rcases h with ⟨_, h0⟩ | h0
  · have := congrArg List.length h0
    rw [strsA_len, List.length_nil] at this
    exact absurd (List.length_eq_zero_iff.1 this) hl
  · exact h0
set_option maxRecDepth 100000 in
set_option maxHeartbeats 4000000 in
theorem M11_eq : M11 [] = some (.bool true) := by
  have hs3 : ∀ s ∈ [sA, sB, sC], s.length ≤ 4000 := by simp [sA, sB, sC]
  have hs2 : ∀ s ∈ [sA, sB], s.length ≤ 4000 := by simp [sA, sB]
  have hs1 : ∀ s ∈ [sA], s.length ≤ 4000 := by simp [sA]
  obtain ⟨p, m1, hp⟩ := M13_eq (l := [sA, sB, sC]) (a := .fs 1 (strsA [sA, sB, sC])) (.inr rfl) hs3 (by simp) 2
  obtain ⟨x, m2, hx⟩ := M15_eq (l := [sA, sB, sC]) (a := .fs 1 (strsA [sA, sB, sC])) (.inr rfl) hs3 (by simp) 1
  obtain ⟨y, m3, _⟩ := M13_eq (l := [sA, sB, sC]) (a := .fs 1 (strsA [sA, sB, sC])) (.inr rfl) hs3 (by simp) 3
  rw [sane_proof] at hp
  rw [sane_ext] at hx
  have hp := hp.fs (by simp)
  have hx := hx.fs (by simp)
  subst hp; subst hx
  rw [show errZ [sA, sB, sC] 2 = 0 by simp [errZ]] at m1
  rw [show errX [sA, sB, sC] 1 = 0 by simp [errX]] at m2
  rw [show errZ [sA, sB, sC] 3 = 2 by simp [errZ]] at m3
  have m18a := M18_eq (l := [sA, sB, sC]) (a := .fs 1 (strsA [sA, sB, sC])) (.inr rfl) hs3 (by simp)
  have m18b := M18_eq (l := [sA, sB]) (a := .fs 1 (strsA [sA, sB])) (.inr rfl) hs2 (by simp)
  have m18c := M18_eq (l := [sA]) (a := .fs 1 (strsA [sA])) (.inr rfl) hs1 (by simp)
  have v1 := M21_eq (rootT [sA, sB, sC]) (n := 3) (i := 2) (by omega) (s := sC) (by simp [sC]) (p := [rootT [sA, sB]]) (pv := .fs 1 (strsA [rootT [sA, sB]])) (.inr rfl) (by simp)
  have v2 := M21_eq (rootT [sA, sB, sC]) (n := 3) (i := 2) (by omega) (s := [100]) (by simp) (p := [rootT [sA, sB]]) (pv := .fs 1 (strsA [rootT [sA, sB]])) (.inr rfl) (by simp)
  have v3 := M22_eq (rootT [sA]) (rootT [sA, sB, sC]) (n := 3) (m := 1) (by omega) (p := [rootT [sB], rootT [sC]]) (pv := .fs 1 (strsA [rootT [sB], rootT [sC]])) (.inr rfl) (by simp)
  have v4 := M22_eq (rootT [sA, sB]) (rootT [sA, sB, sC]) (n := 3) (m := 1) (by omega) (p := [rootT [sB], rootT [sC]]) (pv := .fs 1 (strsA [rootT [sB], rootT [sC]])) (.inr rfl) (by simp)
  rw [sane_v1] at v1
  rw [sane_v2] at v2
  rw [sane_v3] at v3
  rw [sane_v4] at v4
  have s1 := M27_eq (s := []) (by simp)
  have s2 := M27_eq (s := [97, 98, 99]) (by simp)
  have h1 := M36_eq (s := sumT []) (by rw [sumT_len]; omega)
  have h2 := M36_eq (s := sumT [97, 98, 99]) (by rw [sumT_len]; omega)
  have e1 := eq_str (hexT (sumT [])) [101, 51, 98, 48, 99, 52, 52, 50, 57, 56, 102, 99, 49, 99, 49, 52, 57, 97, 102, 98, 102, 52, 99, 56, 57, 57, 54, 102, 98, 57, 50, 52, 50, 55, 97, 101, 52, 49, 101, 52, 54, 52, 57, 98, 57, 51, 52, 99, 97, 52, 57, 53, 57, 57, 49, 98, 55, 56, 53, 50, 98, 56, 53, 53]
  have e2 := eq_str (hexT (sumT [97, 98, 99])) [98, 97, 55, 56, 49, 54, 98, 102, 56, 102, 48, 49, 99, 102, 101, 97, 52, 49, 52, 49, 52, 48, 100, 101, 53, 100, 97, 101, 50, 50, 50, 51, 98, 48, 48, 51, 54, 49, 97, 51, 57, 54, 49, 55, 55, 97, 57, 99, 98, 52, 49, 48, 102, 102, 54, 49, 102, 50, 48, 48, 49, 53, 97, 100]
  rw [sane_hex1] at e1
  rw [sane_hex2] at e2
  have fs := frz_s
  have fb := frz_b
  have fi := frz_i
  have scs : ∀ s, scalarB 4 (.str s) = true := fun _ => rfl
  have scb : ∀ s, scalarB 4 (.bool s) = true := fun _ => rfl
  have sci : ∀ k s, scalarB 4 (.int k s) = true := fun _ _ => rfl
  have bs : evBuildSlice 1 [.str [97], .str [98], .str [99]] [] = some (.sl 0 0 3, [.row 1 false (strsA [sA, sB, sC])]) := rfl
  have f3 : frz [.row 1 false (strsA [sA, sB, sC])] 4 (.sl 0 0 3) = .fs 1 (strsA [sA, sB, sC]) := rfl
  have f2 : frz [.row 1 false (strsA [sA, sB, sC])] 4 (.sl 0 0 2) = .fs 1 (strsA [sA, sB]) := rfl
  have f1 : frz [.row 1 false (strsA [sA, sB, sC])] 4 (.sl 0 0 1) = .fs 1 (strsA [sA]) := rfl
  have z1 : evSliceSl 1 [.row 1 false (strsA [sA, sB, sC])] none (some (.int .i64 1)) (.sl 0 0 3) = some (.sl 0 0 1) := rfl
  have z2 : evSliceSl 1 [.row 1 false (strsA [sA, sB, sC])] none (some (.int .i64 2)) (.sl 0 0 3) = some (.sl 0 0 2) := rfl
  have ff : ∀ (A : Arena) (l : List AV), frz A 4 (.fs 1 l) = .fs 1 l := fun _ _ => rfl
  have l1 : evLenSl (.fs 1 (strsA [rootT [sA, sB]])) = some (.int .i64 1) := rfl
  have l2 : evLenSl (.fs 1 (strsA [rootT [sB], rootT [sC]])) = some (.int .i64 2) := rfl
  have b1 : evBin .eql (.int .i64 0) (.int .i64 0) = some (.bool true) := rfl
  have b2 : evBin .eql (.int .i64 1) (.int .i64 1) = some (.bool true) := rfl
  have b3 : evBin .eql (.int .i64 2) (.int .i64 2) = some (.bool true) := rfl
  unfold M11
  rw [evP_run _ _ rfl]
  generalize rootT [sA, sB, sC] = R3 at *
  generalize rootT [sA, sB] = R2 at *
  generalize rootT [sA] = R1 at *
  generalize strsA [R2] = P at *
  generalize strsA [rootT [sB], rootT [sC]] = X at *
  generalize strsA [sA, sB, sC] = L3 at *
  generalize strsA [sA, sB] = L2 at *
  generalize strsA [sA] = L1 at *
  generalize hexT (sumT []) = H1 at *
  generalize hexT (sumT [97, 98, 99]) = H2 at *
  generalize sumT [] = S1 at *
  generalize sumT [97, 98, 99] = S2 at *
  unfold sC at v1
  simp [mf11, bs, f3, f2, f1, z1, z2, ff, m1, m2, m3, m18a, m18b, m18c, v1, v2, v3, v4, s1, s2, h1, h2, e1, e2, fs, fb, fi, l1, l2, b1, b2, b3, -evBuildSlice, -evSliceSl, -evLenSl, -evBin, -frz]

/-- what a law is given: strings -/
theorem strs_arg {xs : List Str} {a : AV} (h : SlA 1 (xs.map AV.str) a) : SlA 1 (strsA xs) a := h
end Go.Proofs.YtgbnngmpaefbcaaDoor
/-
  Digest: what the laws' cards share.
-/
namespace Go.Proofs.YtgbnngmpaefbcaaDoor
open Go

theorem ownK : ownKnob Tryd.prog.godebug = none := by kernel_rfl
theorem gTab : Tryd.prog.globalNamed "cleanroom/digest.round" = some 0 := by kernel_rfl
theorem gTabType : (Tryd.prog.globals[0]?).map (·.type) = some 83 := by kernel_rfl
theorem cells83 : Tryd.prog.cellsOf 83 = 64 := by kernel_rfl
theorem cells64 : Tryd.prog.cellsOf 64 = 1 := by kernel_rfl
def kwsI : List Int := [1116352408, 1899447441, 3049323471, 3921009573, 961987163, 1508970993, 2453635748, 2870763221, 3624381080, 310598401, 607225278, 1426881987, 1925078388, 2162078206, 2614888103, 3248222580, 3835390401, 4022224774, 264347078, 604807628, 770255983, 1249150122, 1555081692, 1996064986, 2554220882, 2821834349, 2952996808, 3210313671, 3336571891, 3584528711, 113926993, 338241895, 666307205, 773529912, 1294757372, 1396182291, 1695183700, 1986661051, 2177026350, 2456956037, 2730485921, 2820302411, 3259730800, 3345764771, 3516065817, 3600352804, 4094571909, 275423344, 430227734, 506948616, 659060556, 883997877, 958139571, 1322822218, 1537002063, 1747873779, 1955562222, 2024104815, 2227730452, 2361852424, 2428436474, 2756734187, 3204031479, 3329325298]
theorem kwsA : kW.map wA = kwsI.map (.int .u32 ·) := by kernel_rfl
theorem grel_of {W : World} (h : Lib.TabIs Tryd.prog W "cleanroom/digest.round" .u32 kwsI) : GRel GD W (fun b => b < W.heap.size) := by
  intro gl cs hg
  unfold GD at hg
  split at hg
  · rename_i e
    subst e
    injection hg with hg
    rw [kwsA] at hg
    subst hg
    have hc : ∀ i (hi : i < kwsI.length), W.cell? ⟨0, i, none⟩ = some (.int .u32 kwsI[i]) := fun i hi => by
      have := h.cell gTab i hi
      rwa [List.getD_eq_getElem?_getD, List.getElem?_eq_getElem hi, Option.getD_some] at this
    have h0 := hc 0 (by decide)
    cases hh : W.heap[0]? with
    | none => simp [World.cell?, hh] at h0
    | some o =>
      cases o with
      | cells c T fz =>
        refine .fp _ 0 0 T c fz _ (fun i => .int .u32 (kwsI.getD i 0)) (Array.getElem?_eq_some_iff.1 hh).1 hh (by decide) (fun i hi => ?_) (fun i hi => ?_)
        · have hi' : i < kwsI.length := by simpa using hi
          simp only [List.getElem_map, List.getD_eq_getElem?_getD, List.getElem?_eq_getElem hi', Option.getD_some]
          exact .int _ _ _
        · have hi' : i < kwsI.length := by simpa using hi
          have := hc i hi'
          simp only [World.cell?, hh] at this
          simp only [Nat.zero_add, List.getD_eq_getElem?_getD, List.getElem?_eq_getElem hi', Option.getD_some]
          exact ⟨by simpa using this, rfl⟩
      | _ => simp [World.cell?, hh] at h0
  · cases hg

/-- A WORLD FOR THE WITNESS: the table holds what its initialiser lays. -/
noncomputable def laidWorld (os : Os) : World :=
  let w := World.holding Tryd.prog os ⟨#[], #[], []⟩
  { w with heap := w.heap.modify 0 fun
      | .cells _ t frozen => .cells #[.int .u32 1116352408, .int .u32 1899447441, .int .u32 3049323471, .int .u32 3921009573, .int .u32 961987163, .int .u32 1508970993, .int .u32 2453635748, .int .u32 2870763221, .int .u32 3624381080, .int .u32 310598401, .int .u32 607225278, .int .u32 1426881987, .int .u32 1925078388, .int .u32 2162078206, .int .u32 2614888103, .int .u32 3248222580, .int .u32 3835390401, .int .u32 4022224774, .int .u32 264347078, .int .u32 604807628, .int .u32 770255983, .int .u32 1249150122, .int .u32 1555081692, .int .u32 1996064986, .int .u32 2554220882, .int .u32 2821834349, .int .u32 2952996808, .int .u32 3210313671, .int .u32 3336571891, .int .u32 3584528711, .int .u32 113926993, .int .u32 338241895, .int .u32 666307205, .int .u32 773529912, .int .u32 1294757372, .int .u32 1396182291, .int .u32 1695183700, .int .u32 1986661051, .int .u32 2177026350, .int .u32 2456956037, .int .u32 2730485921, .int .u32 2820302411, .int .u32 3259730800, .int .u32 3345764771, .int .u32 3516065817, .int .u32 3600352804, .int .u32 4094571909, .int .u32 275423344, .int .u32 430227734, .int .u32 506948616, .int .u32 659060556, .int .u32 883997877, .int .u32 958139571, .int .u32 1322822218, .int .u32 1537002063, .int .u32 1747873779, .int .u32 1955562222, .int .u32 2024104815, .int .u32 2227730452, .int .u32 2361852424, .int .u32 2428436474, .int .u32 2756734187, .int .u32 3204031479, .int .u32 3329325298] t frozen
      | o => o }

/-- a law's argument: strings -/
theorem arg_strs {n : Nat} {a : AV} (h : TA Tryd.prog (n + 1) 22 a) : ∃ l : List Str, SlA 1 (strsA l) a := by
  obtain ⟨zs, h1, _⟩ := TA.strs Tryd.underlying22 Tryd.underlying9 (by kernel_rfl) h
  exact ⟨zs, h1⟩
theorem arg_str {n : Nat} {a : AV} (h : TA Tryd.prog n 9 a) : ∃ s : Str, a = .str s := by
  obtain ⟨s, h1, _⟩ := TA.str Tryd.underlying9 h
  exact ⟨s, h1⟩
theorem arg_int {n : Nat} {a : AV} (h : TA Tryd.prog n 3 a) : ∃ z : Int, a = .int .i64 z ∧ inI z := TA.i64 Tryd.underlying3 h
end Go.Proofs.YtgbnngmpaefbcaaDoor
/-
  Digest: proofs and extensions are accepted, and are short (plain).
-/
namespace Go.Proofs.YtgbnngmpaefbcaaDoor
open Go

theorem wayR_path : ∀ (f : Nat) (l : List Str) (i : Nat) (s : Str), l[i]? = some s → l.length ≤ f → l.length < 9223372036854775808 → ∃ w, wayR l.length i (pathF f l i) = some (w, []) ∧ w.foldr joinT (leafT s) = rootT l
  | 0, l, i, s, hs, hf, _ => by have := (List.getElem?_eq_some_iff.1 hs).1; omega
  | f + 1, l, i, s, hs, hf, hb => by
    have hi := (List.getElem?_eq_some_iff.1 hs).1
    unfold pathF
    by_cases h1 : l.length ≤ 1
    · rw [if_pos h1]
      refine ⟨[], by unfold wayR; rw [if_pos h1], ?_⟩
      match l, h1, hs with
      | [x], _, hs =>
        have : i = 0 := by simp at hi; omega
        subst this
        injection hs with hs; subst hs; rfl
      | [], _, hs => cases hs
    · rw [if_neg h1]
      obtain ⟨b1, b2, b3, _⟩ := leftT_bounds (n := l.length) (by omega) hb
      have h2 := rootT_two (l := l) (by omega) hb
      by_cases hk : leftT l.length ≤ i
      · rw [if_pos hk]
        obtain ⟨w, h3, h4⟩ := wayR_path f (l.drop (leftT l.length)) (i - leftT l.length) s (by rw [List.getElem?_drop, show leftT l.length + (i - leftT l.length) = i by omega]; exact hs) (by simp; omega) (by simp; omega)
        refine ⟨(rootT (l.take (leftT l.length)), true) :: w, ?_, ?_⟩
        · rw [wayR, if_neg h1, if_pos hk]
          rw [List.length_drop] at h3
          rw [h3]; rfl
        · rw [List.foldr_cons, h4, h2]; rfl
      · rw [if_neg hk]
        obtain ⟨w, h3, h4⟩ := wayR_path f (l.take (leftT l.length)) i s (by rw [List.getElem?_take_of_lt (by omega)]; exact hs) (by simp; omega) (by simp; omega)
        refine ⟨(rootT (l.drop (leftT l.length)), false) :: w, ?_, ?_⟩
        · rw [wayR, if_neg h1, if_neg hk]
          rw [List.length_take, Nat.min_eq_left (by omega)] at h3
          rw [h3]; rfl
        · rw [List.foldr_cons, h4, h2]; rfl
theorem all_dig {p : List Str} (h : ∀ s ∈ p, s.length = 32) : p.all isDig = true := List.all_eq_true.2 fun s hs => by simp [isDig, h s hs]
theorem proofZ_eq {l : List Str} {i : Nat} (hi : i < l.length) : proofZ l i = (pathF l.length l i).reverse := by
  rw [proofZ, if_pos (by omega), Int.toNat_natCast]
/-- the proof of an entry is accepted -/
theorem proof_ok {l : List Str} {i : Nat} {s : Str} (hs : l[i]? = some s) (hb : l.length < 9223372036854775808) : verifyT (rootT l) l.length i s (proofZ l i) = true := by
  have hi := (List.getElem?_eq_some_iff.1 hs).1
  obtain ⟨w, h1, h2⟩ := wayR_path l.length l i s hs (Nat.le_refl _) hb
  have hd : (proofZ l i).all isDig = true := all_dig fun x hx => by
    rw [proofZ_eq hi] at hx
    exact pathF_dig _ _ _ x (List.mem_reverse.1 hx)
  rw [verifyT, if_pos ⟨by omega, hd⟩, proofZ_eq hi, List.reverse_reverse, Int.toNat_natCast, Int.toNat_natCast, h1]
  simp [h2]
theorem wayR_len : ∀ (r : List Str) (n i : Nat) (w : List Side) (q : List Str), wayR n i r = some (w, q) → w.length + q.length = r.length
  | [], n, i, w, q, h => by
    unfold wayR at h
    split at h
    · injection h with h; injection h with h1 h2; subst h1; subst h2; rfl
    · cases h
  | x :: r, n, i, w, q, h => by
    unfold wayR at h
    split at h
    · injection h with h; injection h with h1 h2; subst h1; subst h2; simp
    · split at h <;>
      · simp only [Option.map_eq_some_iff] at h
        obtain ⟨y, h1, h2⟩ := h
        injection h2 with h2 h3
        subst h2; subst h3
        have := wayR_len r _ _ y.1 y.2 h1
        simp; omega
theorem wayR_depth : ∀ (r1 r2 : List Str) (n i : Nat) (w1 w2 : List Side) (q1 q2 : List Str), wayR n i r1 = some (w1, q1) → wayR n i r2 = some (w2, q2) → w1.length = w2.length
  | [], r2, n, i, w1, w2, q1, q2, h, h' => by
    unfold wayR at h
    split at h
    · rename_i hn
      injection h with h; injection h with h1 h2; subst h1
      unfold wayR at h'
      split at h'
      · rw [if_pos hn] at h'; injection h' with h'; injection h' with h1 h2; subst h1; rfl
      · rw [if_pos hn] at h'; injection h' with h'; injection h' with h1 h2; subst h1; rfl
    · cases h
  | x :: r, r2, n, i, w1, w2, q1, q2, h, h' => by
    unfold wayR at h
    split at h
    · rename_i hn
      injection h with h; injection h with h1 h2; subst h1
      unfold wayR at h'
      split at h'
      · rw [if_pos hn] at h'; injection h' with h'; injection h' with h1 h2; subst h1; rfl
      · rw [if_pos hn] at h'; injection h' with h'; injection h' with h1 h2; subst h1; rfl
    · rename_i hn
      cases r2 with
      | nil => rw [wayR, if_neg hn] at h'; cases h'
      | cons x2 r2 =>
        rw [wayR, if_neg hn] at h'
        by_cases hk : leftT n ≤ i
        · rw [if_pos hk] at h h'
          simp only [Option.map_eq_some_iff] at h h'
          obtain ⟨y, h1, h2⟩ := h
          obtain ⟨y', h1', h2'⟩ := h'
          injection h2 with h2 h3
          injection h2' with h2' h3'
          subst h2; subst h2'
          have := wayR_depth r r2 _ _ y.1 y'.1 y.2 y'.2 h1 h1'
          simp [this]
        · rw [if_neg hk] at h h'
          simp only [Option.map_eq_some_iff] at h h'
          obtain ⟨y, h1, h2⟩ := h
          obtain ⟨y', h1', h2'⟩ := h'
          injection h2 with h2 h3
          injection h2' with h2' h3'
          subst h2; subst h2'
          have := wayR_depth r r2 _ _ y.1 y'.1 y.2 y'.2 h1 h1'
          simp [this]
/-- a proof of another length is refused -/
theorem proof_length {l : List Str} {i : Nat} {s : Str} (hs : l[i]? = some s) (hb : l.length < 9223372036854775808) (root t : Str) {p : List Str} (hp : p.length ≠ (proofZ l i).length) : verifyT root l.length i t p = false := by
  have hi := (List.getElem?_eq_some_iff.1 hs).1
  obtain ⟨w, h1, _⟩ := wayR_path l.length l i s hs (Nat.le_refl _) hb
  have hl1 := wayR_len _ _ _ _ _ h1
  rw [proofZ_eq hi, List.length_reverse] at hp
  unfold verifyT
  split
  · rw [Int.toNat_natCast, Int.toNat_natCast]
    cases hw : wayR l.length i p.reverse with
    | none => rfl
    | some y =>
      obtain ⟨w2, q2⟩ := y
      have hl2 := wayR_len _ _ _ _ _ hw
      have hd := wayR_depth _ _ _ _ _ _ _ _ h1 hw
      have hq : q2 ≠ [] := by
        rintro rfl
        simp at hl1 hl2; omega
      simp [hq]
  · rfl
theorem leftT_pow {n k : Nat} (h2 : 2 ≤ n) (hb : n < 9223372036854775808) (h : n ≤ 2 ^ (k + 1)) : leftT n ≤ 2 ^ k := by
  obtain ⟨b1, b2, b3, _⟩ := leftT_bounds h2 hb
  unfold leftT at *
  generalize Lib.bitLen (n - 1) - 1 = j at *
  have : j < k + 1 := (Nat.pow_lt_pow_iff_right (a := 2) (by omega)).1 (by omega)
  exact Nat.pow_le_pow_right (by omega) (by omega)
theorem path_short : ∀ (f k : Nat) (l : List Str) (i : Nat), l.length ≤ 2 ^ k → l.length < 9223372036854775808 → (pathF f l i).length ≤ k
  | 0, k, _, _, _, _ => Nat.zero_le _
  | f + 1, k, l, i, h, hb => by
    unfold pathF
    by_cases h1 : l.length ≤ 1
    · rw [if_pos h1]; simp
    · rw [if_neg h1]
      obtain ⟨k, rfl⟩ : ∃ j, k = j + 1 := ⟨k - 1, by
        cases k with
        | zero => simp at h; omega
        | succ k => rfl⟩
      obtain ⟨b1, b2, b3, _⟩ := leftT_bounds (n := l.length) (by omega) hb
      have hp := leftT_pow (by omega) hb h
      split
      · have := path_short f k (l.drop (leftT l.length)) (i - leftT l.length) (by simp; omega) (by simp; omega)
        simp; omega
      · have := path_short f k (l.take (leftT l.length)) i (by simp; omega) (by simp; omega)
        simp; omega
theorem le_bitLen {n : Nat} (h : n < 9223372036854775808) : n ≤ 2 ^ Lib.bitLen n := by
  by_cases h0 : n = 0
  · subst h0; simp
  · obtain ⟨_, _, h3⟩ := bitLen_bounds 64 n (by omega) h0 (Nat.le_refl _)
    omega
theorem proof_short {l : List Str} {i : Nat} (hi : i < l.length) (hb : l.length < 9223372036854775808) : (proofZ l i).length ≤ Lib.bitLen l.length := by
  rw [proofZ_eq hi, List.length_reverse]
  exact path_short _ _ _ _ (le_bitLen hb) hb

/-! ### extensions -/
theorem leftT_is (n : Nat) : ∃ e, leftT n = 2 ^ e := ⟨_, rfl⟩
theorem upR_ext : ∀ (f : Nat) (l : List Str) (m : Nat) (wh : Bool), 1 ≤ m → m ≤ l.length → l.length ≤ f → l.length < 9223372036854775808 →
    ∃ w wh' b, upR m l.length wh (extF f l m wh) = some (w, (if wh' then [] else [b]), wh') ∧ firstV w b = rootT (l.take m) ∧ w.foldr joinT b = rootT l ∧ (wh' = true → wh = true ∧ b = rootT (l.take m))
  | 0, l, m, wh, h1, hm, hf, _ => by omega
  | f + 1, l, m, wh, h1, hm, hf, hb => by
    unfold extF
    by_cases he : l.length ≤ m
    · rw [if_pos he]
      have ht : l.take m = l := List.take_of_length_le he
      refine ⟨[], wh, rootT l, ?_, by rw [ht]; rfl, rfl, fun h => ⟨h, by rw [ht]⟩⟩
      cases wh <;> (unfold upR; simp [he])
    · rw [if_neg he]
      obtain ⟨b1, b2, b3, _⟩ := leftT_bounds (n := l.length) (by omega) hb
      have h2 := rootT_two (l := l) (by omega) hb
      by_cases hk : leftT l.length < m
      · rw [if_pos hk]
        obtain ⟨w, wh', b, i1, i2, i3, i4⟩ := upR_ext f (l.drop (leftT l.length)) (m - leftT l.length) false (by omega) (by simp; omega) (by simp; omega) (by simp; omega)
        rw [List.length_drop] at i1
        refine ⟨(rootT (l.take (leftT l.length)), true) :: w, wh', b, ?_, ?_, ?_, fun h => absurd (i4 h).1 (by simp)⟩
        · rw [upR, if_neg he, if_pos hk, i1]; rfl
        · rw [show firstV ((rootT (l.take (leftT l.length)), true) :: w) b = nodeT (rootT (l.take (leftT l.length))) (firstV w b) from rfl, i2]
          obtain ⟨e, he2⟩ := leftT_is l.length
          rw [← rootT_append (e := e) (by rw [List.length_take, Nat.min_eq_left (by omega), he2]) (by
            intro h0
            have := congrArg List.length h0
            simp at this; omega) (by simp; omega) (by simp; omega)]
          congr 1
          rw [show m = leftT l.length + (m - leftT l.length) by omega, List.take_add]
          rw [show leftT l.length + (m - leftT l.length) - leftT l.length = m - leftT l.length by omega]
        · rw [List.foldr_cons, i3, h2]; rfl
      · rw [if_neg hk]
        obtain ⟨w, wh', b, i1, i2, i3, i4⟩ := upR_ext f (l.take (leftT l.length)) m wh h1 (by simp; omega) (by simp; omega) (by simp; omega)
        rw [List.length_take, Nat.min_eq_left (by omega)] at i1
        rw [List.take_take, Nat.min_eq_left (by omega)] at i2 i4
        refine ⟨(rootT (l.drop (leftT l.length)), false) :: w, wh', b, ?_, ?_, ?_, i4⟩
        · rw [upR, if_neg he, if_neg hk, i1]; rfl
        · exact i2
        · rw [List.foldr_cons, i3, h2]; rfl
theorem extZ_eq {l : List Str} {m : Nat} (h1 : 1 ≤ m) (hm : m ≤ l.length) : extZ l m = (extF l.length l m true).reverse := by
  rw [extZ, if_pos (by omega), Int.toNat_natCast]
/-- the extension of a beginning is accepted -/
theorem ext_ok {l : List Str} {m : Nat} (hm : m ≤ l.length) (hb : l.length < 9223372036854775808) : verifyX (rootT (l.take m)) m (rootT l) l.length (extZ l m) = true := by
  have hdr : ∀ l, isDig (rootT l) = true := fun l => by simp [isDig, rootT_len]
  unfold verifyX
  by_cases h0 : m = 0
  · subst h0
    have he : extZ l (0 : Nat) = [] := by rw [extZ, if_neg (by omega)]
    rw [he, if_pos ⟨by omega, rfl, hdr _, hdr _⟩, if_pos (show ((0 : Nat) : Int) = 0 from rfl), List.take_zero, rootT_nil]
    simp
  · have hd : (extZ l m).all isDig = true := all_dig fun x hx => by
      rw [extZ_eq (by omega) hm] at hx
      exact extF_dig _ _ _ _ x (List.mem_reverse.1 hx)
    rw [if_pos ⟨by omega, hd, hdr _, hdr _⟩, if_neg (by omega)]
    by_cases he : m = l.length
    · have hx : extZ l m = [] := by
        rw [extZ_eq (by omega) hm]
        cases hl : l.length with
        | zero => omega
        | succ f => rw [extF, if_pos (by omega)]; rfl
      rw [if_pos (by omega), hx, he, List.take_length]
      simp
    · rw [if_neg (by omega), Int.toNat_natCast, Int.toNat_natCast, extZ_eq (by omega) hm, List.reverse_reverse]
      obtain ⟨w, wh', b, i1, i2, i3, i4⟩ := upR_ext l.length l m true (by omega) hm (Nat.le_refl _) hb
      rw [i1]
      cases wh' with
      | true =>
        have := (i4 rfl).2
        subst this
        simp [i2, i3]
      | false => simp [i2, i3]
theorem ext_short' : ∀ (f k : Nat) (l : List Str) (m : Nat) (w : Bool), l.length ≤ 2 ^ k → l.length < 9223372036854775808 → 1 ≤ m → (extF f l m w).length ≤ k + 1
  | 0, k, l, _, w, _, _, _ => by cases w <;> simp [extF]
  | f + 1, k, l, m, w, h, hb, hm => by
    unfold extF
    by_cases h1 : l.length ≤ m
    · rw [if_pos h1]; cases w <;> simp
    · rw [if_neg h1]
      obtain ⟨k, rfl⟩ : ∃ j, k = j + 1 := ⟨k - 1, by
        cases k with
        | zero => simp at h; omega
        | succ k => rfl⟩
      obtain ⟨b1, b2, b3, _⟩ := leftT_bounds (n := l.length) (by omega) hb
      have hp := leftT_pow (by omega) hb h
      split
      · have := ext_short' f k (l.drop (leftT l.length)) (m - leftT l.length) false (by simp; omega) (by simp; omega) (by omega)
        simp; omega
      · have := ext_short' f k (l.take (leftT l.length)) m w (by simp; omega) (by simp; omega) hm
        simp; omega
theorem ext_short {l : List Str} {m : Nat} (hm : m ≤ l.length) (hb : l.length < 9223372036854775808) : (extZ l m).length ≤ 2 * Lib.bitLen l.length := by
  by_cases h0 : m = 0
  · subst h0
    rw [extZ, if_neg (by omega)]; simp
  · rw [extZ_eq (by omega) hm, List.length_reverse]
    have := ext_short' l.length (Lib.bitLen l.length) l m true (le_bitLen hb) hb (by omega)
    obtain ⟨h1, _, _⟩ := bitLen_bounds 64 l.length (by omega) (by omega) (Nat.le_refl _)
    omega
end Go.Proofs.YtgbnngmpaefbcaaDoor
/-
  Digest: who proves two entries has found two strings with one digest (plain).
-/
namespace Go.Proofs.YtgbnngmpaefbcaaDoor
open Go

/-- the strings of which digests are computed for a proof, from the root on, and the value; the proof backwards -/
def wayL : Nat → Nat → Str → List Str → List Str × Str
  | _, _, s, [] => ([0 :: s], leafT s)
  | n, i, s, x :: r => if n ≤ 1 then ([0 :: s], leafT s) else
    if i < leftT n then ((1 :: ((wayL (leftT n) i s r).2 ++ x)) :: (wayL (leftT n) i s r).1, nodeT (wayL (leftT n) i s r).2 x)
    else ((1 :: (x ++ (wayL (n - leftT n) (i - leftT n) s r).2)) :: (wayL (n - leftT n) (i - leftT n) s r).1, nodeT x (wayL (n - leftT n) (i - leftT n) s r).2)
theorem wayL_len2 : ∀ (r : List Str) (n i : Nat) (s : Str), (wayL n i s r).2.length = 32
  | [], _, _, s => leafT_len s
  | x :: r, n, i, s => by
    unfold wayL
    split
    · exact leafT_len s
    · split <;> exact nodeT_len _ _
theorem wayL_len1 : ∀ (r : List Str) (n i : Nat) (s : Str), 1 ≤ (wayL n i s r).1.length ∧ (wayL n i s r).1.length ≤ r.length + 1
  | [], _, _, s => by simp [wayL]
  | x :: r, n, i, s => by
    unfold wayL
    split
    · simp
    · split
      · have := wayL_len1 r (leftT n) i s; simp; omega
      · have := wayL_len1 r (n - leftT n) (i - leftT n) s; simp; omega
theorem wayL_mem : ∀ (r : List Str) (n i : Nat) (s : Str) (b : Nat), s.length ≤ b → (∀ x ∈ r, x.length ≤ b) → ∀ y ∈ (wayL n i s r).1, y.length ≤ b + 33
  | [], _, _, s, b, hs, _, y, hy => by simp [wayL] at hy; subst hy; simp; omega
  | x :: r, n, i, s, b, hs, hr, y, hy => by
    unfold wayL at hy
    split at hy
    · simp at hy; subst hy; simp; omega
    · have hx := hr x (List.mem_cons_self ..)
      have hr' : ∀ z ∈ r, z.length ≤ b := fun z hz => hr z (List.mem_cons_of_mem _ hz)
      split at hy
      · rcases List.mem_cons.1 hy with rfl | hy
        · have := wayL_len2 r (leftT n) i s; simp; omega
        · exact wayL_mem r _ _ s b hs hr' y hy
      · rcases List.mem_cons.1 hy with rfl | hy
        · have := wayL_len2 r (n - leftT n) (i - leftT n) s; simp; omega
        · exact wayL_mem r _ _ s b hs hr' y hy
/-- two different strings with one digest, at one place -/
def collT : List Str → List Str → Bool
  | a :: l, b :: m => (decide (a ≠ b) && decide (sumT a = sumT b)) || collT l m
  | _, _ => false
theorem wayL_val : ∀ (r : List Str) (n i : Nat) (s : Str) (w : List Side), wayR n i r = some (w, []) → (wayL n i s r).2 = w.foldr joinT (leafT s)
  | [], n, i, s, w, h => by
    unfold wayR at h
    split at h
    · injection h with h; injection h with h1 _; subst h1; rfl
    · cases h
  | x :: r, n, i, s, w, h => by
    unfold wayR at h
    split at h
    · injection h with h; injection h with _ h2; cases h2
    · rename_i hn
      unfold wayL
      rw [if_neg hn]
      split at h
      · rename_i hk
        simp only [Option.map_eq_some_iff] at h
        obtain ⟨y, h1, h2⟩ := h
        injection h2 with h2 h3
        obtain ⟨w2, q2⟩ := y
        simp only at h2 h3
        subst h3; subst h2
        rw [if_neg (by omega), List.foldr_cons, ← wayL_val r _ _ s w2 h1]; rfl
      · rename_i hk
        simp only [Option.map_eq_some_iff] at h
        obtain ⟨y, h1, h2⟩ := h
        injection h2 with h2 h3
        obtain ⟨w2, q2⟩ := y
        simp only at h2 h3
        subst h3; subst h2
        rw [if_pos (by omega), List.foldr_cons, ← wayL_val r _ _ s w2 h1]; rfl
theorem coll_cons {a b : Str} {l m : List Str} (h : sumT a = sumT b) (hr : a = b → collT l m = true) : collT (a :: l) (b :: m) = true := by
  unfold collT
  by_cases hab : a = b
  · simp [hr hab]
  · simp [hab, h]
theorem append_len {a b c d : Str} (h : a ++ b = c ++ d) (hl : a.length = c.length) : a = c ∧ b = d := List.append_inj h hl
theorem bind_way : ∀ (r q : List Str) (n i : Nat) (s t : Str) (w w' : List Side), wayR n i r = some (w, []) → wayR n i q = some (w', []) → (∀ x ∈ r, x.length = 32) → (∀ x ∈ q, x.length = 32) →
    (wayL n i s r).2 = (wayL n i t q).2 → s ≠ t → collT (wayL n i s r).1 (wayL n i t q).1 = true
  | [], q, n, i, s, t, w, w', h, h', _, _, hv, hst => by
    have hn : n ≤ 1 := by
      unfold wayR at h
      split at h
      · assumption
      · cases h
    have hq : q = [] := by
      cases q with
      | nil => rfl
      | cons y q => simp [wayR, if_pos hn] at h'
    subst hq
    exact coll_cons hv (fun e => absurd (List.cons.inj e).2 hst)
  | x :: r, q, n, i, s, t, w, w', h, h', hr, hq, hv, hst => by
    have hn : ¬ n ≤ 1 := fun hn => by simp [wayR, if_pos hn] at h
    cases q with
    | nil => rw [wayR, if_neg hn] at h'; cases h'
    | cons y q =>
      rw [wayR, if_neg hn] at h h'
      unfold wayL at hv ⊢
      rw [if_neg hn, if_neg hn] at hv ⊢
      have hr' : ∀ z ∈ r, z.length = 32 := fun z hz => hr z (List.mem_cons_of_mem _ hz)
      have hq' : ∀ z ∈ q, z.length = 32 := fun z hz => hq z (List.mem_cons_of_mem _ hz)
      by_cases hk : leftT n ≤ i
      · rw [if_pos hk] at h h'
        rw [if_neg (by omega), if_neg (by omega)] at hv ⊢
        simp only [Option.map_eq_some_iff] at h h'
        obtain ⟨⟨y1, z1⟩, h1, h2⟩ := h
        obtain ⟨⟨y2, z2⟩, h1', h2'⟩ := h'
        injection h2 with h2 h3
        injection h2' with h2' h3'
        simp only at h3 h3'
        subst h3; subst h3'
        refine coll_cons hv fun e => ?_
        injection e with _ e
        obtain ⟨_, e2⟩ := append_len e (by rw [hr x (List.mem_cons_self ..), hq y (List.mem_cons_self ..)])
        exact bind_way r q _ _ s t y1 y2 h1 h1' hr' hq' e2 hst
      · rw [if_neg hk] at h h'
        rw [if_pos (by omega), if_pos (by omega)] at hv ⊢
        simp only [Option.map_eq_some_iff] at h h'
        obtain ⟨⟨y1, z1⟩, h1, h2⟩ := h
        obtain ⟨⟨y2, z2⟩, h1', h2'⟩ := h'
        injection h2 with h2 h3
        injection h2' with h2' h3'
        simp only at h3 h3'
        subst h3; subst h3'
        refine coll_cons hv fun e => ?_
        injection e with _ e
        obtain ⟨e1, _⟩ := append_len e (by rw [wayL_len2, wayL_len2])
        exact bind_way r q _ _ s t y1 y2 h1 h1' hr' hq' e1 hst
/-- what two accepted proofs say -/
theorem binding {root : Str} {n i : Int} {s t : Str} {p q : List Str} (h1 : verifyT root n i s p = true) (h2 : verifyT root n i t q = true) (hst : s ≠ t) :
    (0 ≤ i ∧ i < n) ∧ collT (wayL n.toNat i.toNat s p.reverse).1 (wayL n.toNat i.toNat t q.reverse).1 = true := by
  unfold verifyT at h1 h2
  split at h1
  · rename_i hc
    split at h2
    · rename_i hc2
      refine ⟨hc.1, ?_⟩
      cases hw : wayR n.toNat i.toNat p.reverse with
      | none => rw [hw] at h1; cases h1
      | some y =>
        obtain ⟨w, z⟩ := y
        cases hw2 : wayR n.toNat i.toNat q.reverse with
        | none => rw [hw2] at h2; cases h2
        | some y2 =>
          obtain ⟨w2, z2⟩ := y2
          rw [hw] at h1
          rw [hw2] at h2
          simp only [Bool.and_eq_true, decide_eq_true_eq] at h1 h2
          obtain ⟨rfl, v1⟩ := h1
          obtain ⟨rfl, v2⟩ := h2
          refine bind_way _ _ _ _ s t w w2 hw hw2 (fun x hx => dig_len hc.2 (List.mem_reverse.1 hx)) (fun x hx => dig_len hc2.2 (List.mem_reverse.1 hx)) ?_ hst
          rw [wayL_val _ _ _ _ _ hw, wayL_val _ _ _ _ _ hw2, v1, v2]
    · cases h2
  · cases h1
end Go.Proofs.YtgbnngmpaefbcaaDoor
/-
  Digest: who proves two beginnings has found two strings with one digest (plain).
-/
namespace Go.Proofs.YtgbnngmpaefbcaaDoor
open Go

/-- the strings of which digests are computed for an extension's new root, from the root on, and the value; the proof backwards -/
def sideL : Nat → Nat → Str → Bool → List Str → List Str × Str
  | _, _, old, _, [] => ([], old)
  | m, n, old, wh, x :: r => if n ≤ m then ([], if wh then old else (x :: r).getLastD []) else
    if m ≤ leftT n then ((1 :: ((sideL m (leftT n) old wh r).2 ++ x)) :: (sideL m (leftT n) old wh r).1, nodeT (sideL m (leftT n) old wh r).2 x)
    else ((1 :: (x ++ (sideL (m - leftT n) (n - leftT n) old false r).2)) :: (sideL (m - leftT n) (n - leftT n) old false r).1, nodeT x (sideL (m - leftT n) (n - leftT n) old false r).2)
theorem sideL_len2 : ∀ (r : List Str) (m n : Nat) (old : Str) (wh : Bool), old.length = 32 → (∀ x ∈ r, x.length = 32) → (sideL m n old wh r).2.length = 32
  | [], _, _, _, _, ho, _ => ho
  | x :: r, m, n, old, wh, ho, hr => by
    unfold sideL
    split
    · cases wh
      · simp only [Bool.false_eq_true, if_false]
        have : (x :: r).getLastD [] ∈ x :: r := by rw [List.getLastD_cons]; exact List.getLastD_mem_cons ..
        exact hr _ this
      · exact ho
    · split <;> exact nodeT_len _ _
theorem sideL_len1 : ∀ (r : List Str) (m n : Nat) (old : Str) (wh : Bool), (sideL m n old wh r).1.length ≤ r.length
  | [], _, _, _, _ => Nat.le_refl _
  | x :: r, m, n, old, wh => by
    unfold sideL
    split
    · simp
    · split
      · have := sideL_len1 r m (leftT n) old wh; simp; omega
      · have := sideL_len1 r (m - leftT n) (n - leftT n) old false; simp; omega
theorem sideL_mem : ∀ (r : List Str) (m n : Nat) (old : Str) (wh : Bool), old.length = 32 → (∀ x ∈ r, x.length = 32) → ∀ y ∈ (sideL m n old wh r).1, y.length ≤ 65
  | [], _, _, _, _, _, _, y, hy => by cases hy
  | x :: r, m, n, old, wh, ho, hr, y, hy => by
    have hx := hr x (List.mem_cons_self ..)
    have hr' : ∀ z ∈ r, z.length = 32 := fun z hz => hr z (List.mem_cons_of_mem _ hz)
    unfold sideL at hy
    split at hy
    · cases hy
    · split at hy
      · rcases List.mem_cons.1 hy with rfl | hy
        · have := sideL_len2 r m (leftT n) old wh ho hr'; simp; omega
        · exact sideL_mem r _ _ _ _ ho hr' y hy
      · rcases List.mem_cons.1 hy with rfl | hy
        · have := sideL_len2 r (m - leftT n) (n - leftT n) old false ho hr'; simp; omega
        · exact sideL_mem r _ _ _ _ ho hr' y hy
/-- what the way up starts with -/
def baseV (old : Str) : Bool → List Str → Str
  | true, _ => old
  | false, q => q.headD []
/-- a way that comes to its end: nothing is left, or one element -/
def endOk : Bool → List Str → Bool
  | true, q => decide (q = [])
  | false, q => decide (q.length = 1)
theorem sideL_val : ∀ (r : List Str) (m n : Nat) (old : Str) (wh : Bool) (w : List Side) (q : List Str) (wh' : Bool), upR m n wh r = some (w, q, wh') → endOk wh' q = true → (sideL m n old wh r).2 = w.foldr joinT (baseV old wh' q)
  | [], m, n, old, wh, w, q, wh', h, he => by
    unfold upR at h
    split at h
    · injection h with h; injection h with h1 h2; injection h2 with h2 h3; subst h1; subst h2; subst h3
      cases wh
      · simp [endOk] at he
      · rfl
    · cases h
  | x :: r, m, n, old, wh, w, q, wh', h, he => by
    unfold upR at h
    split at h
    · rename_i hn
      injection h with h; injection h with h1 h2; injection h2 with h2 h3; subst h1; subst h2; subst h3
      cases wh
      · have : r = [] := by
          simp [endOk] at he; exact he
        subst this
        simp [sideL, hn, baseV]
      · simp [endOk] at he
    · rename_i hn
      unfold sideL
      rw [if_neg hn]
      split at h
      · rename_i hk
        simp only [Option.map_eq_some_iff] at h
        obtain ⟨⟨y1, y2, y3⟩, h1, h2⟩ := h
        injection h2 with h2 h3
        injection h3 with h3 h4
        simp only at h2 h3 h4
        subst h3; subst h4; subst h2
        rw [if_neg (by omega), List.foldr_cons, ← sideL_val r _ _ old _ y1 y2 y3 h1 he]; rfl
      · rename_i hk
        simp only [Option.map_eq_some_iff] at h
        obtain ⟨⟨y1, y2, y3⟩, h1, h2⟩ := h
        injection h2 with h2 h3
        injection h3 with h3 h4
        simp only at h2 h3 h4
        subst h3; subst h4; subst h2
        rw [if_pos (by omega), List.foldr_cons, ← sideL_val r _ _ old _ y1 y2 y3 h1 he]; rfl
theorem coll_or {a b : Str} {l m : List Str} {P : Prop} (h : sumT a = sumT b) (hr : a = b → collT l m = true ∨ P) : collT (a :: l) (b :: m) = true ∨ (a = b ∧ P) := by
  by_cases hab : a = b
  · rcases hr hab with h1 | h1
    · exact .inl (by unfold collT; simp [h1])
    · exact .inr ⟨hab, h1⟩
  · exact .inl (by unfold collT; simp [hab, h])
theorem bind_side : ∀ (r z : List Str) (m n : Nat) (a b : Str) (wh : Bool) (w w' : List Side) (q q' : List Str) (v v' : Bool), upR m n wh r = some (w, q, v) → upR m n wh z = some (w', q', v') → endOk v q = true → endOk v' q' = true →
    a.length = 32 → b.length = 32 → (∀ x ∈ r, x.length = 32) → (∀ x ∈ z, x.length = 32) → (sideL m n a wh r).2 = (sideL m n b wh z).2 → v = v' ∧ (collT (sideL m n a wh r).1 (sideL m n b wh z).1 = true ∨ (w = w' ∧ baseV a v q = baseV b v' q'))
  | [], z, m, n, a, b, wh, w, w', q, q', v, v', h, h', he, he', ha, hb, _, _, hv => by
    have hn : n ≤ m := by
      unfold upR at h
      split at h
      · assumption
      · cases h
    rw [upR, if_pos hn] at h
    injection h with h; injection h with h1 h2; injection h2 with h2 h3; subst h1; subst h2; subst h3
    cases wh with
    | false => simp [endOk] at he
    | true =>
      cases z with
      | nil =>
        rw [upR, if_pos hn] at h'
        injection h' with h'; injection h' with h1 h2; injection h2 with h2 h3; subst h1; subst h2; subst h3
        exact ⟨rfl, .inr ⟨rfl, hv⟩⟩
      | cons y z =>
        rw [upR, if_pos hn] at h'
        injection h' with h'; injection h' with h1 h2; injection h2 with h2 h3; subst h1; subst h2; subst h3
        simp [endOk] at he'
  | x :: r, z, m, n, a, b, wh, w, w', q, q', v, v', h, h', he, he', ha, hb, hr, hz, hv => by
    by_cases hn : n ≤ m
    · rw [upR, if_pos hn] at h
      injection h with h; injection h with h1 h2; injection h2 with h2 h3; subst h1; subst h2; subst h3
      cases wh with
      | true => simp [endOk] at he
      | false =>
        have hr0 : r = [] := by simp [endOk] at he; exact he
        subst hr0
        cases z with
        | nil =>
          rw [upR, if_pos hn] at h'
          injection h' with h'; injection h' with h1 h2; injection h2 with h2 h3; subst h1; subst h2; subst h3
          simp [endOk] at he'
        | cons y z =>
          rw [upR, if_pos hn] at h'
          injection h' with h'; injection h' with h1 h2; injection h2 with h2 h3; subst h1; subst h2; subst h3
          have hz0 : z = [] := by simp [endOk] at he'; exact he'
          subst hz0
          simp [sideL, hn] at hv
          exact ⟨rfl, .inr ⟨rfl, hv⟩⟩
    · cases z with
      | nil => rw [upR, if_neg hn] at h'; cases h'
      | cons y z =>
        rw [upR, if_neg hn] at h h'
        unfold sideL at hv ⊢
        rw [if_neg hn, if_neg hn] at hv ⊢
        have hr' : ∀ z ∈ r, z.length = 32 := fun z hz => hr z (List.mem_cons_of_mem _ hz)
        have hz' : ∀ t ∈ z, t.length = 32 := fun t ht => hz t (List.mem_cons_of_mem _ ht)
        have hxl := hr x (List.mem_cons_self ..)
        have hyl := hz y (List.mem_cons_self ..)
        by_cases hk : leftT n < m
        · rw [if_pos hk] at h h'
          rw [if_neg (by omega), if_neg (by omega)] at hv ⊢
          simp only [Option.map_eq_some_iff] at h h'
          obtain ⟨⟨y1, z1, u1⟩, h1, h2⟩ := h
          obtain ⟨⟨y2, z2, u2⟩, h1', h2'⟩ := h'
          injection h2 with h2 h3; injection h3 with h3 h4
          injection h2' with h2' h3'; injection h3' with h3' h4'
          simp only at h2 h3 h4 h2' h3' h4'
          subst h3; subst h4; subst h3'; subst h4'; subst h2; subst h2'
          have key : ∀ e : x ++ (sideL (m - leftT n) (n - leftT n) a false r).2 = y ++ (sideL (m - leftT n) (n - leftT n) b false z).2, x = y ∧ _ := fun e => append_len e (by omega)
          by_cases hxy : x ++ (sideL (m - leftT n) (n - leftT n) a false r).2 = y ++ (sideL (m - leftT n) (n - leftT n) b false z).2
          · obtain ⟨e1, e2⟩ := key hxy
            obtain ⟨i1, i2⟩ := bind_side r z _ _ a b false y1 y2 z1 z2 u1 u2 h1 h1' he he' ha hb hr' hz' e2
            refine ⟨i1, ?_⟩
            rcases i2 with i2 | ⟨i2, i3⟩
            · exact .inl (by unfold collT; simp [i2])
            · exact .inr ⟨by rw [e1, i2], i3⟩
          · refine ⟨?_, .inl ?_⟩
            · exact upR_same r z _ _ _ _ _ _ _ _ _ h1 h1'
            · unfold collT
              have hv' : sumT (1 :: (x ++ (sideL (m - leftT n) (n - leftT n) a false r).2)) = sumT (1 :: (y ++ (sideL (m - leftT n) (n - leftT n) b false z).2)) := hv
              simp [hxy, hv']
        · rw [if_neg hk] at h h'
          rw [if_pos (by omega), if_pos (by omega)] at hv ⊢
          simp only [Option.map_eq_some_iff] at h h'
          obtain ⟨⟨y1, z1, u1⟩, h1, h2⟩ := h
          obtain ⟨⟨y2, z2, u2⟩, h1', h2'⟩ := h'
          injection h2 with h2 h3; injection h3 with h3 h4
          injection h2' with h2' h3'; injection h3' with h3' h4'
          simp only at h2 h3 h4 h2' h3' h4'
          subst h3; subst h4; subst h3'; subst h4'; subst h2; subst h2'
          by_cases hxy : (sideL m (leftT n) a wh r).2 ++ x = (sideL m (leftT n) b wh z).2 ++ y
          · obtain ⟨e1, e2⟩ := append_len hxy (by rw [sideL_len2 _ _ _ _ _ ha hr', sideL_len2 _ _ _ _ _ hb hz'])
            obtain ⟨i1, i2⟩ := bind_side r z _ _ a b wh y1 y2 z1 z2 u1 u2 h1 h1' he he' ha hb hr' hz' e1
            refine ⟨i1, ?_⟩
            rcases i2 with i2 | ⟨i2, i3⟩
            · exact .inl (by unfold collT; simp [i2])
            · exact .inr ⟨by rw [e2, i2], i3⟩
          · refine ⟨?_, .inl ?_⟩
            · exact upR_same r z _ _ _ _ _ _ _ _ _ h1 h1'
            · unfold collT
              have hv' : sumT (1 :: ((sideL m (leftT n) a wh r).2 ++ x)) = sumT (1 :: ((sideL m (leftT n) b wh z).2 ++ y)) := hv
              simp [hxy, hv']
where
  upR_same : ∀ (r z : List Str) (m n : Nat) (wh : Bool) (w w' : List Side) (q q' : List Str) (v v' : Bool), upR m n wh r = some (w, q, v) → upR m n wh z = some (w', q', v') → v = v'
    | [], z, m, n, wh, w, w', q, q', v, v', h, h' => by
      have hn : n ≤ m := by
        unfold upR at h
        split at h
        · assumption
        · cases h
      rw [upR, if_pos hn] at h
      injection h with h; injection h with h1 h2; injection h2 with h2 h3
      cases z with
      | nil => rw [upR, if_pos hn] at h'; injection h' with h'; injection h' with h1' h2'; injection h2' with h2' h3'; rw [← h3, ← h3']
      | cons y z => rw [upR, if_pos hn] at h'; injection h' with h'; injection h' with h1' h2'; injection h2' with h2' h3'; rw [← h3, ← h3']
    | x :: r, z, m, n, wh, w, w', q, q', v, v', h, h' => by
      by_cases hn : n ≤ m
      · rw [upR, if_pos hn] at h
        injection h with h; injection h with h1 h2; injection h2 with h2 h3
        cases z with
        | nil => rw [upR, if_pos hn] at h'; injection h' with h'; injection h' with h1' h2'; injection h2' with h2' h3'; rw [← h3, ← h3']
        | cons y z => rw [upR, if_pos hn] at h'; injection h' with h'; injection h' with h1' h2'; injection h2' with h2' h3'; rw [← h3, ← h3']
      · cases z with
        | nil => rw [upR, if_neg hn] at h'; cases h'
        | cons y z =>
          rw [upR, if_neg hn] at h h'
          by_cases hk : leftT n < m
          · rw [if_pos hk] at h h'
            simp only [Option.map_eq_some_iff] at h h'
            obtain ⟨⟨y1, z1, u1⟩, h1, h2⟩ := h
            obtain ⟨⟨y2, z2, u2⟩, h1', h2'⟩ := h'
            injection h2 with _ h3; injection h3 with _ h4
            injection h2' with _ h3'; injection h3' with _ h4'
            rw [← h4, ← h4']
            exact upR_same r z _ _ _ _ _ _ _ _ _ h1 h1'
          · rw [if_neg hk] at h h'
            simp only [Option.map_eq_some_iff] at h h'
            obtain ⟨⟨y1, z1, u1⟩, h1, h2⟩ := h
            obtain ⟨⟨y2, z2, u2⟩, h1', h2'⟩ := h'
            injection h2 with _ h3; injection h3 with _ h4
            injection h2' with _ h3'; injection h3' with _ h4'
            rw [← h4, ← h4']
            exact upR_same r z _ _ _ _ _ _ _ _ _ h1 h1'
/-- what an accepted extension says -/
theorem ext_says {old root : Str} {m n : Int} {p : List Str} (h : verifyX old m root n p = true) (h0 : m ≠ 0) (hn : m ≠ n) : (1 ≤ m ∧ m < n) ∧ p.all isDig = true ∧ old.length = 32 ∧ ∃ w q v, upR m.toNat n.toNat true p.reverse = some (w, q, v) ∧ endOk v q = true ∧ firstV w (baseV old v q) = old ∧ w.foldr joinT (baseV old v q) = root := by
  unfold verifyX at h
  by_cases hc : (0 ≤ m ∧ m ≤ n) ∧ p.all isDig = true ∧ isDig old = true ∧ isDig root = true
  · rw [if_pos hc, if_neg h0, if_neg hn] at h
    obtain ⟨⟨c1, c2⟩, hd, ho, hr⟩ := hc
    refine ⟨by omega, hd, isDig_len ho, ?_⟩
    cases hw : upR m.toNat n.toNat true p.reverse with
    | none => rw [hw] at h; cases h
    | some y =>
      obtain ⟨w, q, v⟩ := y
      rw [hw] at h
      refine ⟨w, q, v, rfl, ?_⟩
      cases v with
      | true =>
        simp only [Bool.and_eq_true, decide_eq_true_eq] at h
        exact ⟨by simp [endOk, h.1], h.2.1, h.2.2⟩
      | false =>
        match q, h with
        | [x], h =>
          simp only [Bool.and_eq_true, decide_eq_true_eq] at h
          exact ⟨rfl, h.1, h.2⟩
  · rw [if_neg hc] at h; cases h
theorem ext_binding {a b root : Str} {m n : Int} {p q : List Str} (h1 : verifyX a m root n p = true) (h2 : verifyX b m root n q = true) (hab : a ≠ b) :
    (1 ≤ m ∧ m < n) ∧ collT (sideL m.toNat n.toNat a true p.reverse).1 (sideL m.toNat n.toNat b true q.reverse).1 = true ∧ a.length = 32 ∧ b.length = 32 ∧ p.all isDig = true ∧ q.all isDig = true := by
  by_cases h0 : m = 0
  · subst h0
    exfalso
    unfold verifyX at h1 h2
    split at h1
    · split at h2
      · simp at h1 h2; exact hab (h1.2.trans h2.2.symm)
      · cases h2
    · cases h1
  · by_cases hn : m = n
    · subst hn
      exfalso
      unfold verifyX at h1 h2
      split at h1
      · split at h2
        · simp at h1 h2; exact hab (h1.2.trans h2.2.symm)
        · cases h2
      · cases h1
    · obtain ⟨hc, hd, ha, w, z, v, i1, i2, i3, i4⟩ := ext_says h1 h0 hn
      obtain ⟨_, hd', hb, w', z', v', j1, j2, j3, j4⟩ := ext_says h2 h0 hn
      refine ⟨hc, ?_, ha, hb, hd, hd'⟩
      have hv : (sideL m.toNat n.toNat a true p.reverse).2 = (sideL m.toNat n.toNat b true q.reverse).2 := by
        rw [sideL_val _ _ _ _ _ _ _ _ i1 i2, sideL_val _ _ _ _ _ _ _ _ j1 j2, i4, j4]
      obtain ⟨_, k⟩ := bind_side _ _ _ _ a b true w w' z z' v v' i1 j1 i2 j2 ha hb (fun x hx => dig_len hd (List.mem_reverse.1 hx)) (fun x hx => dig_len hd' (List.mem_reverse.1 hx)) hv
      rcases k with k | ⟨k1, k2⟩
      · exact k
      · exact absurd (by rw [← i3, ← j3, k1, k2]) hab
end Go.Proofs.YtgbnngmpaefbcaaDoor
/-
  Digest: ProofAccepted (4), walked.
-/
namespace Go.Proofs.YtgbnngmpaefbcaaDoor
open Go

noncomputable def fs4 : List (FuncId × HModel) := [(11, pureH 4 M11), (12, pureFH 4 M12), (13, pureFH 4 M13), (15, pureFH 4 M15), (18, pureH 4 M18), (20, pureH 4 M20), (21, pureH 4 M21), (22, pureH 4 M22), (26, pureH 4 M26), (27, pureH 4 M27), (28, pureH 4 M28), (29, pureH 4 M29)]
@[simp] theorem fs4_11 : lookM fs4 11 = some (pureH 4 M11) := rfl
@[simp] theorem fs4_12 : lookM fs4 12 = some (pureFH 4 M12) := rfl
@[simp] theorem fs4_13 : lookM fs4 13 = some (pureFH 4 M13) := rfl
@[simp] theorem fs4_15 : lookM fs4 15 = some (pureFH 4 M15) := rfl
@[simp] theorem fs4_18 : lookM fs4 18 = some (pureH 4 M18) := rfl
@[simp] theorem fs4_20 : lookM fs4 20 = some (pureH 4 M20) := rfl
@[simp] theorem fs4_21 : lookM fs4 21 = some (pureH 4 M21) := rfl
@[simp] theorem fs4_22 : lookM fs4 22 = some (pureH 4 M22) := rfl
@[simp] theorem fs4_26 : lookM fs4 26 = some (pureH 4 M26) := rfl
@[simp] theorem fs4_27 : lookM fs4 27 = some (pureH 4 M27) := rfl
@[simp] theorem fs4_28 : lookM fs4 28 = some (pureH 4 M28) := rfl
@[simp] theorem fs4_29 : lookM fs4 29 = some (pureH 4 M29) := rfl
theorem sound4 : ∀ f M, lookM fs4 f = some M → FnSpecY Tryd.prog GD f M :=
  lookM_cons (FnSpecY.of_pure spec11 4) (lookM_cons (FnSpecY.of_pureF spec12 4) (lookM_cons (FnSpecY.of_pureF spec13 4) (lookM_cons (FnSpecY.of_pureF spec15 4) (lookM_cons (FnSpecY.of_pure spec18 4) (lookM_cons (FnSpecY.of_pure spec20 4) (lookM_cons (FnSpecY.of_pure spec21 4) (lookM_cons (FnSpecY.of_pure spec22 4)
    (lookM_cons (FnSpecY.of_pure spec26 4) (lookM_cons (FnSpecY.of_pure spec27 4) (lookM_cons (FnSpecY.of_pure spec28 4) (lookM_cons (FnSpecY.of_pure spec29 4) lookM_nil)))))))))))

section
variable {l : List Str} {a : AV} (ha : SlA 1 (strsA l) a) (hsl : ∀ s ∈ l, s.length ≤ 60) (hl : l.length ≤ 42)
include ha hsl hl
set_option maxRecDepth 100000 in
set_option maxHeartbeats 4000000 in
theorem round4 {i : Nat} (hi : i < l.length) (v1 v3 : AV) :
    run (envOf GD fs4) 100 [.code lp4x0] (st4x0 a v1 v3 (.str (rootT l)) (.int .i64 (i : Int))) [] = some (.normal (st4x0 a v1 v3 (.str (rootT l)) (.int .i64 ((i + 1 : Nat) : Int))) []) := by
  have hs : l[i]? = some l[i] := List.getElem?_eq_getElem hi
  have hb : l.length < 9223372036854775808 := by omega
  obtain ⟨p, m13, hp⟩ := M13_eq ha (fun s h => by have := hsl s h; omega) (by omega) (i : Int)
  rw [show errZ l i = 0 by rw [errZ, if_pos (by omega)]] at m13
  have hshort := proof_short hi hb
  have hok := proof_ok hs hb
  have hpl : (proofZ l i).length ≤ 42 := by
    rw [proofZ_eq hi, List.length_reverse]; have := pathF_len l.length l i; omega
  have m21 := M21_eq (rootT l) (n := (l.length : Int)) (i := (i : Int)) (by omega) (s := l[i]) (by have := hsl _ (List.getElem_mem hi); omega) hp (by omega)
  rw [hok] at m21
  have m20 := M20_eq (n := l.length) (by omega)
  have la := ha.slen
  have lp := hp.slen
  have c0 := Dlt_nat i l.length .i64
  rw [decide_eq_true hi] at c0
  have p0 := Dadd_nat i 1 (by omega)
  rw [show ((1 : Nat) : Int) = 1 from rfl] at p0
  have n0 : evBin .neq (.int .i64 0) (.int .i64 0) = some (.bool false) := rfl
  have g0 := gt_nat (proofZ l i).length (Lib.bitLen l.length) .i64
  rw [decide_eq_false (by omega)] at g0
  have ix := fun A => ha.strs hs (A := A) .i64
  have fa := fun A n => ha.frz (A := A) n
  have fp := fun A n => hp.frz (A := A) n
  have fs := frz_s
  have fi := frz_i
  have sci : ∀ k s, scalarB 4 (.int k s) = true := fun _ _ => rfl
  have scb : ∀ s, scalarB 4 (.bool s) = true := fun _ => rfl
  generalize ((i + 1 : Nat) : Int) = I1 at *
  generalize (i : Int) = I0 at *
  generalize ((proofZ l I0).length : Int) = PL at *
  generalize (Lib.bitLen l.length : Int) = BL at *
  generalize (l.length : Int) = N at *
  generalize rootT l = R at *
  simp [lp4x0, la, c0, m13, fa, fi, n0, lp, m20, g0, ix, load_fp1, fs, fp, m21, p0, -evBin, -evLenSl, -evIndexSl, -evLoad, -frz]
theorem loop4 (v1 v3 : AV) : ∀ (c i m : Nat), i + c = l.length → c < m →
    iter (evC (envOf GD fs4) 100 lp4x0) mask4x0 m (st4x0 a v1 v3 (.str (rootT l)) (.int .i64 (i : Int))) [] = some (.exit 0 ((st4x0 a v1 v3 (.str (rootT l)) (.int .i64 (l.length : Int))).set 13 (.bool false)) []) := by
  have la := ha.slen
  intro c
  induction c with
  | zero =>
    intro i m hi hm
    obtain ⟨m, rfl⟩ : ∃ k, m = k + 1 := ⟨m - 1, by omega⟩
    obtain rfl : i = l.length := by omega
    have c0 := Dlt_nat l.length l.length .i64
    rw [decide_eq_false (by omega)] at c0
    rw [iter_succ, cl4x0]
    generalize (l.length : Int) = N at *
    simp [lp4x0, la, c0, -evBin, -evLenSl]
  | succ c ih =>
    intro i m hi hm
    obtain ⟨m, rfl⟩ : ∃ k, m = k + 1 := ⟨m - 1, by omega⟩
    rw [iter_succ, cl4x0, round4 ha hsl hl (by omega)]
    exact ih (i + 1) m (by omega) (by omega)
end
set_option maxRecDepth 100000 in
set_option maxHeartbeats 4000000 in
theorem ev4 {l0 : List Str} {a0 : AV} (ha0 : SlA 1 (strsA l0) a0) (z : Int) : evP (envOf GD fs4) 100 mf4 1 [a0, .int .i64 z] = some (.bool true) := by
  obtain ⟨a, m12, ha⟩ := M12_eq ha0 (n := 40) (by omega)
  have hsl : ∀ s ∈ fewT l0 40, s.length ≤ 60 := fun s h => fewT_mem h
  have hl := fewT_len l0 40
  obtain ⟨l, hld⟩ : ∃ l, l = fewT l0 40 := ⟨_, rfl⟩
  rw [← hld] at ha hsl hl
  have hsl4 : ∀ s ∈ l, s.length ≤ 4000 := fun s h => by have := hsl s h; omega
  have hb : l.length < 9223372036854775808 := by omega
  have m11 := M11_eq
  have m18 := M18_eq ha hsl4 (by omega)
  have lp := loop4 ha hsl (by omega) (.int .i64 z) (.bool true) l.length 0 100 (by omega) (by omega)
  obtain ⟨p, m13, hp⟩ := M13_eq ha hsl4 (by omega) z
  have la := ha.slen
  have lpp := hp.slen
  have c0 := bGe .i64 z 0
  have c1 := bLt .i64 z l.length
  have fa0 := fun A n => ha0.frz (A := A) n
  have fa := fun A n => ha.frz (A := A) n
  have fp := fun A n => hp.frz (A := A) n
  have fs := frz_s
  have fi := frz_i
  have fb := frz_b
  have sci : ∀ k s, scalarB 4 (.int k s) = true := fun _ _ => rfl
  have scb : ∀ s, scalarB 4 (.bool s) = true := fun _ => rfl
  have scs : ∀ s, scalarB 4 (.str s) = true := fun _ => rfl
  rw [show ((0 : Nat) : Int) = 0 from rfl] at lp
  rw [show ((40 : Nat) : Int) = 40 from rfl] at m12
  by_cases h : 0 ≤ z ∧ z < l.length
  · obtain ⟨k, rfl⟩ : ∃ k : Nat, z = k := ⟨z.toNat, by omega⟩
    have hk : k < l.length := by omega
    have hs : l[k]? = some l[k] := List.getElem?_eq_getElem hk
    have hle : errZ l k = 0 := by rw [errZ, if_pos h]
    rw [hle] at m13
    rw [decide_eq_true h.1] at c0
    rw [decide_eq_true h.2] at c1
    have hsk : l[k].length ≤ 60 := hsl _ (List.getElem_mem hk)
    have hfa := ha.fs (fun h0 => by rw [h0] at hk; simp at hk)
    have ix := fun A => ha.strs hs (A := A) .i64
    subst hfa
    have hpl : (proofZ l k).length ≤ 42 := by
      rw [proofZ_eq hk, List.length_reverse]; have := pathF_len l.length l k; omega
    have n0 : evBin .eql (.int .i64 0) (.int .i64 0) = some (.bool true) := rfl
    have m21a := M21_eq (rootT l) (n := (l.length : Int)) (i := (k : Int)) (by omega) (s := l[k]) (by omega) (p := proofZ l k ++ [rootT l]) (pv := .fs 1 (strsA (proofZ l k ++ [rootT l]))) (.inr rfl) (by simp; omega)
    rw [proof_length hs hb _ _ (by simp)] at m21a
    have bs : evBuildSlice 1 [] [] = some (.sl 0 0 0, [.row 1 false []]) := rfl
    have ap1 : evAppendN 1 16 [.row 1 false []] (.sl 0 0 0) p = some (.sl 1 0 (proofZ l k).length, [.dead, .row 1 false (strsA (proofZ l k))]) := by
      have hb : (proofZ l k).length * 16 ≤ 140737488355328 := by omega
      simp [evAppendN, hp.src, strsA_len, hb]
    have ap2 : evAppendN 1 16 [.dead, .row 1 false (strsA (proofZ l k))] (.sl 1 0 (proofZ l k).length) (.fs 1 [.str (rootT l)]) = some (.sl 2 0 ((proofZ l k).length + 1), [.dead, .dead, .row 1 false (strsA (proofZ l k ++ [rootT l]))]) := by
      have hb : ((proofZ l k).length + 1) * 16 ≤ 140737488355328 := by omega
      have ht : (strsA (proofZ l k)).take (proofZ l k).length = strsA (proofZ l k) := List.take_of_length_le (by rw [strsA_len]; omega)
      have e : strsA (proofZ l k ++ [rootT l]) = strsA (proofZ l k) ++ [.str (rootT l)] := by simp [strsA, strA]
      rw [e]
      simp [evAppendN, srcElems, hb, ht]
    have fz2 : frz [.dead, .dead, .row 1 false (strsA (proofZ l k ++ [rootT l]))] 4 (.sl 2 0 ((proofZ l k).length + 1)) = .fs 1 (strsA (proofZ l k ++ [rootT l])) := by
      have ht : (strsA (proofZ l k ++ [rootT l])).take ((proofZ l k).length + 1) = strsA (proofZ l k ++ [rootT l]) := List.take_of_length_le (by rw [strsA_len]; simp)
      have hm : (strsA (proofZ l k ++ [rootT l])).map (frz [.dead, .dead, .row 1 false (strsA (proofZ l k ++ [rootT l]))] 3) = strsA (proofZ l k ++ [rootT l]) := by
        conv => lhs; rw [strsA, List.map_map]
        exact List.map_congr_left fun x _ => rfl
      simp only [frz, List.getElem?_cons_succ, List.getElem?_cons_zero, List.drop_zero, ht, hm]
    have g0 := gt_nat (proofZ l k).length 0 .i64
    rw [show ((0 : Nat) : Int) = 0 from rfl] at g0
    by_cases hpz : proofZ l k = []
    · rw [hpz] at g0 lpp
      rw [decide_eq_false (by simp)] at g0
      rw [show (([] : List Str).length : Int) = 0 from rfl] at g0 lpp
      generalize strsA (proofZ l k ++ [rootT l]) = PR at *
      generalize strsA (proofZ l k) = PP at *
      generalize strsA l = LA at *
      generalize (proofZ l k).length + 1 = P1 at *
      generalize (proofZ l k).length = P0 at *
      rw [evP_run _ _ rfl]
      generalize (k : Int) = K at *
      generalize (l.length : Int) = N at *
      generalize rootT l = R at *
      simp [mf4, m11, m12, fa0, fa, fi, fs, fb, m18, go4x0 lp, m13, c0, c1, la, n0, bs, ap1, ap2, ix, load_fp1, fz2, m21a, lpp, g0, -evBin, -evLenSl, -evIndexSl, -evLoad, -evBuildSlice, -frz]
    · rw [decide_eq_true (by have := List.length_pos_iff.2 hpz; omega)] at g0
      have hpf := hp.fs hpz
      have hpos := List.length_pos_iff.2 hpz
      have sl := fs_from (l := proofZ l k) (k := 1) [.dead, .dead, .row 1 false (strsA (proofZ l k ++ [rootT l]))] hpos
      rw [← hpf, show ((1 : Nat) : Int) = 1 from rfl] at sl
      have m21b := M21_eq (rootT l) (n := (l.length : Int)) (i := (k : Int)) (by omega) (s := l[k]) (by omega) (p := (proofZ l k).drop 1) (pv := .fs 1 (strsA ((proofZ l k).drop 1))) (.inr rfl) (by simp; omega)
      rw [proof_length hs hb _ _ (by simp; omega)] at m21b
      have ffs : ∀ (A : Arena) (l : List AV), frz A 4 (.fs 1 l) = .fs 1 l := fun _ _ => rfl
      generalize strsA (proofZ l k ++ [rootT l]) = PR at *
      generalize strsA ((proofZ l k).drop 1) = PD at *
      generalize strsA (proofZ l k) = PP at *
      generalize strsA l = LA at *
      generalize (proofZ l k).length + 1 = P1 at *
      generalize hP0 : (proofZ l k).length = P0 at *
      rw [evP_run _ _ rfl]
      generalize (k : Int) = K at *
      generalize (l.length : Int) = N at *
      generalize rootT l = R at *
      simp [mf4, m11, m12, fa0, fa, fi, fs, fb, ffs, m18, go4x0 lp, m13, c0, c1, la, n0, bs, ap1, ap2, ix, load_fp1, fz2, m21a, lpp, g0, sl, m21b, -evBin, -evLenSl, -evIndexSl, -evLoad, -evBuildSlice, -evSliceSl, -frz]
  · have hle : errZ l z = 2 := by rw [errZ, if_neg h]
    rw [hle] at m13
    have hpz : proofZ l z = [] := by rw [proofZ, if_neg h]
    rw [hpz] at lpp
    rw [show (([] : List Str).length : Int) = 0 from rfl] at lpp
    have m21 := M21_eq (rootT l) (n := (l.length : Int)) (i := z) (by omega) (s := []) (by simp) (p := []) (pv := .nilS) (.inl ⟨rfl, rfl⟩) (by simp)
    rw [show verifyT (rootT l) l.length z [] [] = false by rw [verifyT, if_neg (fun h' => h h'.1)]] at m21
    have n0 : evBin .eql (.int .i64 2) (.int .i64 0) = some (.bool false) := rfl
    have n1 : evBin .neq (.int .i64 2) (.int .i64 2) = some (.bool false) := rfl
    have n2 : evBin .neq (.int .i64 0) (.int .i64 0) = some (.bool false) := rfl
    have fn : ∀ A n, frz A n .nilS = .nilS := fun A n => by cases n <;> rfl
    rw [evP_run _ _ rfl]
    by_cases h0 : 0 ≤ z
    · rw [decide_eq_true h0] at c0
      rw [decide_eq_false (by omega)] at c1
      generalize (l.length : Int) = N at *
      generalize rootT l = R at *
      simp [mf4, m11, m12, fa0, fa, fi, fs, fb, fn, m18, go4x0 lp, m13, c0, c1, la, lpp, n0, n1, n2, m21, -evBin, -evLenSl, -evIndexSl, -evLoad, -frz]
    · rw [decide_eq_false h0] at c0
      generalize (l.length : Int) = N at *
      generalize rootT l = R at *
      simp [mf4, m11, m12, fa0, fa, fi, fs, fb, fn, m18, go4x0 lp, m13, c0, la, lpp, n0, n1, n2, m21, -evBin, -evLenSl, -evIndexSl, -evLoad, -frz]
end Go.Proofs.YtgbnngmpaefbcaaDoor
/-
  Digest: ExtensionAccepted (5).
-/
namespace Go.Proofs.YtgbnngmpaefbcaaDoor
open Go

theorem SlA.cutS {l : List Str} {a : AV} (h : SlA 1 (strsA l) a) {k : Nat} (hk : k ≤ l.length) : ∃ b, evSliceSl 1 [] none (some (.int .i64 (k : Int))) a = some b ∧ SlA 1 (strsA (l.take k)) b := by
  obtain ⟨b, h1, h2⟩ := h.cutHi (A := []) k (by rw [strsA_len]; exact hk) .i64
  refine ⟨b, h1, ?_⟩
  rw [strsA, ← List.map_take] at h2
  exact h2
section
variable {l : List Str} {a : AV} (ha : SlA 1 (strsA l) a) (hsl : ∀ s ∈ l, s.length ≤ 60) (hl : l.length ≤ 42)
include ha hsl hl
set_option maxRecDepth 100000 in
set_option maxHeartbeats 4000000 in
theorem round5 {i : Nat} (hi : i ≤ l.length) (v1 v3 : AV) :
    run (envOf GD fs4) 100 [.code lp5x0] (st5x0 a v1 v3 (.str (rootT l)) (.int .i64 (i : Int))) [] = some (.normal (st5x0 a v1 v3 (.str (rootT l)) (.int .i64 ((i + 1 : Nat) : Int))) []) := by
  have hb : l.length < 9223372036854775808 := by omega
  have hsl4 : ∀ s ∈ l, s.length ≤ 4000 := fun s h => by have := hsl s h; omega
  obtain ⟨p, m15, hp⟩ := M15_eq ha hsl4 (by omega) (i : Int)
  rw [show errX l i = 0 by rw [errX, if_pos (by omega)]] at m15
  have hshort := ext_short hi hb
  have hok := ext_ok hi hb
  have hpl : (extZ l i).length ≤ 43 := by
    by_cases h0 : i = 0
    · subst h0; rw [extZ, if_neg (by omega)]; simp
    · rw [extZ_eq (by omega) hi, List.length_reverse]; have := extF_len l.length l i true; omega
  obtain ⟨b, sl, hb2⟩ := ha.cutS hi
  have m18 := M18_eq hb2 (fun s h => hsl4 s (List.mem_of_mem_take h)) (by simp; omega)
  have m22 := M22_eq (rootT (l.take i)) (rootT l) (n := (l.length : Int)) (m := (i : Int)) (by omega) hp (by omega)
  rw [hok] at m22
  have m20 := M20_eq (n := l.length) (by omega)
  have hbl : Lib.bitLen l.length ≤ 64 := Lib.bitLen_le _ 64 (by omega) (by omega)
  have ml := Dmul_nat 2 (Lib.bitLen l.length) (by omega)
  rw [show ((2 : Nat) : Int) = 2 from rfl] at ml
  have la := ha.slen
  have lp := hp.slen
  have c0 : evBin .leq (.int .i64 (i : Int)) (.int .i64 (l.length : Int)) = some (.bool true) := by rw [bLe]; simp; omega
  have p0 := Dadd_nat i 1 (by omega)
  rw [show ((1 : Nat) : Int) = 1 from rfl] at p0
  have n0 : evBin .neq (.int .i64 0) (.int .i64 0) = some (.bool false) := rfl
  have g0 := gt_nat (extZ l i).length (2 * Lib.bitLen l.length) .i64
  rw [decide_eq_false (by omega)] at g0
  have fa := fun A n => ha.frz (A := A) n
  have fp := fun A n => hp.frz (A := A) n
  have fb2 := fun A n => hb2.frz (A := A) n
  have fs := frz_s
  have fi := frz_i
  have sci : ∀ k s, scalarB 4 (.int k s) = true := fun _ _ => rfl
  have scb : ∀ s, scalarB 4 (.bool s) = true := fun _ => rfl
  have scs : ∀ s, scalarB 4 (.str s) = true := fun _ => rfl
  generalize ((extZ l (i : Int)).length : Int) = PL at *
  generalize ((i + 1 : Nat) : Int) = I1 at *
  generalize (i : Int) = I0 at *
  generalize ((2 * Lib.bitLen l.length : Nat) : Int) = BL2 at *
  generalize (Lib.bitLen l.length : Int) = BL at *
  generalize (l.length : Int) = N at *
  generalize rootT l = R at *
  generalize rootT (l.take i) = RT at *
  simp [lp5x0, la, c0, m15, fa, fi, n0, lp, m20, ml, g0, sl, fb2, m18, fs, fp, m22, p0, -evBin, -evLenSl, -evSliceSl, -frz]
theorem loop5 (v1 v3 : AV) : ∀ (c i m : Nat), i + c = l.length + 1 → c < m →
    iter (evC (envOf GD fs4) 100 lp5x0) mask5x0 m (st5x0 a v1 v3 (.str (rootT l)) (.int .i64 (i : Int))) [] = some (.exit 0 ((st5x0 a v1 v3 (.str (rootT l)) (.int .i64 ((l.length + 1 : Nat) : Int))).set 11 (.bool false)) []) := by
  have la := ha.slen
  intro c
  induction c with
  | zero =>
    intro i m hi hm
    obtain ⟨m, rfl⟩ : ∃ k, m = k + 1 := ⟨m - 1, by omega⟩
    obtain rfl : i = l.length + 1 := by omega
    have c0 : evBin .leq (.int .i64 ((l.length + 1 : Nat) : Int)) (.int .i64 (l.length : Int)) = some (.bool false) := by rw [bLe]; simp; omega
    rw [iter_succ, cl5x0]
    generalize ((l.length + 1 : Nat) : Int) = N1 at *
    generalize (l.length : Int) = N at *
    simp [lp5x0, la, c0, -evBin, -evLenSl]
  | succ c ih =>
    intro i m hi hm
    obtain ⟨m, rfl⟩ : ∃ k, m = k + 1 := ⟨m - 1, by omega⟩
    rw [iter_succ, cl5x0, round5 ha hsl hl (by omega)]
    exact ih (i + 1) m (by omega) (by omega)
end
set_option maxRecDepth 100000 in
set_option maxHeartbeats 4000000 in
theorem ev5 {l0 : List Str} {a0 : AV} (ha0 : SlA 1 (strsA l0) a0) (z : Int) : evP (envOf GD fs4) 100 mf5 1 [a0, .int .i64 z] = some (.bool true) := by
  obtain ⟨a, m12, ha⟩ := M12_eq ha0 (n := 25) (by omega)
  have hsl : ∀ s ∈ fewT l0 25, s.length ≤ 60 := fun s h => fewT_mem h
  have hl := fewT_len l0 25
  obtain ⟨l, hld⟩ : ∃ l, l = fewT l0 25 := ⟨_, rfl⟩
  rw [← hld] at ha hsl hl
  have hsl4 : ∀ s ∈ l, s.length ≤ 4000 := fun s h => by have := hsl s h; omega
  have m11 := M11_eq
  have m18 := M18_eq ha hsl4 (by omega)
  have lp := loop5 ha hsl (by omega) (.int .i64 z) (.bool true) (l.length + 1) 0 100 (by omega) (by omega)
  obtain ⟨p, m15, hp⟩ := M15_eq ha hsl4 (by omega) z
  have la := ha.slen
  have lpp := hp.slen
  have c0 := bGe .i64 z 0
  have c1 := bLe .i64 z l.length
  have fa0 := fun A n => ha0.frz (A := A) n
  have fa := fun A n => ha.frz (A := A) n
  have fp := fun A n => hp.frz (A := A) n
  have fs := frz_s
  have fi := frz_i
  have fb := frz_b
  have sci : ∀ k s, scalarB 4 (.int k s) = true := fun _ _ => rfl
  have scb : ∀ s, scalarB 4 (.bool s) = true := fun _ => rfl
  have scs : ∀ s, scalarB 4 (.str s) = true := fun _ => rfl
  rw [show ((0 : Nat) : Int) = 0 from rfl] at lp
  rw [show ((25 : Nat) : Int) = 25 from rfl] at m12
  by_cases h : 0 ≤ z ∧ z ≤ l.length
  · have hle : errX l z = 0 := by rw [errX, if_pos h]
    rw [hle] at m15
    rw [decide_eq_true h.1] at c0
    rw [decide_eq_true h.2] at c1
    have n0 : evBin .eql (.int .i64 0) (.int .i64 0) = some (.bool true) := rfl
    rw [evP_run _ _ rfl]
    generalize ((extZ l z).length : Int) = PL at *
    generalize ((l.length + 1 : Nat) : Int) = N1 at *
    generalize (l.length : Int) = N at *
    generalize rootT l = R at *
    simp [mf5, m11, m12, fa0, fa, fi, fb, m18, go5x0 lp, m15, c0, c1, la, n0, -evBin, -evLenSl, -frz]
  · have hle : errX l z = 2 := by rw [errX, if_neg h]
    rw [hle] at m15
    have hpz : extZ l z = [] := by rw [extZ, if_neg (by omega)]
    rw [hpz] at lpp
    rw [show (([] : List Str).length : Int) = 0 from rfl] at lpp
    have m22 := M22_eq (rootT l) (rootT l) (n := (l.length : Int)) (m := z) (by omega) hp (by rw [hpz]; simp)
    rw [show verifyX (rootT l) z (rootT l) l.length (extZ l z) = false by rw [verifyX, if_neg (fun h' => h h'.1)]] at m22
    have n0 : evBin .eql (.int .i64 2) (.int .i64 0) = some (.bool false) := rfl
    have n1 : evBin .eql (.int .i64 2) (.int .i64 2) = some (.bool true) := rfl
    have n2 : evBin .eql (.int .i64 0) (.int .i64 0) = some (.bool true) := rfl
    rw [evP_run _ _ rfl]
    by_cases h0 : 0 ≤ z
    · rw [decide_eq_true h0] at c0
      rw [decide_eq_false (by omega)] at c1
      generalize ((l.length + 1 : Nat) : Int) = N1 at *
      generalize (l.length : Int) = N at *
      generalize rootT l = R at *
      simp [mf5, m11, m12, fa0, fa, fp, fi, fs, fb, m18, go5x0 lp, m15, c0, c1, la, lpp, n0, n1, n2, m22, -evBin, -evLenSl, -frz]
    · rw [decide_eq_false h0] at c0
      generalize ((l.length + 1 : Nat) : Int) = N1 at *
      generalize (l.length : Int) = N at *
      generalize rootT l = R at *
      simp [mf5, m11, m12, fa0, fa, fp, fi, fs, fb, m18, go5x0 lp, m15, c0, la, lpp, n0, n1, n2, m22, -evBin, -evLenSl, -frz]
theorem ev5L (args : List AV) (h : LawArgs Tryd.prog 8 Tryd.f5.params.toList args) : ∃ fuel, evP (envOf GD fs4) fuel mf5 1 args = some (.bool true) := by
  rw [Tryd.params5] at h
  obtain ⟨a, r, rfl, h0, h⟩ := h.cons
  obtain ⟨b, r, rfl, h1, h⟩ := h.cons
  obtain rfl := h.nil
  obtain ⟨l, hl⟩ := arg_strs h0
  obtain ⟨z, rfl, hz⟩ := arg_int h1
  exact ⟨100, ev5 hl z⟩
end Go.Proofs.YtgbnngmpaefbcaaDoor
/-
  Digest: Split (8).
-/
namespace Go.Proofs.YtgbnngmpaefbcaaDoor
open Go

set_option maxRecDepth 100000 in
set_option maxHeartbeats 4000000 in
theorem ev8 {l0 : List Str} {a0 : AV} (ha0 : SlA 1 (strsA l0) a0) (s0 : Str) : evP (envOf GD fs4) 100 mf8 1 [a0, .str s0] = some (.bool true) := by
  obtain ⟨a, m12, ha⟩ := M12_eq ha0 (n := 40) (by omega)
  have hsl : ∀ s ∈ fewT l0 40, s.length ≤ 60 := fun s h => fewT_mem h
  have hl := fewT_len l0 40
  obtain ⟨l, hld⟩ : ∃ l, l = fewT l0 40 := ⟨_, rfl⟩
  rw [← hld] at ha hsl hl
  have hsl4 : ∀ s ∈ l, s.length ≤ 4000 := fun s h => by have := hsl s h; omega
  have hcs := cut60_len s0
  obtain ⟨s, hsd⟩ : ∃ s, s = cut60 s0 := ⟨_, rfl⟩
  have ls := lenS s0
  have mn := min60 s0
  have sl := cutS60 s0
  rw [← hsd] at sl hcs
  have hmore : ∀ x ∈ l ++ [s], x.length ≤ 4000 := fun x hx => by
    rcases List.mem_append.1 hx with h | h
    · exact hsl4 x h
    · simp at h; rw [h]; omega
  have hml : (l ++ [s]).length = l.length + 1 := by simp
  have m11 := M11_eq
  have m18 := M18_eq ha hsl4 (by omega)
  obtain ⟨p, m15, hp⟩ := M15_eq (l := l ++ [s]) (a := .fs 1 (strsA (l ++ [s]))) (.inr rfl) hmore (by omega) (l.length : Int)
  rw [show errX (l ++ [s]) l.length = 0 by rw [errX, if_pos (by omega)]] at m15
  have m18m := M18_eq (l := l ++ [s]) (a := .fs 1 (strsA (l ++ [s]))) (.inr rfl) hmore (by omega)
  have hok := ext_ok (l := l ++ [s]) (m := l.length) (by omega) (by omega)
  rw [List.take_left' rfl] at hok
  have hpl : (extZ (l ++ [s]) l.length).length ≤ 60 := by
    by_cases h0 : l.length = 0
    · rw [extZ, if_neg (by omega)]; simp
    · rw [extZ_eq (by omega) (by omega), List.length_reverse]; have := extF_len (l ++ [s]).length (l ++ [s]) l.length true; omega
  have m22 := M22_eq (rootT l) (rootT (l ++ [s])) (n := ((l ++ [s]).length : Int)) (m := (l.length : Int)) (by omega) hp (by omega)
  rw [hok] at m22
  have la := ha.slen
  have lm := fs_len (l := l ++ [s])
  have fa0 := fun A n => ha0.frz (A := A) n
  have fa := fun A n => ha.frz (A := A) n
  have fp := fun A n => hp.frz (A := A) n
  have fs := frz_s
  have fi := frz_i
  have fb := frz_b
  have sci : ∀ k s, scalarB 4 (.int k s) = true := fun _ _ => rfl
  have scb : ∀ s, scalarB 4 (.bool s) = true := fun _ => rfl
  have scs : ∀ s, scalarB 4 (.str s) = true := fun _ => rfl
  have n0 : evBin .neq (.int .i64 0) (.int .i64 0) = some (.bool false) := rfl
  have e0 := eq_nat l.length 0 .i64
  rw [show ((0 : Nat) : Int) = 0 from rfl] at e0
  rw [show ((40 : Nat) : Int) = 40 from rfl] at m12
  -- the list with one entry more, in memory
  obtain ⟨A, id, g1, g2⟩ : ∃ (A : Arena) (id : Nat), A = [.dead, .dead, .row 1 false (strsA (l ++ [s]))] ∧ id = 2 := ⟨_, _, rfl, rfl⟩
  have bs : evBuildSlice 1 [] [] = some (.sl 0 0 0, [.row 1 false []]) := rfl
  have ap1 : evAppendN 1 16 [.row 1 false []] (.sl 0 0 0) a = some (.sl 1 0 l.length, [.dead, .row 1 false (strsA l)]) := by
    have hb : l.length * 16 ≤ 140737488355328 := by omega
    simp [evAppendN, ha.src, strsA_len, hb]
  have ap2 : evAppendN 1 16 [.dead, .row 1 false (strsA l)] (.sl 1 0 l.length) (.fs 1 [.str s]) = some (.sl 2 0 (l.length + 1), A) := by
    have hb : (l.length + 1) * 16 ≤ 140737488355328 := by omega
    have ht : (strsA l).take l.length = strsA l := List.take_of_length_le (by rw [strsA_len]; omega)
    have e : strsA (l ++ [s]) = strsA l ++ [.str s] := by simp [strsA, strA]
    rw [g1, e]
    simp [evAppendN, srcElems, hb, ht]
  have hA2 : A[2]? = some (.row 1 false (strsA (l ++ [s]))) := by rw [g1]; rfl
  have fz : ∀ (o n : Nat), frz A 4 (.sl 2 o n) = .fs 1 (strsA (((l ++ [s]).drop o).take n)) := fun o n => by
    have hm : ∀ L : List Str, (strsA L).map (frz A 3) = strsA L := fun L => by
      rw [strsA, List.map_map]; exact List.map_congr_left fun x _ => rfl
    have ht : ((strsA (l ++ [s])).drop o).take n = strsA (((l ++ [s]).drop o).take n) := by rw [strsA, strsA, List.map_take, List.map_drop]
    simp only [frz, hA2]
    rw [ht, hm]
  have fz0 := fz 0 (l.length + 1)
  rw [List.drop_zero, List.take_of_length_le (by omega)] at fz0
  have ln2 : evLenSl (.sl 2 0 (l.length + 1)) = some (.int .i64 ((l ++ [s]).length : Int)) := by rw [hml]; rfl
  by_cases h0 : l.length = 0
  · have hl0 : l = [] := List.length_eq_zero_iff.1 h0
    rw [decide_eq_true h0] at e0
    have m26 := M26_eq (s := s) (by omega)
    have m27 := M27_eq (s := []) (by simp)
    have r1 : rootT (l ++ [s]) = leafT s := by rw [hl0]; rfl
    have r0 : rootT l = sumT [] := by rw [hl0]; rfl
    have q1 := eq_str (leafT s) (leafT s)
    rw [decide_eq_true rfl] at q1
    have q0 := eq_str (sumT []) (sumT [])
    rw [decide_eq_true rfl] at q0
    rw [r1] at m18m m22
    rw [r0] at m18 m22
    rw [evP_run _ _ rfl]
    clear g1 hA2 fz
    generalize strsA (l ++ [s]) = LM at *
    generalize strsA l = L at *
    generalize ((l ++ [s]).length : Int) = N1 at *
    generalize (l.length : Int) = N at *
    generalize l.length + 1 = NN1 at *
    generalize l.length = NN at *
    generalize leafT s = LS at *
    generalize sumT [] = S0 at *
    generalize ((min s0.length 60 : Nat) : Int) = MN at *
    generalize (s0.length : Int) = SL at *
    simp [mf8, m11, m12, fa0, fa, fi, fs, fb, ls, mn, sl, bs, ap1, ap2, la, fz0, m15, n0, m18, m18m, ln2, fp, m22, e0, m26, q1, m27, q0, -evBin, -evLenSl, -evLenStr, -evMinL, -evSliceStr, -evBuildSlice, -frz]
  · rw [decide_eq_false h0] at e0
    obtain ⟨b1, b2, b3, _⟩ := leftT_bounds (n := (l ++ [s]).length) (by omega) (by omega)
    have m28 := M28_eq (n := (l ++ [s]).length) (by omega) (by omega)
    have z1 := slice_hi (k := .i64) (off := 0) (len := l.length + 1) (hi := leftT (l ++ [s]).length) hA2 (by omega)
    have z2 := slice_lo (k := .i64) (off := 0) (len := l.length + 1) (lo := leftT (l ++ [s]).length) hA2 (by omega)
    rw [Nat.zero_add] at z2
    have fz1 := fz 0 (leftT (l ++ [s]).length)
    rw [List.drop_zero] at fz1
    have fz2 := fz (leftT (l ++ [s]).length) (l.length + 1 - leftT (l ++ [s]).length)
    rw [List.take_of_length_le (by simp)] at fz2
    have m18x := M18_eq (l := (l ++ [s]).take (leftT (l ++ [s]).length)) (a := .fs 1 (strsA ((l ++ [s]).take (leftT (l ++ [s]).length)))) (.inr rfl) (fun x hx => hmore x (List.mem_of_mem_take hx)) (by simp; omega)
    have m18y := M18_eq (l := (l ++ [s]).drop (leftT (l ++ [s]).length)) (a := .fs 1 (strsA ((l ++ [s]).drop (leftT (l ++ [s]).length)))) (.inr rfl) (fun x hx => hmore x (List.mem_of_mem_drop hx)) (by simp; omega)
    have m29 := M29_eq (a := rootT ((l ++ [s]).take (leftT (l ++ [s]).length))) (b := rootT ((l ++ [s]).drop (leftT (l ++ [s]).length))) (by rw [rootT_len]; omega) (by rw [rootT_len]; omega)
    rw [← rootT_two (l := l ++ [s]) (by omega) (by omega)] at m29
    have q1 := eq_str (rootT (l ++ [s])) (rootT (l ++ [s]))
    rw [decide_eq_true rfl] at q1
    rw [evP_run _ _ rfl]
    clear g1 hA2 fz
    generalize strsA ((l ++ [s]).take (leftT (l ++ [s]).length)) = LT at *
    generalize strsA ((l ++ [s]).drop (leftT (l ++ [s]).length)) = LD at *
    generalize rootT ((l ++ [s]).take (leftT (l ++ [s]).length)) = RT at *
    generalize rootT ((l ++ [s]).drop (leftT (l ++ [s]).length)) = RD at *
    generalize rootT (l ++ [s]) = RM at *
    generalize rootT l = RL at *
    generalize strsA (l ++ [s]) = LM at *
    generalize strsA l = L at *
    generalize l.length + 1 - leftT (l ++ [s]).length = DN at *
    generalize (leftT (l ++ [s]).length : Int) = KI at *
    generalize leftT (l ++ [s]).length = KN at *
    generalize ((l ++ [s]).length : Int) = N1 at *
    generalize (l.length : Int) = N at *
    generalize l.length + 1 = NN1 at *
    generalize l.length = NN at *
    generalize ((min s0.length 60 : Nat) : Int) = MN at *
    generalize (s0.length : Int) = SL at *
    simp [mf8, m11, m12, fa0, fa, fi, fs, fb, ls, mn, sl, bs, ap1, ap2, la, fz0, m15, n0, m18, m18m, ln2, fp, m22, e0, m28, z1, z2, fz1, fz2, m18x, m18y, m29, q1, -evBin, -evLenSl, -evLenStr, -evMinL, -evSliceStr, -evBuildSlice, -evSliceSl, -frz]
theorem ev8L (args : List AV) (h : LawArgs Tryd.prog 8 Tryd.f8.params.toList args) : ∃ fuel, evP (envOf GD fs4) fuel mf8 1 args = some (.bool true) := by
  rw [Tryd.params8] at h
  obtain ⟨a, r, rfl, h0, h⟩ := h.cons
  obtain ⟨b, r, rfl, h1, h⟩ := h.cons
  obtain rfl := h.nil
  obtain ⟨l, hl⟩ := arg_strs h0
  obtain ⟨s, rfl⟩ := arg_str h1
  exact ⟨100, ev8 hl s⟩
end Go.Proofs.YtgbnngmpaefbcaaDoor
/-
  Digest: way (23), collide (24); Binding (6).
-/
namespace Go.Proofs.YtgbnngmpaefbcaaDoor
open Go

noncomputable def fs23 (M : PModel) : List (FuncId × HModel) := [(23, pureFH 4 M), (26, pureH 4 M26), (28, pureH 4 M28), (29, pureH 4 M29)]
@[simp] theorem fs23_23 (M : PModel) : lookM (fs23 M) 23 = some (pureFH 4 M) := rfl
@[simp] theorem fs23_26 (M : PModel) : lookM (fs23 M) 26 = some (pureH 4 M26) := rfl
@[simp] theorem fs23_28 (M : PModel) : lookM (fs23 M) 28 = some (pureH 4 M28) := rfl
@[simp] theorem fs23_29 (M : PModel) : lookM (fs23 M) 29 = some (pureH 4 M29) := rfl
theorem sound23 {M : PModel} (h : PureSpecF Tryd.prog GD 23 M) : ∀ f N, lookM (fs23 M) f = some N → FnSpecY Tryd.prog GD f N :=
  lookM_cons (FnSpecY.of_pureF h 4) (lookM_cons (FnSpecY.of_pure spec26 4) (lookM_cons (FnSpecY.of_pure spec28 4) (lookM_cons (FnSpecY.of_pure spec29 4) lookM_nil)))
noncomputable def M23 : Nat → PModel
  | 0 => fun _ => none
  | k + 1 => fun args => evF (envOf GD (fs23 (M23 k))) 100 mf23 4 args
theorem spec23 : ∀ k, PureSpecF Tryd.prog GD 23 (M23 k)
  | 0 => ⟨fun args w => enters_of Tryd.func23 (by kernel_rfl) rfl args w, fun args r h => by cases h⟩
  | k + 1 => PureSpecF.of_ev (E := envOf GD (fs23 (M23 k))) (envOf_sound (sound23 (spec23 k))) rfl at23 comp23 4 fun _ _ h => ⟨100, h⟩
theorem frz_strs (A : Arena) (n : Nat) (l : List Str) : (strsA l).map (frz A n) = strsA l := by
  rw [strsA, List.map_map]; exact List.map_congr_left fun x _ => by cases n <;> rfl
theorem fresh_strs (A : Arena) (n : Nat) (l : List Str) : (strsA l).all (freshB A n) = true := by
  rw [List.all_eq_true]
  intro x hx
  rw [strsA] at hx
  obtain ⟨y, _, rfl⟩ := List.mem_map.1 hx
  cases n <;> rfl
theorem frz_row {A : Arena} {id n : Nat} {l : List Str} (h : A[id]? = some (.row 1 false (strsA l))) (hn : n = l.length) (k : Nat) : frz A (k + 1) (.sl id 0 n) = .fs 1 (strsA l) ∧ freshB A (k + 1) (.sl id 0 n) = true := by
  subst hn
  have ht : (strsA l).take l.length = strsA l := List.take_of_length_le (by rw [strsA_len]; omega)
  constructor
  · simp only [frz, h, List.drop_zero, ht, frz_strs]
  · simp only [freshB, h, List.drop_zero, ht, fresh_strs]
theorem add_str {a b : Str} (h : a.length + b.length ≤ 9223372036854775807) : evBin .add (.str a) (.str b) = some (.str (a ++ b)) := by
  simp only [evBin, if_pos h]
/-- one string ahead of a list -/
theorem cons_list (x : Str) {l : List Str} (hl : l.length ≤ 1000) : evBuildSlice 1 [.str x] [] = some (.sl 0 0 1, [.row 1 false [.str x]]) ∧ evAppendN 1 16 [.row 1 false [.str x]] (.sl 0 0 1) (.fs 1 (strsA l)) = some (.sl 1 0 (l.length + 1), [.dead, .row 1 false (strsA (x :: l))]) := by
  refine ⟨rfl, ?_⟩
  have hb : (1 + l.length) * 16 ≤ 140737488355328 := by omega
  have e : strsA (x :: l) = .str x :: strsA l := rfl
  have e2 : 1 + l.length = l.length + 1 := by omega
  rw [e]
  simp [evAppendN, srcElems, strsA_len, e2]
  omega
set_option maxRecDepth 100000 in
set_option maxHeartbeats 4000000 in
theorem M23_base {k n i : Nat} {s : Str} (hs : s.length ≤ 1000) {r : List Str} {pv : AV} (hp : SlA 1 (strsA r) pv) (h : n ≤ 1 ∨ r = []) : M23 (k + 1) [.int .i64 (n : Int), .int .i64 (i : Int), .str s, pv] = some (.tup [.fs 1 (strsA [0 :: s]), .str (leafT s)]) := by
  have lp := hp.slen
  have c0 : evBin .leq (.int .i64 (n : Int)) (.int .i64 1) = some (.bool (decide (n ≤ 1))) := by
    rw [bLe]; congr 2; exact decide_eq_decide.2 (by omega)
  have e0 := eq_nat r.length 0 .i64
  rw [show ((0 : Nat) : Int) = 0 from rfl] at e0
  have ad := add_str (a := [0]) (b := s) (by simp; omega)
  have bs : evBuildSlice 1 [.str ([0] ++ s)] [] = some (.sl 0 0 1, [.row 1 false (strsA [0 :: s])]) := rfl
  obtain ⟨z1, z2⟩ := frz_row (A := [.row 1 false (strsA [0 :: s])]) (id := 0) (l := [0 :: s]) (n := 1) rfl rfl 2
  have m := M26_eq (s := s) (by omega)
  have fs := frz_s
  have scs : ∀ s, scalarB 4 (.str s) = true := fun _ => rfl
  show evF _ _ _ _ _ = _
  rw [evF_run _ _ rfl]
  have fzt : ∀ (A : Arena) (x : AV) (y : Str), frz A 4 (.tup [x, .str y]) = .tup [frz A 3 x, .str y] := fun _ _ _ => rfl
  have frt : ∀ (A : Arena) (x : AV) (y : Str), freshB A 4 (.tup [x, .str y]) = freshB A 3 x := fun A x y => by simp [freshB]
  generalize strsA [0 :: s] = L at *
  generalize leafT s = LS at *
  generalize [0] ++ s = S0 at *
  by_cases h1 : n ≤ 1
  · rw [decide_eq_true h1] at c0
    generalize (n : Int) = N at *
    generalize (i : Int) = I0 at *
    generalize (r.length : Int) = RL at *
    simp [mf23, c0, ad, bs, fs, m, pack, frt, z2, fzt, z1, -evBin, -evLenSl, -evBuildSlice, -frz]
  · rw [decide_eq_false h1] at c0
    rw [decide_eq_true (by rcases h with h | h; exact absurd h h1; rw [h]; rfl)] at e0
    generalize (n : Int) = N at *
    generalize (i : Int) = I0 at *
    generalize (r.length : Int) = RL at *
    simp [mf23, c0, lp, e0, ad, bs, fs, m, pack, frt, z2, fzt, z1, -evBin, -evLenSl, -evBuildSlice, -frz]
set_option maxRecDepth 100000 in
set_option maxHeartbeats 4000000 in
theorem M23_eq : ∀ (r : List Str) (k n i : Nat) (s : Str) (pv : AV), r.length < k → 1 ≤ n → n < 9223372036854775808 → i < n → s.length ≤ 1000 → (∀ x ∈ r, x.length ≤ 1000) → r.length ≤ 900 → SlA 1 (strsA r.reverse) pv →
    M23 k [.int .i64 (n : Int), .int .i64 (i : Int), .str s, pv] = some (.tup [.fs 1 (strsA (wayL n i s r).1), .str (wayL n i s r).2])
  | [], k, n, i, s, pv, hk, h1, hn, hi, hs, hr, hrl, hp => by
    obtain ⟨k, rfl⟩ : ∃ j, k = j + 1 := ⟨k - 1, by omega⟩
    exact M23_base hs hp (.inr rfl)
  | x :: r, k, n, i, s, pv, hk, h1, hn, hi, hs, hr, hrl, hp => by
    obtain ⟨k, rfl⟩ : ∃ j, k = j + 1 := ⟨k - 1, by omega⟩
    unfold wayL
    by_cases hn1 : n ≤ 1
    · rw [if_pos hn1]
      exact M23_base hs hp (.inl hn1)
    · rw [if_neg hn1]
      simp only [List.length_cons] at hk hrl
      have hx := hr x (List.mem_cons_self ..)
      have hr' : ∀ z ∈ r, z.length ≤ 1000 := fun z hz => hr z (List.mem_cons_of_mem _ hz)
      obtain ⟨b1, b2, b3, _⟩ := leftT_bounds (n := n) (by omega) hn
      rw [List.reverse_cons] at hp
      have hfs := hp.fs (by simp)
      subst hfs
      have c0 : evBin .leq (.int .i64 (n : Int)) (.int .i64 1) = some (.bool false) := by rw [bLe]; simp; omega
      have lp := fs_len (l := r.reverse ++ [x])
      have hl : (r.reverse ++ [x]).length = r.length + 1 := by simp
      rw [hl] at lp
      have e0 := eq_nat (r.length + 1) 0 .i64
      rw [decide_eq_false (by omega), show ((0 : Nat) : Int) = 0 from rfl] at e0
      have q0 := sub_nat1 (a := r.length + 1) (b := 1) (by omega) (by omega)
      rw [show r.length + 1 - 1 = r.length by omega, show ((1 : Nat) : Int) = 1 from rfl] at q0
      have ix := fun A => SlA.strs (l := r.reverse ++ [x]) (a := .fs 1 (strsA (r.reverse ++ [x]))) (.inr rfl) (i := r.length) (s := x) (by simp) (A := A) .i64
      have sl := fun A => fs_to (l := r.reverse ++ [x]) (k := r.length) A (by simp)
      rw [List.take_left' (by simp)] at sl
      have m28 := M28_eq (n := n) (by omega) hn
      have ff : ∀ (A : Arena) (l : List AV), frz A 4 (.fs 1 l) = .fs 1 l := fun _ _ => rfl
      have fs := frz_s
      have fi := frz_i
      have sci : ∀ k s, scalarB 4 (.int k s) = true := fun _ _ => rfl
      have scs : ∀ s, scalarB 4 (.str s) = true := fun _ => rfl
      have fzt : ∀ (A : Arena) (x : AV) (y : Str), frz A 4 (.tup [x, .str y]) = .tup [frz A 3 x, .str y] := fun _ _ _ => rfl
      have frt : ∀ (A : Arena) (x : AV) (y : Str), freshB A 4 (.tup [x, .str y]) = freshB A 3 x := fun A x y => by simp [freshB]
      by_cases hlt : i < leftT n
      · rw [if_pos hlt]
        have ih := M23_eq r k (leftT n) i s (.fs 1 (strsA r.reverse)) (by omega) (by omega) (by omega) hlt hs hr' (by omega) (.inr rfl)
        have c1 := Dlt_nat i (leftT n) .i64
        rw [decide_eq_true hlt] at c1
        have hv := wayL_len2 r (leftT n) i s
        have hll := wayL_len1 r (leftT n) i s
        generalize (wayL (leftT n) i s r).2 = V at *
        generalize (wayL (leftT n) i s r).1 = L at *
        have a1 := add_str (a := [1]) (b := V) (by simp; omega)
        have a2 := add_str (a := [1] ++ V) (b := x) (by simp; omega)
        rw [List.append_assoc] at a2
        obtain ⟨bs, ap⟩ := cons_list ([1] ++ (V ++ x)) (l := L) (by omega)
        obtain ⟨z1, z2⟩ := frz_row (A := [.dead, .row 1 false (strsA (([1] ++ (V ++ x)) :: L))]) (id := 1) (l := ([1] ++ (V ++ x)) :: L) (n := L.length + 1) rfl (by simp) 2
        have m29 := M29_eq (a := V) (b := x) (by omega) (by omega)
        change _ = some (AV.tup [.fs 1 (strsA (([1] ++ (V ++ x)) :: L)), .str (nodeT V x)])
        show evF _ _ _ _ _ = _
        rw [evF_run _ _ rfl]
        generalize strsA (([1] ++ (V ++ x)) :: L) = L2 at *
        generalize [1] ++ (V ++ x) = H1 at *
        generalize [1] ++ V = H0 at *
        generalize strsA (r.reverse ++ [x]) = PX at *
        generalize strsA r.reverse = PR at *
        generalize strsA L = LL at *
        generalize nodeT V x = NV at *
        generalize L.length + 1 = LN at *
        generalize (leftT n : Int) = K at *
        generalize (n : Int) = N at *
        generalize (i : Int) = I0 at *
        generalize ((r.length + 1 : Nat) : Int) = R1 at *
        generalize (r.length : Int) = R0 at *
        simp [mf23, c0, lp, e0, q0, ix, load_fp1, sl, m28, fi, c1, ff, fs, ih, a1, a2, bs, ap, m29, pack, frt, z2, fzt, z1, -evBin, -evLenSl, -evBuildSlice, -evIndexSl, -evLoad, -evSliceSl, -frz]
      · rw [if_neg hlt]
        have ih := M23_eq r k (n - leftT n) (i - leftT n) s (.fs 1 (strsA r.reverse)) (by omega) (by omega) (by omega) (by omega) hs hr' (by omega) (.inr rfl)
        have c1 := Dlt_nat i (leftT n) .i64
        rw [decide_eq_false hlt] at c1
        have q1 : evBin .sub (.int .i64 (n : Int)) (.int .i64 (leftT n : Int)) = some (.int .i64 ((n - leftT n : Nat) : Int)) := by
          rw [bSub _ _ (by unfold inI; omega)]; congr 2; omega
        have q2 : evBin .sub (.int .i64 (i : Int)) (.int .i64 (leftT n : Int)) = some (.int .i64 ((i - leftT n : Nat) : Int)) := by
          rw [bSub _ _ (by unfold inI; omega)]; congr 2; omega
        have hv := wayL_len2 r (n - leftT n) (i - leftT n) s
        have hll := wayL_len1 r (n - leftT n) (i - leftT n) s
        generalize (wayL (n - leftT n) (i - leftT n) s r).2 = V at *
        generalize (wayL (n - leftT n) (i - leftT n) s r).1 = L at *
        have a1 := add_str (a := [1]) (b := x) (by simp; omega)
        have a2 := add_str (a := [1] ++ x) (b := V) (by simp; omega)
        rw [List.append_assoc] at a2
        obtain ⟨bs, ap⟩ := cons_list ([1] ++ (x ++ V)) (l := L) (by omega)
        obtain ⟨z1, z2⟩ := frz_row (A := [.dead, .row 1 false (strsA (([1] ++ (x ++ V)) :: L))]) (id := 1) (l := ([1] ++ (x ++ V)) :: L) (n := L.length + 1) rfl (by simp) 2
        have m29 := M29_eq (a := x) (b := V) (by omega) (by omega)
        change _ = some (AV.tup [.fs 1 (strsA (([1] ++ (x ++ V)) :: L)), .str (nodeT x V)])
        show evF _ _ _ _ _ = _
        rw [evF_run _ _ rfl]
        generalize strsA (([1] ++ (x ++ V)) :: L) = L2 at *
        generalize [1] ++ (x ++ V) = H1 at *
        generalize [1] ++ x = H0 at *
        generalize strsA (r.reverse ++ [x]) = PX at *
        generalize strsA r.reverse = PR at *
        generalize strsA L = LL at *
        generalize nodeT x V = NV at *
        generalize L.length + 1 = LN at *
        generalize ((n - leftT n : Nat) : Int) = NK at *
        generalize ((i - leftT n : Nat) : Int) = IK at *
        generalize (leftT n : Int) = K at *
        generalize (n : Int) = N at *
        generalize (i : Int) = I0 at *
        generalize ((r.length + 1 : Nat) : Int) = R1 at *
        generalize (r.length : Int) = R0 at *
        simp [mf23, c0, lp, e0, q0, q1, q2, ix, load_fp1, sl, m28, fi, c1, ff, fs, ih, a1, a2, bs, ap, m29, pack, frt, z2, fzt, z1, -evBin, -evLenSl, -evBuildSlice, -evIndexSl, -evLoad, -evSliceSl, -frz]

/-! ### collide -/
noncomputable def fs24 : List (FuncId × HModel) := [(27, pureH 4 M27)]
@[simp] theorem fs24_27 : lookM fs24 27 = some (pureH 4 M27) := rfl
theorem sound24 : ∀ f M, lookM fs24 f = some M → FnSpecY Tryd.prog GD f M := lookM_cons (FnSpecY.of_pure spec27 4) lookM_nil
set_option maxRecDepth 100000 in
set_option maxHeartbeats 4000000 in
theorem loop24 {l k : List Str} {a b : AV} (ha : SlA 1 (strsA l) a) (hb : SlA 1 (strsA k) b) (hl : l.length ≤ 1000) (hsl : ∀ x ∈ l, x.length ≤ 5000) (hsk : ∀ x ∈ k, x.length ≤ 5000) : ∀ (r q : List Str) (i m : Nat), i ≤ l.length → i ≤ k.length → l.drop i = r → k.drop i = q → r.length < m →
    ∃ σ v3 d, iter (evC (envOf GD fs24) 100 lp24x0) mask24x0 m (st24x0 a b (.int .i64 (i : Int))) [] = some (if collT r q then .ret σ [] else .exit 0 ((st24x0 a b v3).set 4 d) []) ∧ (collT r q = true → σ[2]? = some (.bool true)) := by
  have la := ha.slen
  have lb := hb.slen
  intro r
  induction r with
  | nil =>
    intro q i m hil hik hr hq hm
    obtain ⟨m, rfl⟩ : ∃ k, m = k + 1 := ⟨m - 1, by omega⟩
    have : l.length ≤ i := List.drop_eq_nil_iff.1 hr
    obtain rfl : i = l.length := by omega
    refine ⟨[], .int .i64 (l.length : Int), .bool false, ?_, fun h => by simp [collT] at h⟩
    have c0 := Dlt_nat l.length l.length .i64
    rw [decide_eq_false (by omega)] at c0
    rw [iter_succ, cl24x0, if_neg (by simp [collT])]
    generalize (l.length : Int) = N at *
    simp [lp24x0, la, c0, -evBin, -evLenSl]
  | cons s r ih =>
    intro q i m hil hik hr hq hm
    obtain ⟨m, rfl⟩ : ∃ k, m = k + 1 := ⟨m - 1, by omega⟩
    obtain ⟨h1, h2, h3⟩ := drop_cons hr
    have c0 := Dlt_nat i l.length .i64
    rw [decide_eq_true h3] at c0
    cases q with
    | nil =>
      have : k.length ≤ i := List.drop_eq_nil_iff.1 hq
      obtain rfl : i = k.length := by omega
      have c1 := Dlt_nat k.length k.length .i64
      rw [decide_eq_false (by omega)] at c1
      refine ⟨[], .int .i64 (k.length : Int), .bool false, ?_, fun h => by simp [collT] at h⟩
      rw [iter_succ, cl24x0, if_neg (by simp [collT])]
      generalize (k.length : Int) = N2 at *
      generalize (l.length : Int) = N at *
      simp [lp24x0, la, lb, c0, c1, -evBin, -evLenSl]
    | cons t q =>
      obtain ⟨g1, g2, g3⟩ := drop_cons hq
      have c1 := Dlt_nat i k.length .i64
      rw [decide_eq_true g3] at c1
      have ix := fun A => ha.strs h1 (A := A) .i64
      have iy := fun A => hb.strs g1 (A := A) .i64
      have e0 := ne_str s t
      have m1 := M27_eq (hsl s (List.mem_of_getElem? h1))
      have m2 := M27_eq (hsk t (List.mem_of_getElem? g1))
      have e1 := eq_str (sumT s) (sumT t)
      have p0 := Dadd_nat i 1 (by omega)
      rw [show ((1 : Nat) : Int) = 1 from rfl] at p0
      have fs := frz_s
      have scs : ∀ s, scalarB 4 (.str s) = true := fun _ => rfl
      by_cases hc : s ≠ t ∧ sumT s = sumT t
      · have hcol : collT (s :: r) (t :: q) = true := by simp [collT, hc.1, hc.2]
        rw [decide_eq_false hc.1] at e0
        rw [decide_eq_true hc.2] at e1
        refine ⟨[a, b, .bool true, .int .i64 (i : Int), .bool true, .bool true], .undef, .undef, ?_, fun _ => rfl⟩
        rw [iter_succ, cl24x0, if_pos hcol]
        generalize (k.length : Int) = N2 at *
        generalize (l.length : Int) = N at *
        generalize (i : Int) = I0 at *
        generalize sumT s = S1 at *
        generalize sumT t = S2 at *
        simp [lp24x0, la, lb, c0, c1, ix, iy, load_fp1, e0, m1, m2, e1, fs, -evBin, -evLenSl, -evIndexSl, -evLoad, -frz]
      · obtain ⟨σ, v3, d, i1, i2⟩ := ih q (i + 1) m (by omega) (by omega) h2 g2 (by simpa using hm)
        have hcol : collT (s :: r) (t :: q) = collT r q := by
          unfold collT
          by_cases hst : s = t
          · cases r <;> cases q <;> simp [hst, collT]
          · have : sumT s ≠ sumT t := fun h => hc ⟨hst, h⟩
            cases r <;> cases q <;> simp [this, collT]
        have hr : run (envOf GD fs24) 100 [.code lp24x0] (st24x0 a b (.int .i64 (i : Int))) [] = some (.normal (st24x0 a b (.int .i64 ((i + 1 : Nat) : Int))) []) := by
          by_cases hst : s = t
          · rw [decide_eq_true hst] at e0
            generalize ((i + 1 : Nat) : Int) = I1 at *
            generalize (k.length : Int) = N2 at *
            generalize (l.length : Int) = N at *
            generalize (i : Int) = I0 at *
            simp [lp24x0, la, lb, c0, c1, ix, iy, load_fp1, e0, p0, -evBin, -evLenSl, -evIndexSl, -evLoad, -frz]
          · rw [decide_eq_false hst] at e0
            rw [decide_eq_false (fun h => hc ⟨hst, h⟩)] at e1
            generalize ((i + 1 : Nat) : Int) = I1 at *
            generalize (k.length : Int) = N2 at *
            generalize (l.length : Int) = N at *
            generalize (i : Int) = I0 at *
            generalize sumT s = S1 at *
            generalize sumT t = S2 at *
            simp [lp24x0, la, lb, c0, c1, ix, iy, load_fp1, e0, m1, m2, e1, fs, p0, -evBin, -evLenSl, -evIndexSl, -evLoad, -frz]
        refine ⟨σ, v3, d, ?_, by rw [hcol]; exact i2⟩
        rw [iter_succ, cl24x0, hr, hcol]
        exact i1
noncomputable def M24 : PModel := fun args => evP (envOf GD fs24) 100 mf24 1 args
theorem spec24 : PureSpec Tryd.prog GD 24 M24 := PureSpec.of_ev (E := envOf GD fs24) (envOf_sound sound24) rfl at24 comp24 1 fun _ _ h => ⟨100, h⟩
theorem M24_eq {l k : List Str} {a b : AV} (ha : SlA 1 (strsA l) a) (hb : SlA 1 (strsA k) b) (hl : l.length ≤ 90) (hsl : ∀ x ∈ l, x.length ≤ 5000) (hsk : ∀ x ∈ k, x.length ≤ 5000) : M24 [a, b] = some (.bool (collT l k)) := by
  obtain ⟨σ, v3, d, lp, hσ⟩ := loop24 ha hb (by omega) hsl hsk l k 0 100 (by omega) (by omega) rfl rfl (by omega)
  rw [show ((0 : Nat) : Int) = 0 from rfl] at lp
  have fb := frz_b
  unfold M24
  rw [evP_run _ _ rfl]
  cases hc : collT l k with
  | true =>
    rw [hc, if_pos rfl] at lp
    have hσ := hσ hc
    simp [mf24, go24x0 lp, hσ, fb, -frz]
  | false =>
    rw [hc, if_neg (by simp)] at lp
    simp [mf24, go24x0 lp, fb, -frz]

/-! ### Binding -/
noncomputable def fs6 : List (FuncId × HModel) := [(11, pureH 4 M11), (12, pureFH 4 M12), (21, pureH 4 M21), (23, pureFH 4 (M23 100)), (24, pureH 4 M24)]
@[simp] theorem fs6_11 : lookM fs6 11 = some (pureH 4 M11) := rfl
@[simp] theorem fs6_12 : lookM fs6 12 = some (pureFH 4 M12) := rfl
@[simp] theorem fs6_21 : lookM fs6 21 = some (pureH 4 M21) := rfl
@[simp] theorem fs6_23 : lookM fs6 23 = some (pureFH 4 (M23 100)) := rfl
@[simp] theorem fs6_24 : lookM fs6 24 = some (pureH 4 M24) := rfl
theorem sound6 : ∀ f M, lookM fs6 f = some M → FnSpecY Tryd.prog GD f M :=
  lookM_cons (FnSpecY.of_pure spec11 4) (lookM_cons (FnSpecY.of_pureF spec12 4) (lookM_cons (FnSpecY.of_pure spec21 4) (lookM_cons (FnSpecY.of_pureF (spec23 100) 4) (lookM_cons (FnSpecY.of_pure spec24 4) lookM_nil))))
set_option maxRecDepth 100000 in
set_option maxHeartbeats 4000000 in
theorem ev6 (root : Str) {n i : Int} (hn : n < 9223372036854775808) (s0 t0 : Str) {p0 q0 : List Str} {pv0 qv0 : AV} (hp0 : SlA 1 (strsA p0) pv0) (hq0 : SlA 1 (strsA q0) qv0) :
    evP (envOf GD fs6) 100 mf6 1 [.str root, .int .i64 n, .int .i64 i, .str s0, pv0, .str t0, qv0] = some (.bool true) := by
  obtain ⟨pv, m12p, hp⟩ := M12_eq hp0 (n := 70) (by omega)
  obtain ⟨qv, m12q, hq⟩ := M12_eq hq0 (n := 70) (by omega)
  have hpl := fewT_len p0 70
  have hql := fewT_len q0 70
  have hpm : ∀ x ∈ fewT p0 70, x.length ≤ 60 := fun x h => fewT_mem h
  have hqm : ∀ x ∈ fewT q0 70, x.length ≤ 60 := fun x h => fewT_mem h
  generalize fewT p0 70 = p at *
  generalize fewT q0 70 = q at *
  have hs60 := cut60_len s0
  have ht60 := cut60_len t0
  have ls := lenS s0
  have lt := lenS t0
  have mns := min60 s0
  have mnt := min60 t0
  have ss := cutS60 s0
  have st := cutS60 t0
  generalize cut60 s0 = s at *
  generalize cut60 t0 = t at *
  have m11 := M11_eq
  have m1 := M21_eq root (n := n) (i := i) hn (s := s) (by omega) hp (by omega)
  have m2 := M21_eq root (n := n) (i := i) hn (s := t) (by omega) hq (by omega)
  have e0 := eq_str s t
  have f0p := fun A n => hp0.frz (A := A) n
  have f0q := fun A n => hq0.frz (A := A) n
  have fp := fun A n => hp.frz (A := A) n
  have fq := fun A n => hq.frz (A := A) n
  have fs := frz_s
  have fi := frz_i
  have fb := frz_b
  have scb : ∀ s, scalarB 4 (.bool s) = true := fun _ => rfl
  have ff : ∀ (A : Arena) (l : List AV), frz A 4 (.fs 1 l) = .fs 1 l := fun _ _ => rfl
  rw [show ((70 : Nat) : Int) = 70 from rfl] at m12p m12q
  rw [evP_run _ _ rfl]
  generalize ((min s0.length 60 : Nat) : Int) = MS at *
  generalize (s0.length : Int) = SL at *
  generalize ((min t0.length 60 : Nat) : Int) = MT at *
  generalize (t0.length : Int) = TL at *
  by_cases hv : (verifyT root n i s p = true ∧ verifyT root n i t q = true) ∧ s ≠ t
  · obtain ⟨⟨v1, v2⟩, hst⟩ := hv
    obtain ⟨hni, hcol⟩ := binding v1 v2 hst
    obtain ⟨N, rfl⟩ : ∃ N : Nat, n = N := ⟨n.toNat, by omega⟩
    obtain ⟨I, rfl⟩ : ∃ I : Nat, i = I := ⟨i.toNat, by omega⟩
    simp only [Int.toNat_natCast] at hcol
    have w1 := M23_eq p.reverse 100 N I s pv (by simp; omega) (by omega) (by omega) (by omega) (by omega) (fun x hx => by have := hpm x (List.mem_reverse.1 hx); omega) (by simp; omega) (by rw [List.reverse_reverse]; exact hp)
    have w2 := M23_eq q.reverse 100 N I t qv (by simp; omega) (by omega) (by omega) (by omega) (by omega) (fun x hx => by have := hqm x (List.mem_reverse.1 hx); omega) (by simp; omega) (by rw [List.reverse_reverse]; exact hq)
    have m24 := M24_eq (l := (wayL N I s p.reverse).1) (k := (wayL N I t q.reverse).1) (.inr rfl) (.inr rfl) (by have := (wayL_len1 p.reverse N I s).2; simp at this; omega)
      (fun x hx => by have := wayL_mem p.reverse N I s 60 hs60 (fun y hy => hpm y (List.mem_reverse.1 hy)) x hx; omega) (fun x hx => by have := wayL_mem q.reverse N I t 60 ht60 (fun y hy => hqm y (List.mem_reverse.1 hy)) x hx; omega)
    rw [hcol] at m24
    rw [v1] at m1
    rw [v2] at m2
    rw [decide_eq_false hst] at e0
    generalize strsA (wayL N I s p.reverse).1 = L1 at *
    generalize (wayL N I s p.reverse).2 = V1 at *
    generalize strsA (wayL N I t q.reverse).1 = L2 at *
    generalize (wayL N I t q.reverse).2 = V2 at *
    generalize (N : Int) = N0 at *
    generalize (I : Int) = I0 at *
    simp [mf6, m11, m12p, m12q, f0p, f0q, fp, fq, fs, fi, fb, ff, ls, lt, mns, mnt, ss, st, m1, m2, e0, w1, w2, m24, -evBin, -evLenStr, -evMinL, -evSliceStr, -frz]
  · by_cases v1 : verifyT root n i s p = true
    · by_cases v2 : verifyT root n i t q = true
      · have hst : s = t := Classical.byContradiction fun h => hv ⟨⟨v1, v2⟩, h⟩
        rw [decide_eq_true hst] at e0
        rw [v1] at m1
        rw [v2] at m2
        simp [mf6, m11, m12p, m12q, f0p, f0q, fp, fq, fs, fi, fb, ls, lt, mns, mnt, ss, st, m1, m2, e0, -evBin, -evLenStr, -evMinL, -evSliceStr, -frz]
      · rw [v1] at m1
        rw [Bool.eq_false_iff.2 v2] at m2
        simp [mf6, m11, m12p, m12q, f0p, f0q, fp, fq, fs, fi, fb, ls, lt, mns, mnt, ss, st, m1, m2, -evBin, -evLenStr, -evMinL, -evSliceStr, -frz]
    · rw [Bool.eq_false_iff.2 v1] at m1
      simp [mf6, m11, m12p, m12q, f0p, f0q, fp, fq, fs, fi, fb, ls, lt, mns, mnt, ss, st, m1, m2, -evBin, -evLenStr, -evMinL, -evSliceStr, -frz]
theorem ev6L (args : List AV) (h : LawArgs Tryd.prog 8 Tryd.f6.params.toList args) : ∃ fuel, evP (envOf GD fs6) fuel mf6 1 args = some (.bool true) := by
  rw [Tryd.params6] at h
  obtain ⟨a, r, rfl, h0, h⟩ := h.cons
  obtain ⟨b, r, rfl, h1, h⟩ := h.cons
  obtain ⟨c, r, rfl, h2, h⟩ := h.cons
  obtain ⟨d, r, rfl, h3, h⟩ := h.cons
  obtain ⟨e, r, rfl, h4, h⟩ := h.cons
  obtain ⟨f, r, rfl, h5, h⟩ := h.cons
  obtain ⟨g, r, rfl, h6, h⟩ := h.cons
  obtain rfl := h.nil
  obtain ⟨root, rfl⟩ := arg_str h0
  obtain ⟨n, rfl, hn⟩ := arg_int h1
  obtain ⟨i, rfl, hi⟩ := arg_int h2
  obtain ⟨s, rfl⟩ := arg_str h3
  obtain ⟨p, hp⟩ := arg_strs h4
  obtain ⟨t, rfl⟩ := arg_str h5
  obtain ⟨q, hq⟩ := arg_strs h6
  exact ⟨100, ev6 root (by unfold inI at hn; omega) s t hp hq⟩
end Go.Proofs.YtgbnngmpaefbcaaDoor
/-
  Digest: sides (25); ExtensionBinding (7).
-/
namespace Go.Proofs.YtgbnngmpaefbcaaDoor
open Go

noncomputable def fs25 (M : PModel) : List (FuncId × HModel) := [(25, pureFH 4 M), (28, pureH 4 M28), (29, pureH 4 M29)]
@[simp] theorem fs25_25 (M : PModel) : lookM (fs25 M) 25 = some (pureFH 4 M) := rfl
@[simp] theorem fs25_28 (M : PModel) : lookM (fs25 M) 28 = some (pureH 4 M28) := rfl
@[simp] theorem fs25_29 (M : PModel) : lookM (fs25 M) 29 = some (pureH 4 M29) := rfl
theorem sound25 {M : PModel} (h : PureSpecF Tryd.prog GD 25 M) : ∀ f N, lookM (fs25 M) f = some N → FnSpecY Tryd.prog GD f N :=
  lookM_cons (FnSpecY.of_pureF h 4) (lookM_cons (FnSpecY.of_pure spec28 4) (lookM_cons (FnSpecY.of_pure spec29 4) lookM_nil))
noncomputable def M25 : Nat → PModel
  | 0 => fun _ => none
  | k + 1 => fun args => evF (envOf GD (fs25 (M25 k))) 100 mf25 4 args
theorem spec25 : ∀ k, PureSpecF Tryd.prog GD 25 (M25 k)
  | 0 => ⟨fun args w => enters_of Tryd.func25 (by kernel_rfl) rfl args w, fun args r h => by cases h⟩
  | k + 1 => PureSpecF.of_ev (E := envOf GD (fs25 (M25 k))) (envOf_sound (sound25 (spec25 k))) rfl at25 comp25 4 fun _ _ h => ⟨100, h⟩
theorem cons_listS (x : Str) {l : List Str} {a : AV} (ha : SlA 1 (strsA l) a) (hl : l.length ≤ 1000) : evBuildSlice 1 [.str x] [] = some (.sl 0 0 1, [.row 1 false [.str x]]) ∧ evAppendN 1 16 [.row 1 false [.str x]] (.sl 0 0 1) a = some (.sl 1 0 (l.length + 1), [.dead, .row 1 false (strsA (x :: l))]) := by
  refine ⟨rfl, ?_⟩
  have hb : (1 + l.length) * 16 ≤ 140737488355328 := by omega
  have e : strsA (x :: l) = .str x :: strsA l := rfl
  have e2 : 1 + l.length = l.length + 1 := by omega
  rw [e]
  simp [evAppendN, ha.src, strsA_len, e2]
  omega
theorem fztN (A : Arena) (y : Str) : frz A 4 (.tup [.nilS, .str y]) = .tup [.nilS, .str y] := rfl
theorem frtN (A : Arena) (y : Str) : freshB A 4 (.tup [.nilS, .str y]) = true := by simp [freshB]
theorem head_rev (x : Str) (r : List Str) : (r.reverse ++ [x])[0]? = some ((x :: r).getLastD []) := by
  rw [← List.reverse_cons, ← List.head?_eq_getElem?, List.head?_reverse]
  simp [List.getLast?_cons]
set_option maxRecDepth 100000 in
set_option maxHeartbeats 4000000 in
theorem M25_nil {k m n : Nat} {old : Str} {wh : Bool} {pv : AV} (hp : SlA 1 (strsA []) pv) : M25 (k + 1) [.str old, .int .i64 (m : Int), .int .i64 (n : Int), pv, .bool wh] = some (.tup [.nilS, .str old]) := by
  have lp := hp.slen
  rw [show (([] : List Str).length : Int) = 0 from rfl] at lp
  have c0 : evBin .geq (.int .i64 (m : Int)) (.int .i64 (n : Int)) = some (.bool (decide (n ≤ m))) := by
    rw [bGe]; congr 2; exact decide_eq_decide.2 (by omega)
  have e0 : evBin .eql (.int .i64 0) (.int .i64 0) = some (.bool true) := rfl
  have f1 := fztN
  have f2 := frtN
  show evF _ _ _ _ _ = _
  rw [evF_run _ _ rfl]
  generalize decide (n ≤ m) = b0 at *
  generalize (n : Int) = N at *
  generalize (m : Int) = M at *
  cases b0 <;> cases wh <;> simp [mf25, c0, lp, e0, pack, f1, f2, -evBin, -evLenSl, -frz]
set_option maxRecDepth 100000 in
set_option maxHeartbeats 4000000 in
theorem M25_end {k m n : Nat} {old : Str} {wh : Bool} {x : Str} {r : List Str} (hrl : r.length ≤ 900) (h : n ≤ m) : M25 (k + 1) [.str old, .int .i64 (m : Int), .int .i64 (n : Int), .fs 1 (strsA (r.reverse ++ [x])), .bool wh] = some (.tup [.nilS, .str (if wh then old else (x :: r).getLastD [])]) := by
  have lp := fs_len (l := r.reverse ++ [x])
  have hl : (r.reverse ++ [x]).length = r.length + 1 := by simp
  rw [hl] at lp
  have e0 := eq_nat (r.length + 1) 0 .i64
  rw [decide_eq_false (by omega), show ((0 : Nat) : Int) = 0 from rfl] at e0
  have c0 : evBin .geq (.int .i64 (m : Int)) (.int .i64 (n : Int)) = some (.bool true) := by rw [bGe]; simp; omega
  have ix := fun A => SlA.strs (l := r.reverse ++ [x]) (a := .fs 1 (strsA (r.reverse ++ [x]))) (.inr rfl) (i := 0) (head_rev x r) (A := A) .i64
  rw [show ((0 : Nat) : Int) = 0 from rfl] at ix
  have f1 := fztN
  have f2 := frtN
  show evF _ _ _ _ _ = _
  rw [evF_run _ _ rfl]
  generalize (x :: r).getLastD [] = LA at *
  generalize strsA (r.reverse ++ [x]) = PX at *
  generalize ((r.length + 1 : Nat) : Int) = R1 at *
  generalize (n : Int) = N at *
  generalize (m : Int) = M at *
  cases wh <;> simp [mf25, c0, lp, e0, ix, load_fp1, pack, f1, f2, -evBin, -evLenSl, -evIndexSl, -evLoad, -frz]
set_option maxRecDepth 100000 in
set_option maxHeartbeats 4000000 in
theorem M25_eq : ∀ (r : List Str) (k m n : Nat) (old : Str) (wh : Bool) (pv : AV), r.length < k → 1 ≤ m → m ≤ n → n < 9223372036854775808 → old.length = 32 → (∀ x ∈ r, x.length = 32) → r.length ≤ 900 → SlA 1 (strsA r.reverse) pv →
    ∃ a, M25 k [.str old, .int .i64 (m : Int), .int .i64 (n : Int), pv, .bool wh] = some (.tup [a, .str (sideL m n old wh r).2]) ∧ SlA 1 (strsA (sideL m n old wh r).1) a
  | [], k, m, n, old, wh, pv, hk, h1, hmn, hn, ho, hr, hrl, hp => by
    obtain ⟨k, rfl⟩ : ∃ j, k = j + 1 := ⟨k - 1, by omega⟩
    exact ⟨.nilS, M25_nil hp, .inl ⟨rfl, rfl⟩⟩
  | x :: r, k, m, n, old, wh, pv, hk, h1, hmn, hn, ho, hr, hrl, hp => by
    obtain ⟨k, rfl⟩ : ∃ j, k = j + 1 := ⟨k - 1, by omega⟩
    simp only [List.length_cons] at hk hrl
    rw [List.reverse_cons] at hp
    have hfs := hp.fs (by simp)
    subst hfs
    unfold sideL
    by_cases hn1 : n ≤ m
    · rw [if_pos hn1]
      exact ⟨.nilS, M25_end (by omega) hn1, .inl ⟨rfl, rfl⟩⟩
    · rw [if_neg hn1]
      have hx := hr x (List.mem_cons_self ..)
      have hr' : ∀ z ∈ r, z.length = 32 := fun z hz => hr z (List.mem_cons_of_mem _ hz)
      obtain ⟨b1, b2, b3, _⟩ := leftT_bounds (n := n) (by omega) hn
      have c0 : evBin .geq (.int .i64 (m : Int)) (.int .i64 (n : Int)) = some (.bool false) := by rw [bGe]; simp; omega
      have lp := fs_len (l := r.reverse ++ [x])
      have hl : (r.reverse ++ [x]).length = r.length + 1 := by simp
      rw [hl] at lp
      have e0 := eq_nat (r.length + 1) 0 .i64
      rw [decide_eq_false (by omega), show ((0 : Nat) : Int) = 0 from rfl] at e0
      have q0 := sub_nat1 (a := r.length + 1) (b := 1) (by omega) (by omega)
      rw [show r.length + 1 - 1 = r.length by omega, show ((1 : Nat) : Int) = 1 from rfl] at q0
      have ix := fun A => SlA.strs (l := r.reverse ++ [x]) (a := .fs 1 (strsA (r.reverse ++ [x]))) (.inr rfl) (i := r.length) (s := x) (by simp) (A := A) .i64
      have sl := fun A => fs_to (l := r.reverse ++ [x]) (k := r.length) A (by simp)
      rw [List.take_left' (by simp)] at sl
      have m28 := M28_eq (n := n) (by omega) hn
      have ff : ∀ (A : Arena) (l : List AV), frz A 4 (.fs 1 l) = .fs 1 l := fun _ _ => rfl
      have fs := frz_s
      have fi := frz_i
      have fb := frz_b
      have sci : ∀ k s, scalarB 4 (.int k s) = true := fun _ _ => rfl
      have scs : ∀ s, scalarB 4 (.str s) = true := fun _ => rfl
      have fzt : ∀ (A : Arena) (x : AV) (y : Str), frz A 4 (.tup [x, .str y]) = .tup [frz A 3 x, .str y] := fun _ _ _ => rfl
      have frt : ∀ (A : Arena) (x : AV) (y : Str), freshB A 4 (.tup [x, .str y]) = freshB A 3 x := fun A x y => by simp [freshB]
      by_cases hlt : m ≤ leftT n
      · rw [if_pos hlt]
        obtain ⟨a, ih, ha⟩ := M25_eq r k m (leftT n) old wh (.fs 1 (strsA r.reverse)) (by omega) h1 hlt (by omega) ho hr' (by omega) (.inr rfl)
        have c1 : evBin .leq (.int .i64 (m : Int)) (.int .i64 (leftT n : Int)) = some (.bool true) := by rw [bLe]; simp; omega
        have hv := sideL_len2 r m (leftT n) old wh ho hr'
        have hll := sideL_len1 r m (leftT n) old wh
        generalize (sideL m (leftT n) old wh r).2 = V at *
        generalize (sideL m (leftT n) old wh r).1 = L at *
        have a1 := add_str (a := [1]) (b := V) (by simp; omega)
        have a2 := add_str (a := [1] ++ V) (b := x) (by simp; omega)
        rw [List.append_assoc] at a2
        obtain ⟨bs, ap⟩ := cons_listS ([1] ++ (V ++ x)) ha (by omega)
        obtain ⟨z1, z2⟩ := frz_row (A := [.dead, .row 1 false (strsA (([1] ++ (V ++ x)) :: L))]) (id := 1) (l := ([1] ++ (V ++ x)) :: L) (n := L.length + 1) rfl (by simp) 2
        have m29 := M29_eq (a := V) (b := x) (by omega) (by omega)
        refine ⟨.fs 1 (strsA (([1] ++ (V ++ x)) :: L)), ?_, .inr rfl⟩
        show evF _ _ _ _ _ = _
        rw [evF_run _ _ rfl]
        generalize strsA (([1] ++ (V ++ x)) :: L) = L2 at *
        generalize [1] ++ (V ++ x) = H1 at *
        generalize [1] ++ V = H0 at *
        generalize strsA (r.reverse ++ [x]) = PX at *
        generalize strsA r.reverse = PR at *
        generalize nodeT V x = NV at *
        generalize L.length + 1 = LN at *
        generalize (leftT n : Int) = K at *
        generalize (n : Int) = N at *
        generalize (m : Int) = M at *
        generalize ((r.length + 1 : Nat) : Int) = R1 at *
        generalize (r.length : Int) = R0 at *
        simp [mf25, c0, lp, e0, q0, ix, load_fp1, sl, m28, fi, fb, c1, ff, fs, ih, a1, a2, bs, ap, m29, pack, frt, z2, fzt, z1, -evBin, -evLenSl, -evBuildSlice, -evIndexSl, -evLoad, -evSliceSl, -frz]
      · rw [if_neg hlt]
        obtain ⟨a, ih, ha⟩ := M25_eq r k (m - leftT n) (n - leftT n) old false (.fs 1 (strsA r.reverse)) (by omega) (by omega) (by omega) (by omega) ho hr' (by omega) (.inr rfl)
        have c1 : evBin .leq (.int .i64 (m : Int)) (.int .i64 (leftT n : Int)) = some (.bool false) := by rw [bLe]; simp; omega
        have q1 : evBin .sub (.int .i64 (n : Int)) (.int .i64 (leftT n : Int)) = some (.int .i64 ((n - leftT n : Nat) : Int)) := by
          rw [bSub _ _ (by unfold inI; omega)]; congr 2; omega
        have q2 : evBin .sub (.int .i64 (m : Int)) (.int .i64 (leftT n : Int)) = some (.int .i64 ((m - leftT n : Nat) : Int)) := by
          rw [bSub _ _ (by unfold inI; omega)]; congr 2; omega
        have hv := sideL_len2 r (m - leftT n) (n - leftT n) old false ho hr'
        have hll := sideL_len1 r (m - leftT n) (n - leftT n) old false
        generalize (sideL (m - leftT n) (n - leftT n) old false r).2 = V at *
        generalize (sideL (m - leftT n) (n - leftT n) old false r).1 = L at *
        have a1 := add_str (a := [1]) (b := x) (by simp; omega)
        have a2 := add_str (a := [1] ++ x) (b := V) (by simp; omega)
        rw [List.append_assoc] at a2
        obtain ⟨bs, ap⟩ := cons_listS ([1] ++ (x ++ V)) ha (by omega)
        obtain ⟨z1, z2⟩ := frz_row (A := [.dead, .row 1 false (strsA (([1] ++ (x ++ V)) :: L))]) (id := 1) (l := ([1] ++ (x ++ V)) :: L) (n := L.length + 1) rfl (by simp) 2
        have m29 := M29_eq (a := x) (b := V) (by omega) (by omega)
        refine ⟨.fs 1 (strsA (([1] ++ (x ++ V)) :: L)), ?_, .inr rfl⟩
        show evF _ _ _ _ _ = _
        rw [evF_run _ _ rfl]
        generalize strsA (([1] ++ (x ++ V)) :: L) = L2 at *
        generalize [1] ++ (x ++ V) = H1 at *
        generalize [1] ++ x = H0 at *
        generalize strsA (r.reverse ++ [x]) = PX at *
        generalize strsA r.reverse = PR at *
        generalize nodeT x V = NV at *
        generalize L.length + 1 = LN at *
        generalize ((n - leftT n : Nat) : Int) = NK at *
        generalize ((m - leftT n : Nat) : Int) = IK at *
        generalize (leftT n : Int) = K at *
        generalize (n : Int) = N at *
        generalize (m : Int) = M at *
        generalize ((r.length + 1 : Nat) : Int) = R1 at *
        generalize (r.length : Int) = R0 at *
        simp [mf25, c0, lp, e0, q0, q1, q2, ix, load_fp1, sl, m28, fi, fb, c1, ff, fs, ih, a1, a2, bs, ap, m29, pack, frt, z2, fzt, z1, -evBin, -evLenSl, -evBuildSlice, -evIndexSl, -evLoad, -evSliceSl, -frz]

noncomputable def fs7 : List (FuncId × HModel) := [(11, pureH 4 M11), (12, pureFH 4 M12), (22, pureH 4 M22), (25, pureFH 4 (M25 100)), (24, pureH 4 M24)]
@[simp] theorem fs7_11 : lookM fs7 11 = some (pureH 4 M11) := rfl
@[simp] theorem fs7_12 : lookM fs7 12 = some (pureFH 4 M12) := rfl
@[simp] theorem fs7_22 : lookM fs7 22 = some (pureH 4 M22) := rfl
@[simp] theorem fs7_25 : lookM fs7 25 = some (pureFH 4 (M25 100)) := rfl
@[simp] theorem fs7_24 : lookM fs7 24 = some (pureH 4 M24) := rfl
theorem sound7 : ∀ f M, lookM fs7 f = some M → FnSpecY Tryd.prog GD f M :=
  lookM_cons (FnSpecY.of_pure spec11 4) (lookM_cons (FnSpecY.of_pureF spec12 4) (lookM_cons (FnSpecY.of_pure spec22 4) (lookM_cons (FnSpecY.of_pureF (spec25 100) 4) (lookM_cons (FnSpecY.of_pure spec24 4) lookM_nil))))
set_option maxRecDepth 100000 in
set_option maxHeartbeats 4000000 in
theorem ev7 (a b root : Str) {m n : Int} (hn : n < 9223372036854775808) {p0 q0 : List Str} {pv0 qv0 : AV} (hp0 : SlA 1 (strsA p0) pv0) (hq0 : SlA 1 (strsA q0) qv0) :
    evP (envOf GD fs7) 100 mf7 1 [.str a, pv0, .str b, qv0, .int .i64 m, .str root, .int .i64 n] = some (.bool true) := by
  obtain ⟨pv, m12p, hp⟩ := M12_eq hp0 (n := 70) (by omega)
  obtain ⟨qv, m12q, hq⟩ := M12_eq hq0 (n := 70) (by omega)
  have hpl := fewT_len p0 70
  have hql := fewT_len q0 70
  generalize fewT p0 70 = p at *
  generalize fewT q0 70 = q at *
  have m11 := M11_eq
  have m1 := M22_eq a root (n := n) (m := m) hn hp (by omega)
  have m2 := M22_eq b root (n := n) (m := m) hn hq (by omega)
  have e0 := eq_str a b
  have f0p := fun A n => hp0.frz (A := A) n
  have f0q := fun A n => hq0.frz (A := A) n
  have fp := fun A n => hp.frz (A := A) n
  have fq := fun A n => hq.frz (A := A) n
  have fs := frz_s
  have fi := frz_i
  have fb := frz_b
  have scb : ∀ s, scalarB 4 (.bool s) = true := fun _ => rfl
  rw [show ((70 : Nat) : Int) = 70 from rfl] at m12p m12q
  rw [evP_run _ _ rfl]
  by_cases hv : (verifyX a m root n p = true ∧ verifyX b m root n q = true) ∧ a ≠ b
  · obtain ⟨⟨v1, v2⟩, hst⟩ := hv
    obtain ⟨hmn, hcol, ha, hb, hd, hd'⟩ := ext_binding v1 v2 hst
    obtain ⟨N, rfl⟩ : ∃ N : Nat, n = N := ⟨n.toNat, by omega⟩
    obtain ⟨I, rfl⟩ : ∃ I : Nat, m = I := ⟨m.toNat, by omega⟩
    simp only [Int.toNat_natCast] at hcol
    have hpd : ∀ x ∈ p.reverse, x.length = 32 := fun x hx => dig_len hd (List.mem_reverse.1 hx)
    have hqd : ∀ x ∈ q.reverse, x.length = 32 := fun x hx => dig_len hd' (List.mem_reverse.1 hx)
    obtain ⟨la, w1, hl1⟩ := M25_eq p.reverse 100 I N a true pv (by simp; omega) (by omega) (by omega) (by omega) ha hpd (by simp; omega) (by rw [List.reverse_reverse]; exact hp)
    obtain ⟨lb, w2, hl2⟩ := M25_eq q.reverse 100 I N b true qv (by simp; omega) (by omega) (by omega) (by omega) hb hqd (by simp; omega) (by rw [List.reverse_reverse]; exact hq)
    have m24 := M24_eq hl1 hl2 (by have := sideL_len1 p.reverse I N a true; simp at this; omega)
      (fun x hx => by have := sideL_mem p.reverse I N a true ha hpd x hx; omega) (fun x hx => by have := sideL_mem q.reverse I N b true hb hqd x hx; omega)
    rw [hcol] at m24
    have fl1 := fun A n => hl1.frz (A := A) n
    have fl2 := fun A n => hl2.frz (A := A) n
    rw [v1] at m1
    rw [v2] at m2
    rw [decide_eq_false hst] at e0
    generalize (sideL I N a true p.reverse).2 = V1 at *
    generalize (sideL I N b true q.reverse).2 = V2 at *
    generalize (N : Int) = N0 at *
    generalize (I : Int) = I0 at *
    simp [mf7, m11, m12p, m12q, f0p, f0q, fp, fq, fs, fi, fb, fl1, fl2, m1, m2, e0, w1, w2, m24, -evBin, -frz]
  · by_cases v1 : verifyX a m root n p = true
    · by_cases v2 : verifyX b m root n q = true
      · have hst : a = b := Classical.byContradiction fun h => hv ⟨⟨v1, v2⟩, h⟩
        rw [decide_eq_true hst] at e0
        rw [v1] at m1
        rw [v2] at m2
        simp [mf7, m11, m12p, m12q, f0p, f0q, fp, fq, fs, fi, fb, m1, m2, e0, -evBin, -frz]
      · rw [v1] at m1
        rw [Bool.eq_false_iff.2 v2] at m2
        simp [mf7, m11, m12p, m12q, f0p, f0q, fp, fq, fs, fi, fb, m1, m2, -evBin, -frz]
    · rw [Bool.eq_false_iff.2 v1] at m1
      simp [mf7, m11, m12p, m12q, f0p, f0q, fp, fq, fs, fi, fb, m1, m2, -evBin, -frz]
theorem ev7L (args : List AV) (h : LawArgs Tryd.prog 8 Tryd.f7.params.toList args) : ∃ fuel, evP (envOf GD fs7) fuel mf7 1 args = some (.bool true) := by
  rw [Tryd.params7] at h
  obtain ⟨a, r, rfl, h0, h⟩ := h.cons
  obtain ⟨b, r, rfl, h1, h⟩ := h.cons
  obtain ⟨c, r, rfl, h2, h⟩ := h.cons
  obtain ⟨d, r, rfl, h3, h⟩ := h.cons
  obtain ⟨e, r, rfl, h4, h⟩ := h.cons
  obtain ⟨f, r, rfl, h5, h⟩ := h.cons
  obtain ⟨g, r, rfl, h6, h⟩ := h.cons
  obtain rfl := h.nil
  obtain ⟨sa, rfl⟩ := arg_str h0
  obtain ⟨p, hp⟩ := arg_strs h1
  obtain ⟨sb, rfl⟩ := arg_str h2
  obtain ⟨q, hq⟩ := arg_strs h3
  obtain ⟨m, rfl, hm⟩ := arg_int h4
  obtain ⟨root, rfl⟩ := arg_str h5
  obtain ⟨n, rfl, hn⟩ := arg_int h6
  exact ⟨100, ev7 sa sb root (by unfold inI at hn; omega) hp hq⟩
end Go.Proofs.YtgbnngmpaefbcaaDoor
/-
  Digest: heads (35); ChainBinding (10).
-/
namespace Go.Proofs.YtgbnngmpaefbcaaDoor
open Go

def zero32 : Str := List.replicate 32 0
/-- the strings of which digests are computed for the head of a list, the last one first, and the head -/
def headsT : List Str → Str → List Str → List Str × Str
  | [], h, out => (out, h)
  | s :: r, h, out => headsT r (chainT h s) ((2 :: (h ++ s)) :: out)
theorem headsT_len2 : ∀ (l : List Str) (h : Str) (out : List Str), h.length = 32 → (headsT l h out).2.length = 32
  | [], _, _, h => h
  | _ :: r, _, _, _ => headsT_len2 r _ _ (chainT_len _ _)
theorem headsT_app : ∀ (l : List Str) (s h : Str) (out : List Str), headsT (l ++ [s]) h out = ((2 :: ((headsT l h out).2 ++ s)) :: (headsT l h out).1, chainT (headsT l h out).2 s)
  | [], _s, _h, _out => rfl
  | _x :: r, s, _h, _out => headsT_app r s _ _
theorem headsT_len1 : ∀ (l : List Str) (h : Str) (out : List Str), (headsT l h out).1.length = l.length + out.length
  | [], _, _ => by simp [headsT]
  | _ :: r, h, out => by rw [headsT, headsT_len1 r]; simp; omega
theorem headsT_mem : ∀ (l : List Str) (h : Str) (out : List Str), h.length = 32 → (∀ x ∈ l, x.length ≤ 60) → (∀ x ∈ out, x.length ≤ 100) → ∀ y ∈ (headsT l h out).1, y.length ≤ 100
  | [], _, _, _, _, ho, y, hy => ho y hy
  | s :: r, h, out, hh, hl, ho, y, hy => by
    refine headsT_mem r _ _ (chainT_len _ _) (fun x hx => hl x (List.mem_cons_of_mem _ hx)) (fun x hx => ?_) y hy
    rcases List.mem_cons.1 hx with rfl | hx
    · have := hl s (List.mem_cons_self ..); simp; omega
    · exact ho x hx
/-- of two lists with one head, backwards: one string with two digests, or one whose digest is the beginning -/
theorem bind_heads : ∀ (r z : List Str), (headsT r.reverse zero32 []).2 = (headsT z.reverse zero32 []).2 → r ≠ z →
    collT (headsT r.reverse zero32 []).1 (headsT z.reverse zero32 []).1 = true ∨
      (r.length ≠ z.length ∧ ∃ x, (if z.length > r.length then (headsT z.reverse zero32 []).1 else (headsT r.reverse zero32 []).1)[min r.length z.length]? = some x ∧ sumT x = zero32)
  | [], [], _, h => absurd rfl h
  | [], t :: z, hv, _ => by
    refine .inr ⟨by simp, 2 :: ((headsT z.reverse zero32 []).2 ++ t), ?_, ?_⟩
    · rw [if_pos (by simp), List.reverse_cons, headsT_app]; simp
    · rw [List.reverse_cons, headsT_app] at hv
      exact hv.symm
  | s :: r, [], hv, _ => by
    refine .inr ⟨by simp, 2 :: ((headsT r.reverse zero32 []).2 ++ s), ?_, ?_⟩
    · rw [if_neg (by simp), List.reverse_cons, headsT_app]; simp
    · rw [List.reverse_cons, headsT_app] at hv
      exact hv
  | s :: r, t :: z, hv, hne => by
    rw [List.reverse_cons, List.reverse_cons, headsT_app, headsT_app] at hv ⊢
    simp only at hv ⊢
    by_cases he : 2 :: ((headsT r.reverse zero32 []).2 ++ s) = 2 :: ((headsT z.reverse zero32 []).2 ++ t)
    · have h32 : zero32.length = 32 := by simp [zero32]
      obtain ⟨e1, e2⟩ := append_len (List.cons.inj he).2 (by rw [headsT_len2 _ _ _ h32, headsT_len2 _ _ _ h32])
      rcases bind_heads r z e1 (fun h => hne (by rw [h, e2])) with h | ⟨h1, x, h2, h3⟩
      · exact .inl (by unfold collT; simp [h])
      · refine .inr ⟨by simpa using h1, x, ?_, h3⟩
        simp only [List.length_cons]
        rw [show min (r.length + 1) (z.length + 1) = min r.length z.length + 1 by omega]
        by_cases hgt : z.length > r.length
        · rw [if_pos hgt] at h2
          rw [if_pos (by omega), List.getElem?_cons_succ]; exact h2
        · rw [if_neg hgt] at h2
          rw [if_neg (by omega), List.getElem?_cons_succ]; exact h2
    · exact .inl (by
        unfold collT
        have hv' : sumT (2 :: ((headsT r.reverse zero32 []).2 ++ s)) = sumT (2 :: ((headsT z.reverse zero32 []).2 ++ t)) := hv
        simp only [ne_eq, he, not_false_eq_true, decide_true, hv', Bool.and_self, Bool.true_or])

noncomputable def fs35 : List (FuncId × HModel) := [(33, pureH 4 M33)]
@[simp] theorem fs35_33 : lookM fs35 33 = some (pureH 4 M33) := rfl
theorem sound35 : ∀ f M, lookM fs35 f = some M → FnSpecY Tryd.prog GD f M := lookM_cons (FnSpecY.of_pure spec33 4) lookM_nil
/-- what the law's list is in memory -/
theorem cons_listN {A : Arena} {o : AV} {l : List Str} (h : FullN A o (strsA l)) (x : Str) (hl : l.length ≤ 1000) : ∃ o' B, evAppendN 1 16 (A ++ [Ent.row 1 false [.str x]]) (.sl A.length 0 1) o = some (o', B) ∧ FullN B o' (strsA (x :: l)) := by
  have hb : (1 + l.length) * 16 ≤ 140737488355328 := by omega
  have e : strsA (x :: l) = .str x :: strsA l := rfl
  have hsrc : srcElems 1 (A ++ [Ent.row 1 false [.str x]]) o = some (strsA l) := (h.full.push _).src
  refine ⟨.sl (A.length + 1) 0 (l.length + 1), (A ++ [Ent.row 1 false [.str x]]).set A.length .dead ++ [.row 1 false (strsA (x :: l))], ?_, .inr ⟨A.length + 1, ?_, ?_, ?_⟩⟩
  · have e2 : 1 + l.length = l.length + 1 := by omega
    simp only [evAppendN, hsrc]
    simp [strsA_len, e2, e]
    omega
  · rw [strsA_len]; simp
  · rw [e]; simp
  · simp
set_option maxRecDepth 100000 in
set_option maxHeartbeats 4000000 in
theorem round35 {l : List Str} {a : AV} (ha : SlA 1 (strsA l) a) {i : Nat} {s : Str} (hs : l[i]? = some s) (hsl : s.length ≤ 60) {h : Str} (hh : h.length = 32) {out : List Str} (ho : out.length ≤ 900) {A : Arena} {o : AV} (hF : FullN A o (strsA out)) (hl : l.length ≤ 1000) :
    ∃ o' B, run (envOf GD fs35) 100 [.code lp35x0] (st35x0 a (.str h) o (.int .i64 (i : Int))) A = some (.normal (st35x0 a (.str (chainT h s)) o' (.int .i64 ((i + 1 : Nat) : Int))) B) ∧ FullN B o' (strsA ((2 :: (h ++ s)) :: out)) := by
  have hi := (List.getElem?_eq_some_iff.1 hs).1
  obtain ⟨o', B, ap, hF'⟩ := cons_listN hF (2 :: (h ++ s)) (by omega)
  refine ⟨o', B, ?_, hF'⟩
  have la := ha.slen
  have c0 := Dlt_nat i l.length .i64
  rw [decide_eq_true hi] at c0
  have ix := fun A => ha.strs hs (A := A) .i64
  have a1 := add_str (a := [2]) (b := h) (by simp; omega)
  have a2 := add_str (a := [2] ++ h) (b := s) (by simp; omega)
  rw [List.append_assoc] at a2
  change _ = some (AV.str (2 :: (h ++ s))) at a2
  have bs : ∀ A : Arena, evBuildSlice 1 [.str (2 :: (h ++ s))] A = some (.sl A.length 0 1, A ++ [.row 1 false [.str (2 :: (h ++ s))]]) := fun A => by simp [evBuildSlice]
  have m := M33_eq (a := h) (b := s) (by omega) (by omega)
  have p0 := Dadd_nat i 1 (by omega)
  rw [show ((1 : Nat) : Int) = 1 from rfl] at p0
  have fs := frz_s
  have scs : ∀ s, scalarB 4 (.str s) = true := fun _ => rfl
  generalize chainT h s = CH at *
  generalize (2 :: (h ++ s) : Str) = H2 at *
  generalize [2] ++ h = H1 at *
  generalize ((i + 1 : Nat) : Int) = I1 at *
  generalize (i : Int) = I0 at *
  generalize (l.length : Int) = N at *
  simp [lp35x0, la, c0, ix, load_fp1, a1, a2, bs, ap, m, fs, p0, -evBin, -evLenSl, -evIndexSl, -evLoad, -evBuildSlice, -frz]
theorem loop35 {l : List Str} {a : AV} (ha : SlA 1 (strsA l) a) (hsl : ∀ s ∈ l, s.length ≤ 60) (hl : l.length ≤ 90) : ∀ (r : List Str) (i : Nat) (h : Str) (out : List Str) (A : Arena) (o : AV) (m : Nat), i ≤ l.length → l.drop i = r → h.length = 32 → out.length + r.length ≤ 900 → FullN A o (strsA out) → r.length < m →
    ∃ o' B, iter (evC (envOf GD fs35) 100 lp35x0) mask35x0 m (st35x0 a (.str h) o (.int .i64 (i : Int))) A = some (.exit 0 ((st35x0 a (.str (headsT r h out).2) o' (.int .i64 (l.length : Int))).set 6 (.bool false)) B) ∧ FullN B o' (strsA (headsT r h out).1) := by
  have la := ha.slen
  intro r
  induction r with
  | nil =>
    intro i h out A o m hil hr hh ho hF hm
    obtain ⟨m, rfl⟩ : ∃ k, m = k + 1 := ⟨m - 1, by omega⟩
    have : l.length ≤ i := List.drop_eq_nil_iff.1 hr
    obtain rfl : i = l.length := by omega
    refine ⟨o, A, ?_, hF⟩
    have c0 := Dlt_nat l.length l.length .i64
    rw [decide_eq_false (by omega)] at c0
    rw [iter_succ, cl35x0]
    generalize (l.length : Int) = N at *
    simp [lp35x0, la, c0, headsT, -evBin, -evLenSl]
  | cons s r ih =>
    intro i h out A o m hil hr hh ho hF hm
    obtain ⟨m, rfl⟩ : ∃ k, m = k + 1 := ⟨m - 1, by omega⟩
    obtain ⟨h1, h2, h3⟩ := drop_cons hr
    simp only [List.length_cons] at ho hm
    obtain ⟨o1, B1, r1, hF1⟩ := round35 ha h1 (hsl s (List.mem_of_getElem? h1)) hh (by omega) hF (by omega)
    obtain ⟨o', B, r2, hF2⟩ := ih (i + 1) (chainT h s) ((2 :: (h ++ s)) :: out) B1 o1 m (by omega) h2 (chainT_len _ _) (by simp; omega) hF1 (by omega)
    refine ⟨o', B, ?_, hF2⟩
    rw [iter_succ, cl35x0, r1]
    exact r2
noncomputable def M35 : PModel := fun args => evF (envOf GD fs35) 100 mf35 4 args
theorem spec35 : PureSpecF Tryd.prog GD 35 M35 := PureSpecF.of_ev (E := envOf GD fs35) (envOf_sound sound35) rfl at35 comp35 4 fun _ _ h => ⟨100, h⟩
theorem zero32_ev (A : Arena) : evMake 1 1 (.int .u8 0) A (.int .i64 32) (.int .i64 32) = some (.sl A.length 0 32, A ++ [.row 1 false (bytesA zero32)]) := by
  have : bytesA zero32 = List.replicate 32 (.int .u8 0) := rfl
  rw [this]
  simp [evMake]
theorem zero32_str (A : Arena) : evToStr (A ++ [.row 1 false (bytesA zero32)]) (.sl A.length 0 32) = some (.str zero32) :=
  toStr_full (.inr ⟨A.length, false, by rw [bytesA_len]; rfl, by simp⟩)
set_option maxRecDepth 100000 in
set_option maxHeartbeats 4000000 in
theorem M35_eq {l : List Str} {a : AV} (ha : SlA 1 (strsA l) a) (hsl : ∀ s ∈ l, s.length ≤ 60) (hl : l.length ≤ 90) : ∃ r, M35 [a] = some (.tup [r, .str (headsT l zero32 []).2]) ∧ SlA 1 (strsA (headsT l zero32 []).1) r := by
  obtain ⟨o', B, lp, hF⟩ := loop35 ha hsl hl l 0 zero32 [] [.row 1 false (bytesA zero32)] .nilS 100 (by omega) rfl (by simp [zero32]) (by simp; omega) (.inl ⟨rfl, rfl⟩) (by omega)
  obtain ⟨q1, q2⟩ := hF.fin 1
  refine ⟨frz B 3 o', ?_, q1⟩
  have z1 := zero32_ev []
  have z2 := zero32_str []
  simp only [List.length_nil, List.nil_append] at z1 z2
  have fzt : ∀ (A : Arena) (x : AV) (y : Str), frz A 4 (.tup [x, .str y]) = .tup [frz A 3 x, .str y] := fun _ _ _ => rfl
  have frt : ∀ (A : Arena) (x : AV) (y : Str), freshB A 4 (.tup [x, .str y]) = freshB A 3 x := fun A x y => by simp [freshB]
  rw [show ((0 : Nat) : Int) = 0 from rfl] at lp
  unfold M35
  rw [evF_run _ _ rfl]
  generalize (headsT l zero32 []).2 = HV at *
  generalize bytesA zero32 = Z at *
  generalize zero32 = ZS at *
  generalize (l.length : Int) = N at *
  simp [mf35, z1, z2, go35x0 lp, pack, frt, q2, fzt, -evMake, -frz]

noncomputable def fs10 : List (FuncId × HModel) := [(11, pureH 4 M11), (12, pureFH 4 M12), (35, pureFH 4 M35), (17, pureH 4 M17), (27, pureH 4 M27), (24, pureH 4 M24)]
@[simp] theorem fs10_11 : lookM fs10 11 = some (pureH 4 M11) := rfl
@[simp] theorem fs10_12 : lookM fs10 12 = some (pureFH 4 M12) := rfl
@[simp] theorem fs10_35 : lookM fs10 35 = some (pureFH 4 M35) := rfl
@[simp] theorem fs10_17 : lookM fs10 17 = some (pureH 4 M17) := rfl
@[simp] theorem fs10_27 : lookM fs10 27 = some (pureH 4 M27) := rfl
@[simp] theorem fs10_24 : lookM fs10 24 = some (pureH 4 M24) := rfl
theorem sound10 : ∀ f M, lookM fs10 f = some M → FnSpecY Tryd.prog GD f M :=
  lookM_cons (FnSpecY.of_pure spec11 4) (lookM_cons (FnSpecY.of_pureF spec12 4) (lookM_cons (FnSpecY.of_pureF spec35 4) (lookM_cons (FnSpecY.of_pure spec17 4) (lookM_cons (FnSpecY.of_pure spec27 4) (lookM_cons (FnSpecY.of_pure spec24 4) lookM_nil)))))
set_option maxRecDepth 100000 in
set_option maxHeartbeats 4000000 in
theorem ev10 {l0 k0 : List Str} {a0 b0 : AV} (ha0 : SlA 1 (strsA l0) a0) (hb0 : SlA 1 (strsA k0) b0) : evP (envOf GD fs10) 100 mf10 1 [a0, b0] = some (.bool true) := by
  obtain ⟨a, m12a, ha⟩ := M12_eq ha0 (n := 20) (by omega)
  obtain ⟨b, m12b, hb⟩ := M12_eq hb0 (n := 20) (by omega)
  have hll := fewT_len l0 20
  have hkl := fewT_len k0 20
  have hlm : ∀ x ∈ fewT l0 20, x.length ≤ 60 := fun x h => fewT_mem h
  have hkm : ∀ x ∈ fewT k0 20, x.length ≤ 60 := fun x h => fewT_mem h
  generalize fewT l0 20 = l at *
  generalize fewT k0 20 = k at *
  obtain ⟨x, m35a, hx⟩ := M35_eq ha hlm (by omega)
  obtain ⟨y, m35b, hy⟩ := M35_eq hb hkm (by omega)
  have h32 : zero32.length = 32 := by simp [zero32]
  have m17 := M17_eq ha hb (by omega)
  have lx := hx.slen
  have ly := hy.slen
  rw [headsT_len1, List.length_nil, Nat.add_zero] at lx ly
  have la := ha.slen
  have hv1 := headsT_len2 l zero32 [] h32
  have hv2 := headsT_len2 k zero32 [] h32
  have hmem1 := headsT_mem l zero32 [] h32 hlm (fun x h => by cases h)
  have hmem2 := headsT_mem k zero32 [] h32 hkm (fun x h => by cases h)
  have hbind := bind_heads l.reverse k.reverse
  rw [List.reverse_reverse, List.reverse_reverse] at hbind
  have m24 := M24_eq hx hy (by rw [headsT_len1]; simp; omega) (fun z hz => by have := hmem1 z hz; omega) (fun z hz => by have := hmem2 z hz; omega)
  have hlx1 := headsT_len1 l zero32 []
  have hlx2 := headsT_len1 k zero32 []
  have hsame : l = k → (headsT l zero32 []).2 = (headsT k zero32 []).2 := fun h => by rw [h]
  generalize (headsT l zero32 []).2 = h at *
  generalize (headsT k zero32 []).2 = g at *
  generalize (headsT l zero32 []).1 = L1 at *
  generalize (headsT k zero32 []).1 = L2 at *
  have lsh := lenS h
  rw [hv1, show ((32 : Nat) : Int) = 32 from rfl] at lsh
  have n32 : evBin .neq (.int .i64 32) (.int .i64 32) = some (.bool false) := rfl
  have ehg := ne_str h g
  have m11 := M11_eq
  have f0a := fun A n => ha0.frz (A := A) n
  have f0b := fun A n => hb0.frz (A := A) n
  have fa := fun A n => ha.frz (A := A) n
  have fb' := fun A n => hb.frz (A := A) n
  have fx := fun A n => hx.frz (A := A) n
  have fy := fun A n => hy.frz (A := A) n
  have fs := frz_s
  have fi := frz_i
  have fb := frz_b
  have scb : ∀ s, scalarB 4 (.bool s) = true := fun _ => rfl
  have scs : ∀ s, scalarB 4 (.str s) = true := fun _ => rfl
  rw [show ((20 : Nat) : Int) = 20 from rfl] at m12a m12b
  rw [evP_run _ _ rfl]
  by_cases hlk : l = k
  · rw [decide_eq_true hlk] at m17
    obtain rfl : h = g := hsame hlk
    rw [decide_eq_true (rfl : h = h)] at ehg
    simp [mf10, m11, m12a, m12b, f0a, f0b, fa, fb', fi, fb, m35a, m35b, m17, lsh, n32, ehg, -evBin, -evLenStr, -frz]
  · rw [decide_eq_false hlk] at m17
    by_cases hhg : h = g
    · rw [decide_eq_true hhg] at ehg
      have hb3 := hbind hhg (fun e => hlk (List.reverse_inj.1 e))
      simp only [List.length_reverse] at hb3
      have g0 := gt_nat k.length l.length .i64
      have n0 := ne_nat l.length k.length .i64
      have mn : evMinL false (.int .i64 (l.length : Int)) [.int .i64 (k.length : Int)] = some (.int .i64 ((min l.length k.length : Nat) : Int)) := by
        have := min2_nat l.length k.length .i64 .i64
        simp only [evMinL]
        rw [this]
      by_cases hlen : l.length = k.length
      · have hcol : collT L1 L2 = true := by
          rcases hb3 with h | ⟨h, _⟩
          · exact h
          · exact absurd hlen h
        rw [hcol] at m24
        rw [decide_eq_true hlen] at n0
        rw [decide_eq_false (by omega)] at g0
        generalize (l.length : Int) = N1 at *
        generalize (k.length : Int) = N2 at *
        simp [mf10, m11, m12a, m12b, f0a, f0b, fa, fb', fx, fy, fi, fb, m35a, m35b, m17, lsh, n32, ehg, lx, ly, g0, n0, m24, -evBin, -evLenStr, -evLenSl, -frz]
      · rw [decide_eq_false hlen] at n0
        have hz1 := zero32_ev
        have hz2 := zero32_str
        -- the string behind the shorter list
        obtain ⟨lo, lv, hlo, hlv, hlof⟩ : ∃ (lo : List Str) (lv : AV), SlA 1 (strsA lo) lv ∧ lv = (if k.length > l.length then y else x) ∧ lo = (if k.length > l.length then L2 else L1) := by
          by_cases hgt : k.length > l.length
          · exact ⟨L2, y, hy, by rw [if_pos hgt], by rw [if_pos hgt]⟩
          · exact ⟨L1, x, hx, by rw [if_neg hgt], by rw [if_neg hgt]⟩
        obtain ⟨sx, hsx⟩ : ∃ sx, lo[min l.length k.length]? = some sx := by
          refine ⟨_, List.getElem?_eq_getElem ?_⟩
          rw [hlof]
          split
          · rw [hlx2]; simp; omega
          · rw [hlx1]; simp; omega
        have hsm : sx.length ≤ 100 := by
          have := List.mem_of_getElem? hsx
          rw [hlof] at this
          split at this
          · exact hmem2 sx this
          · exact hmem1 sx this
        have ixl := fun A => hlo.strs hsx (A := A) .i64
        have hlfs := hlo.fs (fun h0 => by rw [h0] at hsx; cases hsx)
        have m27 := M27_eq (s := sx) (by omega)
        have ez := eq_str (sumT sx) zero32
        have hor : collT L1 L2 = true ∨ sumT sx = zero32 := by
          rcases hb3 with h | ⟨_, x', h2, h3⟩
          · exact .inl h
          · rw [← hlof, hsx] at h2
            injection h2 with h2
            exact .inr (by rw [h2]; exact h3)
        have hz1' := hz1 []
        have hz2' := hz2 []
        simp only [List.length_nil, List.nil_append] at hz1' hz2'
        by_cases hgt : k.length > l.length
        · rw [if_pos hgt] at hlv
          subst hlv
          subst hlfs
          rw [decide_eq_true hgt] at g0
          generalize (l.length : Int) = N1 at *
          generalize (k.length : Int) = N2 at *
          generalize ((min l.length k.length : Nat) : Int) = N3 at *
          generalize sumT sx = SX at *
          generalize bytesA zero32 = Z at *
          generalize zero32 = ZS at *
          have hor2 : collT L1 L2 = true ∨ decide (SX = ZS) = true := hor.imp id (fun h => decide_eq_true h)
          generalize decide (SX = ZS) = bz at *
          generalize collT L1 L2 = bc at *
          generalize strsA lo = LO at *
          have hor3 : bc = true ∨ (bc = false ∧ bz = true) := by
            cases bc with
            | true => exact .inl rfl
            | false => exact .inr ⟨rfl, hor2.resolve_left (by simp)⟩
          rcases hor3 with rfl | ⟨rfl, rfl⟩ <;> simp [mf10, m11, m12a, m12b, f0a, f0b, fa, fb', fx, fy, fi, fs, fb, m35a, m35b, m17, lsh, n32, ehg, lx, ly, g0, n0, mn, ixl, load_fp1, m27, hz1', hz2', ez, m24, -evBin, -evLenStr, -evLenSl, -evIndexSl, -evLoad, -evMake, -evMinL, -frz]
        · rw [if_neg hgt] at hlv
          subst hlv
          subst hlfs
          rw [decide_eq_false hgt] at g0
          generalize (l.length : Int) = N1 at *
          generalize (k.length : Int) = N2 at *
          generalize ((min l.length k.length : Nat) : Int) = N3 at *
          generalize sumT sx = SX at *
          generalize bytesA zero32 = Z at *
          generalize zero32 = ZS at *
          have hor2 : collT L1 L2 = true ∨ decide (SX = ZS) = true := hor.imp id (fun h => decide_eq_true h)
          generalize decide (SX = ZS) = bz at *
          generalize collT L1 L2 = bc at *
          generalize strsA lo = LO at *
          have hor3 : bc = true ∨ (bc = false ∧ bz = true) := by
            cases bc with
            | true => exact .inl rfl
            | false => exact .inr ⟨rfl, hor2.resolve_left (by simp)⟩
          rcases hor3 with rfl | ⟨rfl, rfl⟩ <;> simp [mf10, m11, m12a, m12b, f0a, f0b, fa, fb', fx, fy, fi, fs, fb, m35a, m35b, m17, lsh, n32, ehg, lx, ly, g0, n0, mn, ixl, load_fp1, m27, hz1', hz2', ez, m24, -evBin, -evLenStr, -evLenSl, -evIndexSl, -evLoad, -evMake, -evMinL, -frz]
    · rw [decide_eq_false hhg] at ehg
      generalize (l.length : Int) = N1 at *
      simp [mf10, m11, m12a, m12b, f0a, f0b, fa, fb', fi, fb, m35a, m35b, m17, lsh, n32, ehg, -evBin, -evLenStr, -frz]
theorem ev10L (args : List AV) (h : LawArgs Tryd.prog 8 Tryd.f10.params.toList args) : ∃ fuel, evP (envOf GD fs10) fuel mf10 1 args = some (.bool true) := by
  rw [Tryd.params10] at h
  obtain ⟨a, r, rfl, h0, h⟩ := h.cons
  obtain ⟨b, r, rfl, h1, h⟩ := h.cons
  obtain rfl := h.nil
  obtain ⟨l, hl⟩ := arg_strs h0
  obtain ⟨k, hk⟩ := arg_strs h1
  exact ⟨100, ev10 hl hk⟩
end Go.Proofs.YtgbnngmpaefbcaaDoor
/-
  Digest: the reference's extended (51), and its small functions (63, 64).
-/
namespace Go.Proofs.YtgbnngmpaefbcaaDoor
open Go

theorem len_bytes {A : Arena} {o : AV} {l : List UInt8} (h : Full A o 1 (bytesA l)) : evLenSl o = some (.int .i64 (l.length : Int)) := by
  have := h.len
  rwa [bytesA_len] at this
theorem take_succ_getD {s : List UInt8} {i : Nat} (h : i < s.length) : s.take i ++ [s.getD i 0] = s.take (i + 1) := by
  rw [List.getD_eq_getElem?_getD, List.getElem?_eq_getElem h, Option.getD_some, List.take_succ_eq_append_getElem h]
theorem idx_byte {s : List UInt8} {i : Nat} (h : i < s.length) (k : IntKind) : evIndexStr (.str s) (.int k (i : Int)) = some (.int .u8 ((s.getD i 0).toNat : Int)) := by
  rw [List.getD_eq_getElem?_getD]
  simp [evIndexStr, List.getElem?_eq_getElem h]
theorem loop51x0 (E : Env) (fuel : Nat) {s : List UInt8} (hs : s.length ≤ 5000) : ∀ (c i : Nat) (A : Arena) (o : AV) (m : Nat), i + c = s.length → Full A o 1 (bytesA (s.take i)) → c < m →
    ∃ o' A', iter (evC E fuel lp51x0) mask51x0 m (st51x0 (.str s) o (.int .i64 (i : Int))) A = some (.exit 0 ((st51x0 (.str s) o' (.int .i64 (s.length : Int))).set 5 (.bool false)) A') ∧ Full A' o' 1 (bytesA s) := by
  intro c
  have ls : evLenStr (.str s) = some (.int .i64 (s.length : Int)) := by simp [evLenStr]
  induction c with
  | zero =>
    intro i A o m hj hF hm
    obtain ⟨m, rfl⟩ : ∃ j, m = j + 1 := ⟨m - 1, by omega⟩
    obtain rfl : i = s.length := by omega
    rw [List.take_length] at hF
    refine ⟨o, A, ?_, hF⟩
    have c0 := Dlt_nat s.length s.length .i64
    rw [decide_eq_false (by omega)] at c0
    rw [iter_succ, cl51x0]
    generalize (s.length : Int) = N at *
    simp [lp51x0, ls, c0, -evBin, -evLenStr]
  | succ c ih =>
    intro i A o m hj hF hm
    obtain ⟨m, rfl⟩ : ∃ j, m = j + 1 := ⟨m - 1, by omega⟩
    have hi : i < s.length := by omega
    obtain ⟨o1, A1, a1, a2, a3, a4⟩ := app_byte hF (by rw [List.length_take]; omega) (s.getD i 0)
    rw [take_succ_getD hi] at a2
    obtain ⟨o', A', i1, i2⟩ := ih (i + 1) A1 o1 m (by omega) a2 (by omega)
    refine ⟨o', A', ?_, i2⟩
    have c0 := Dlt_nat i s.length .i64
    rw [decide_eq_true hi] at c0
    have ib := idx_byte hi .i64
    have p0 := Dadd_nat i 1 (by omega)
    rw [show ((1 : Nat) : Int) = 1 from rfl] at p0
    rw [iter_succ, cl51x0]
    have hr : run E fuel [.code lp51x0] (st51x0 (.str s) o (.int .i64 (i : Int))) A = some (.normal (st51x0 (.str s) o1 (.int .i64 ((i + 1 : Nat) : Int))) A1) := by
      generalize ((s.getD i 0).toNat : Int) = B at *
      generalize ((i + 1 : Nat) : Int) = I1 at *
      generalize (i : Int) = I0 at *
      generalize (s.length : Int) = N at *
      simp [lp51x0, ls, c0, ib, a1, p0, -evBin, -evLenStr, -evIndexStr]
    rw [hr]
    exact i1
theorem loop51x1 (E : Env) (fuel : Nat) {s : List UInt8} (hs : s.length ≤ 5000) (v0 : AV) : ∀ (c z : Nat) (A : Arena) (o : AV) (m : Nat), z + c = padN s.length → Full A o 1 (bytesA (s ++ [128] ++ List.replicate z 0)) → c < m →
    ∃ o' A' d6, iter (evC E fuel lp51x1) mask51x1 m (st51x1 v0 o) A = some (.exit 2 ((st51x1 v0 o').set 6 d6) A') ∧ Full A' o' 1 (bytesA (s ++ [128] ++ List.replicate (padN s.length) 0)) := by
  intro c
  induction c with
  | zero =>
    intro z A o m hz hF hm
    obtain ⟨m, rfl⟩ : ∃ j, m = j + 1 := ⟨m - 1, by omega⟩
    obtain rfl : z = padN s.length := by omega
    have hl := len_bytes hF
    have hlen : (s ++ [128] ++ List.replicate (padN s.length) 0).length % 64 = 56 := by simp [padN]; omega
    have r0 := rem_nat (s ++ [128] ++ List.replicate (padN s.length) 0).length 64 (by omega)
    have n0 := ne_nat ((s ++ [128] ++ List.replicate (padN s.length) 0).length % 64) 56 .i64
    rw [hlen] at n0 r0
    refine ⟨o, A, .bool false, ?_, hF⟩
    rw [iter_succ, cl51x1]
    rw [show ((64 : Nat) : Int) = 64 from rfl, show ((56 : Nat) : Int) = 56 from rfl] at r0
    rw [show ((56 : Nat) : Int) = 56 from rfl] at n0
    generalize ((s ++ [128] ++ List.replicate (padN s.length) 0).length : Int) = N at *
    simp [lp51x1, hl, r0, n0, -evBin, -evLenSl]
  | succ c ih =>
    intro z A o m hz hF hm
    obtain ⟨m, rfl⟩ : ∃ j, m = j + 1 := ⟨m - 1, by omega⟩
    have hl := len_bytes hF
    have hpn : padN s.length < 64 := Nat.mod_lt _ (by omega)
    have hlen : ¬ ((s ++ [128] ++ List.replicate z 0).length % 64 = 56) := by
      have := hz
      simp [padN] at this ⊢; omega
    have hsm : (s ++ [128] ++ List.replicate z 0).length ≤ 100000 := by simp; omega
    have r0 := rem_nat (s ++ [128] ++ List.replicate z 0).length 64 (by omega)
    have n0 := ne_nat ((s ++ [128] ++ List.replicate z 0).length % 64) 56 .i64
    rw [decide_eq_false hlen] at n0
    obtain ⟨o1, A1, a1, a2, a3, a4⟩ := app_byte hF hsm 0
    rw [List.append_assoc _ _ [0], show List.replicate z (0 : UInt8) ++ [0] = List.replicate (z + 1) 0 from (List.replicate_succ' ..).symm] at a2
    obtain ⟨o', A', d6, i1, i2⟩ := ih (z + 1) A1 o1 m (by omega) a2 (by omega)
    refine ⟨o', A', d6, ?_, i2⟩
    rw [show ((64 : Nat) : Int) = 64 from rfl] at r0
    rw [show ((56 : Nat) : Int) = 56 from rfl] at n0
    rw [show (((0 : UInt8).toNat : Nat) : Int) = 0 from rfl] at a1
    rw [iter_succ, cl51x1]
    generalize (((s ++ [128] ++ List.replicate z 0).length % 64 : Nat) : Int) = N2 at *
    generalize ((s ++ [128] ++ List.replicate z 0).length : Int) = N at *
    have hr : run E fuel [.code lp51x1] (st51x1 v0 o) A = some (.normal (st51x1 v0 o1) A1) := by
      simp [lp51x1, hl, r0, n0, a1, -evBin, -evLenSl]
    rw [hr]
    exact i1
set_option maxRecDepth 100000 in
set_option maxHeartbeats 4000000 in
theorem loop51x2 (E : Env) (fuel : Nat) {s l : List UInt8} (hs : s.length ≤ 5000) (hl5 : l.length ≤ 90000) : ∀ (c j : Nat) (A : Arena) (o : AV) (m : Nat), j + c = 8 → Full A o 1 (bytesA (l ++ (lenB s.length).take j)) → c < m →
    ∃ o' A' d4 d7, iter (evC E fuel lp51x2) mask51x2 m (st51x2 (.str s) o (.int .i64 (7 - j))) A = some (.exit 4 (((st51x2 (.str s) o' d4)).set 7 d7) A') ∧ Full A' o' 1 (bytesA (l ++ lenB s.length)) := by
  intro c
  induction c with
  | zero =>
    intro j A o m hj hF hm
    obtain ⟨m, rfl⟩ : ∃ j, m = j + 1 := ⟨m - 1, by omega⟩
    obtain rfl : j = 8 := by omega
    refine ⟨o, A, .int .i64 (-1), .bool false, ?_, hF⟩
    have n0 : evBin .geq (.int .i64 (-1)) (.int .i64 0) = some (.bool false) := rfl
    rw [iter_succ, cl51x2]
    rw [show (7 - ((8 : Nat) : Int)) = -1 from rfl]
    simp [lp51x2, n0, -evBin]
  | succ c ih =>
    intro j A o m hj hF hm
    obtain ⟨m, rfl⟩ : ∃ j, m = j + 1 := ⟨m - 1, by omega⟩
    obtain ⟨i, hi⟩ : ∃ i, i + j = 7 := ⟨7 - j, by omega⟩
    have hij : (7 - (j : Int)) = (i : Int) := by omega
    have hb : (lenB s.length).take (j + 1) = (lenB s.length).take j ++ [UInt8.ofNat (8 * s.length / 2 ^ (8 * i))] := by
      have : j = 0 ∨ j = 1 ∨ j = 2 ∨ j = 3 ∨ j = 4 ∨ j = 5 ∨ j = 6 ∨ j = 7 := by omega
      rcases this with rfl | rfl | rfl | rfl | rfl | rfl | rfl | rfl
      all_goals (first | (have hi' : i = 7 := (by omega); subst hi'; rfl) | (have hi' : i = 6 := (by omega); subst hi'; rfl) | (have hi' : i = 5 := (by omega); subst hi'; rfl) | (have hi' : i = 4 := (by omega); subst hi'; rfl) | (have hi' : i = 3 := (by omega); subst hi'; rfl) | (have hi' : i = 2 := (by omega); subst hi'; rfl) | (have hi' : i = 1 := (by omega); subst hi'; rfl) | (have hi' : i = 0 := (by omega); subst hi'; rfl))
    have hln : (lenB s.length).length = 8 := by simp [lenB]
    have hsm : (l ++ (lenB s.length).take j).length ≤ 100000 := by
      rw [List.length_append, List.length_take]; omega
    obtain ⟨o1, A1, a1, a2, a3, a4⟩ := app_byte hF hsm (UInt8.ofNat (8 * s.length / 2 ^ (8 * i)))
    rw [List.append_assoc, ← hb] at a2
    obtain ⟨o', A', d4, d7, i1, i2⟩ := ih (j + 1) A1 o1 m (by omega) a2 (by omega)
    refine ⟨o', A', d4, d7, ?_, i2⟩
    have n0 : evBin .geq (.int .i64 (i : Int)) (.int .i64 0) = some (.bool true) := by rw [bGe]; simp
    have m0 := Dmul_nat 8 s.length (by omega)
    have m1 := Dmul_nat 8 i (by omega)
    have sh := Dshr_nat (8 * s.length) (8 * i) (by omega) .i64
    have cv := conv8_n (8 * s.length / 2 ^ (8 * i)) .i64
    have q0 : evBin .sub (.int .i64 (i : Int)) (.int .i64 1) = some (.int .i64 (7 - ((j + 1 : Nat) : Int))) := by
      rw [bSub _ _ (by unfold inI; omega)]; congr 2; omega
    have ls : evLenStr (.str s) = some (.int .i64 (s.length : Int)) := by simp [evLenStr]
    rw [show ((8 : Nat) : Int) = 8 from rfl] at m0 m1
    rw [iter_succ, cl51x2, hij]
    generalize ((UInt8.ofNat (8 * s.length / 2 ^ (8 * i))).toNat : Int) = B at *
    generalize ((8 * s.length / 2 ^ (8 * i) : Nat) : Int) = Q at *
    generalize ((8 * i : Nat) : Int) = J at *
    generalize ((8 * s.length : Nat) : Int) = S8 at *
    generalize (s.length : Int) = S0 at *
    have hr : run E fuel [.code lp51x2] (st51x2 (.str s) o (.int .i64 (i : Int))) A = some (.normal (st51x2 (.str s) o1 (.int .i64 (7 - ((j + 1 : Nat) : Int)))) A1) := by
      generalize ((7 - ((j + 1 : Nat) : Int)) : Int) = I1 at *
      generalize (i : Int) = I0 at *
      simp [lp51x2, n0, m0, m1, sh, cv, ls, a1, q0, -evBin, -evConvInt, -evLenStr]
    rw [hr]
    exact i1
/-- a slice of cells without references, frozen -/
theorem Full.fin {A : Arena} {o : AV} {es : List AV} (h : Full A o 1 es) (h0 : es ≠ []) (n : Nat) (hz : ∀ e ∈ es, frz A n e = e ∧ freshB A n e = true) : frz A (n + 1) o = .fs 1 es ∧ freshB A (n + 1) o = true := by
  rcases h with ⟨_, h⟩ | ⟨id, gr, rfl, h2⟩
  · exact absurd h h0
  · have e : (es.drop 0).take es.length = es := by rw [List.drop_zero, List.take_length]
    have hm : es.map (frz A n) = es := by
      have : es.map (frz A n) = es.map _root_.id := List.map_congr_left fun x hx => (hz x hx).1
      rw [this, List.map_id]
    refine ⟨?_, ?_⟩
    · simp only [frz, h2, e, hm]
    · simp only [freshB, h2, e, List.all_eq_true]
      exact fun x hx => (hz x hx).2
theorem bytes_fin {A : Arena} {n : Nat} (l : List UInt8) : ∀ e ∈ bytesA l, frz A n e = e ∧ freshB A n e = true := by
  intro e he
  obtain ⟨b, _, rfl⟩ := List.mem_map.1 he
  exact ⟨by cases n <;> rfl, by cases n <;> rfl⟩
theorem words_fin {A : Arena} {n : Nat} (l : List W32) : ∀ e ∈ l.map wA, frz A n e = e ∧ freshB A n e = true := by
  intro e he
  obtain ⟨b, _, rfl⟩ := List.mem_map.1 he
  exact ⟨by cases n <;> rfl, by cases n <;> rfl⟩
noncomputable def M51 : PModel := fun args => evF (envOf GD []) 3000 mf51 4 args
theorem spec51 : PureSpecF Tryd.prog GD 51 M51 := PureSpecF.of_ev (E := envOf GD []) (envOf_sound lookM_nil) rfl at51 comp51 4 fun _ _ h => ⟨3000, h⟩
set_option maxRecDepth 100000 in
set_option maxHeartbeats 4000000 in
theorem M51_eq {s : List UInt8} (hs : s.length ≤ 2000) : M51 [.str s] = some (.fs 1 (bytesA (padT s))) := by
  obtain ⟨o0, A0, lp0, f0⟩ := loop51x0 (envOf GD []) 3000 (s := s) (by omega) s.length 0 [] .nilS 3000 (by omega) (.inl ⟨rfl, rfl⟩) (by omega)
  obtain ⟨o1, A1, a1, f1, _, _⟩ := app_byte f0 (by omega) 128
  obtain ⟨o2, A2, d6, lp1, f2⟩ := loop51x1 (envOf GD []) 3000 (s := s) (by omega) (.str s) (padN s.length) 0 A1 o1 3000 (by omega) (by simpa using f1) (by unfold padN; omega)
  have hp : (s ++ [128] ++ List.replicate (padN s.length) 0).length ≤ 90000 := by simp [padN]; omega
  obtain ⟨o3, A3, d4, d7, lp2, f3⟩ := loop51x2 (envOf GD []) 3000 (s := s) (by omega) hp 8 0 A2 o2 3000 rfl (by simpa using f2) (by omega)
  change Full A3 o3 1 (bytesA (padT s)) at f3
  have hne : bytesA (padT s) ≠ [] := by
    intro h
    have := congrArg List.length h
    rw [bytesA_len, padT_len, List.length_nil] at this
    omega
  obtain ⟨q1, q2⟩ := f3.fin hne 3 (bytes_fin _)
  rw [show (((128 : UInt8).toNat : Nat) : Int) = 128 from rfl] at a1
  rw [show (7 - ((0 : Nat) : Int)) = 7 from rfl] at lp2
  rw [show ((0 : Nat) : Int) = 0 from rfl] at lp0
  unfold M51
  rw [evF_run _ _ rfl]
  unfold mf51
  generalize bytesA (padT s) = PS at *
  generalize (s.length : Int) = N at *
  simp [go51x0 lp0, a1, go51x1 lp1, go51x2 lp2, pack, q1, q2, -evBin, -frz]

noncomputable def M63 : PModel := fun args => evP (envOf GD []) 10 mf63 1 args
theorem spec63 : PureSpec Tryd.prog GD 63 M63 := PureSpec.of_ev (E := envOf GD []) (envOf_sound lookM_nil) rfl at63 comp63 1 fun _ _ h => ⟨10, h⟩
theorem M63_eq (x : W32) (n : Nat) (hn : n ≤ 32) : M63 [wA x, .int .i64 (n : Int)] = some (wA (rotr x n)) := by
  have c4 := shl_w x .i64 (32 - n) (by omega)
  have c5 := shr_w x .i64 n (by omega)
  have c6 := bor_w (x >>> n) (x <<< (32 - n))
  have s0 := Dsub_nat 32 n hn (by omega)
  rw [show ((32 : Nat) : Int) = 32 from rfl] at s0
  have fz : ∀ A : Arena, frz A 1 (wA (rotr x n)) = wA (rotr x n) := fun _ => rfl
  have sc : scalarB 4 (wA (rotr x n)) = true := rfl
  change _ = some (wA (rotr x n)) at c6
  unfold M63
  rw [evP_run _ _ rfl]
  generalize wA (rotr x n) = R at *
  generalize wA (x >>> n) = X1 at *
  generalize wA (x <<< (32 - n)) = X2 at *
  generalize wA x = X at *
  generalize ((32 - n : Nat) : Int) = N2 at *
  generalize (n : Int) = N at *
  simp [mf63, c4, c5, c6, s0, fz, sc, -evBin, -frz]
noncomputable def M64 : PModel := fun args => evF (envOf GD []) 10 mf64 4 args
theorem spec64 : PureSpecF Tryd.prog GD 64 M64 := PureSpecF.of_ev (E := envOf GD []) (envOf_sound lookM_nil) rfl at64 comp64 4 fun _ _ h => ⟨10, h⟩
set_option maxRecDepth 100000 in
theorem M64_eq : M64 [] = some (.fs 1 (kW.map wA)) := by
  rfl
end Go.Proofs.YtgbnngmpaefbcaaDoor
/-
  Digest: the reference's block (52): its four loops.
-/
namespace Go.Proofs.YtgbnngmpaefbcaaDoor
open Go

theorem fs_idx_w {l : List W32} {i : Nat} (h : i < l.length) (A : Arena) (k : IntKind) : evIndexSl 1 A (.fs 1 (l.map wA)) (.int k (i : Int)) = some (.fp [wA (l.getD i 0)]) := by
  refine idx_fs ?_ rfl rfl
  rw [List.getElem?_map, List.getElem?_eq_getElem h, List.getD_eq_getElem?_getD, List.getElem?_eq_getElem h]; rfl
theorem row_idx_w {A : Arena} {id : Nat} {l : List W32} {n i : Nat} (h : A[id]? = some (rowV l)) (hn : i < n) (k : IntKind) : evIndexSl 1 A (.sl id 0 n) (.int k (i : Int)) = some (.ptr id i 0) := by
  simp [evIndexSl, h, rowV, hn]
theorem row_load_w {A : Arena} {id : Nat} {l : List W32} {i : Nat} (h : A[id]? = some (rowV l)) (hi : i < l.length) : evLoad false 1 A (.ptr id i 0) = some (wA (l.getD i 0)) :=
  load_arr h (by rw [List.getElem?_map, List.getD_eq_getElem?_getD, List.getElem?_eq_getElem hi]; rfl) rfl
theorem buildF_w (x : W32) : evBuildF 1 [wA x] = some (.fs 1 [wA x]) := rfl
theorem app_wordN {A : Arena} {o : AV} {ws : List W32} (h : FullN A o (ws.map wA)) (x : W32) (hl : ws.length ≤ 1000) :
    ∃ B, evAppendN 1 4 A o (.fs 1 [wA x]) = some (.sl A.length 0 (ws ++ [x]).length, B) ∧ B[A.length]? = some (rowV (ws ++ [x])) ∧ (∀ id, id < A.length → (∀ n, o ≠ .sl id 0 n) → B[id]? = A[id]?) := by
  obtain ⟨B, h1, h2, h3, h4⟩ := appN_full (ys := [wA x]) (bytes := 4) h.full (by simp) (by omega) (by simp; omega)
  refine ⟨B, ?_, ?_, h4⟩
  · rw [h1]; simp
  · rw [h3]; simp [rowV]
theorem rowV_full {A : Arena} {id : Nat} {l : List W32} (h : A[id]? = some (rowV l)) (h0 : l ≠ []) : FullN A (.sl id 0 l.length) (l.map wA) := .inr ⟨id, by simp, by simpa using h0, h⟩

set_option maxRecDepth 100000 in
set_option maxHeartbeats 4000000 in
theorem round52x0 (E : Env) (fuel : Nat) {b : List UInt8} (hb : b.length = 64) {i : Nat} (hi : i < 16) {A : Arena} {o v0 : AV} (hF : FullN A o ((w0 b i).map wA)) :
    ∃ B, run E fuel [.code lp52x0] (st52x0 v0 (.fs 1 (bytesA b)) o (.int .i64 (i : Int))) A =
      some (.normal (st52x0 v0 (.fs 1 (bytesA b)) (.sl A.length 0 (w0 b (i + 1)).length) (.int .i64 ((i + 1 : Nat) : Int))) B) ∧ B[A.length]? = some (rowV (w0 b (i + 1))) := by
  have c0 := Dlt_nat i 16 .i64
  rw [decide_eq_true hi] at c0
  have m0 := Dmul_nat 4 i (by omega)
  have p0 := Dadd_nat i 1 (by omega)
  have p1 := Dadd_nat (4 * i) 1 (by omega)
  have p2 := Dadd_nat (4 * i) 2 (by omega)
  have p3 := Dadd_nat (4 * i) 3 (by omega)
  have x0 := fun A => bytes_idx (b := b) (i := 4 * i) (by omega) (A := A) (k := .i64)
  have x1 := fun A => bytes_idx (b := b) (i := 4 * i + 1) (by omega) (A := A) (k := .i64)
  have x2 := fun A => bytes_idx (b := b) (i := 4 * i + 2) (by omega) (A := A) (k := .i64)
  have x3 := fun A => bytes_idx (b := b) (i := 4 * i + 3) (by omega) (A := A) (k := .i64)
  have k0 := conv_w (b.getD (4 * i) 0); have k1 := conv_w (b.getD (4 * i + 1) 0); have k2 := conv_w (b.getD (4 * i + 2) 0); have k3 := conv_w (b.getD (4 * i + 3) 0)
  have s0 : evBin .shl (wA (bW b (4 * i))) (.int .u64 24) = some (wA (bW b (4 * i) <<< 24)) := shl_w _ .u64 24 (by omega)
  have s1 : evBin .shl (wA (bW b (4 * i + 1))) (.int .u64 16) = some (wA (bW b (4 * i + 1) <<< 16)) := shl_w _ .u64 16 (by omega)
  have s2 : evBin .shl (wA (bW b (4 * i + 2))) (.int .u64 8) = some (wA (bW b (4 * i + 2) <<< 8)) := shl_w _ .u64 8 (by omega)
  have o0 := bor_w (bW b (4 * i) <<< 24) (bW b (4 * i + 1) <<< 16)
  have o1 := bor_w (bW b (4 * i) <<< 24 ||| bW b (4 * i + 1) <<< 16) (bW b (4 * i + 2) <<< 8)
  have o2 := bor_w (bW b (4 * i) <<< 24 ||| bW b (4 * i + 1) <<< 16 ||| bW b (4 * i + 2) <<< 8) (bW b (4 * i + 3))
  change _ = some (wA (be32 b i)) at o2
  have hw := w0_len b i
  obtain ⟨B, ap, hB, _⟩ := app_wordN hF (be32 b i) (by omega)
  rw [show w0 b i ++ [be32 b i] = w0 b (i + 1) by simp [w0, List.range_succ]] at ap hB
  refine ⟨B, ?_, hB⟩
  rw [show ((4 : Nat) : Int) = 4 from rfl] at m0
  rw [show ((1 : Nat) : Int) = 1 from rfl] at p0 p1
  rw [show ((2 : Nat) : Int) = 2 from rfl] at p2
  rw [show ((3 : Nat) : Int) = 3 from rfl] at p3
  rw [show ((16 : Nat) : Int) = 16 from rfl] at c0
  unfold bW at s0 s1 s2 o0 o1 o2
  generalize (BitVec.ofNat 32 (b.getD (4 * i) 0).toNat : W32) = X0 at *
  generalize (BitVec.ofNat 32 (b.getD (4 * i + 1) 0).toNat : W32) = X1 at *
  generalize (BitVec.ofNat 32 (b.getD (4 * i + 2) 0).toNat : W32) = X2 at *
  generalize (BitVec.ofNat 32 (b.getD (4 * i + 3) 0).toNat : W32) = X3 at *
  generalize be32 b i = R at *
  generalize X0 <<< 24 = Y0 at *
  generalize X1 <<< 16 = Y1 at *
  generalize X2 <<< 8 = Y2 at *
  generalize Y0 ||| Y1 = Z1 at *
  generalize Z1 ||| Y2 = Z2 at *
  generalize ((b.getD (4 * i) 0).toNat : Int) = N0 at *
  generalize ((b.getD (4 * i + 1) 0).toNat : Int) = N1 at *
  generalize ((b.getD (4 * i + 2) 0).toNat : Int) = N2 at *
  generalize ((b.getD (4 * i + 3) 0).toNat : Int) = N3 at *
  generalize ((4 * i : Nat) : Int) = J0 at *
  generalize ((4 * i + 1 : Nat) : Int) = J1 at *
  generalize ((4 * i + 2 : Nat) : Int) = J2 at *
  generalize ((4 * i + 3 : Nat) : Int) = J3 at *
  generalize ((i + 1 : Nat) : Int) = I1 at *
  generalize (i : Int) = I0 at *
  generalize w0 b (i + 1) = RR at *
  generalize bytesA b = BB at *
  generalize AV.sl A.length 0 RR.length = O1 at *
  simp [lp52x0, c0, m0, p0, p1, p2, p3, x0, x1, x2, x3, k0, k1, k2, k3, s0, s1, s2, o0, o1, o2, ap, load_fp1, buildF_w, -evBuildF, -evBin, -evIndexSl, -evLoad, -evStore, -evConvInt]
theorem loop52x0 (E : Env) (fuel : Nat) {b : List UInt8} (hb : b.length = 64) {v0 : AV} : ∀ (c i : Nat) (A : Arena) (o : AV) (m : Nat), i + c = 16 → FullN A o ((w0 b i).map wA) → c < m →
    ∃ id B, iter (evC E fuel lp52x0) mask52x0 m (st52x0 v0 (.fs 1 (bytesA b)) o (.int .i64 (i : Int))) A = some (.exit 0 ((st52x0 v0 (.fs 1 (bytesA b)) (.sl id 0 16) (.int .i64 16)).set 17 (.bool false)) B) ∧ B[id]? = some (rowV (w0 b 16)) := by
  intro c
  induction c with
  | zero =>
    intro i A o m hi hA hm
    obtain ⟨m, rfl⟩ : ∃ j, m = j + 1 := ⟨m - 1, by omega⟩
    obtain rfl : i = 16 := by omega
    have hlen := w0_len b 16
    rcases hA with ⟨_, h⟩ | ⟨id, rfl, _, h⟩
    · have := congrArg List.length h
      simp [hlen] at this
    · refine ⟨id, A, ?_, h⟩
      rw [iter_succ, cl52x0]
      rw [List.length_map, hlen]
      simp [lp52x0]
  | succ c ih =>
    intro i A o m hi hA hm
    obtain ⟨m, rfl⟩ : ∃ j, m = j + 1 := ⟨m - 1, by omega⟩
    obtain ⟨B1, r1, hB1⟩ := round52x0 E fuel hb (by omega) (v0 := v0) hA
    obtain ⟨id, B, r2, hB⟩ := ih (i + 1) B1 _ m (by omega) (rowV_full hB1 (by intro h; have := congrArg List.length h; simp [w0_len] at this)) (by omega)
    refine ⟨id, B, ?_, hB⟩
    rw [iter_succ, cl52x0, r1]
    exact r2

noncomputable def fs52 : List (FuncId × HModel) := [(63, pureH 4 M63), (64, pureFH 4 M64)]
@[simp] theorem fs52_63 : lookM fs52 63 = some (pureH 4 M63) := rfl
@[simp] theorem fs52_64 : lookM fs52 64 = some (pureFH 4 M64) := rfl
theorem sound52 : ∀ f M, lookM fs52 f = some M → FnSpecY Tryd.prog GD f M := lookM_cons (FnSpecY.of_pure spec63 4) (lookM_cons (FnSpecY.of_pureF spec64 4) lookM_nil)
set_option maxRecDepth 100000 in
set_option maxHeartbeats 4000000 in
theorem round52x1 (fuel : Nat) {l : List W32} (h1 : 16 ≤ l.length) (h2 : l.length < 64) {A : Arena} {id : Nat} {v0 : AV} (hA : A[id]? = some (rowV l)) :
    ∃ B, run (envOf GD fs52) fuel [.code lp52x1] (st52x1 v0 (.sl id 0 l.length) (.int .i64 (l.length : Int))) A =
      some (.normal (st52x1 v0 (.sl A.length 0 (l ++ [wnext l]).length) (.int .i64 ((l.length + 1 : Nat) : Int))) B) ∧ B[A.length]? = some (rowV (l ++ [wnext l])) := by
  have c0 := Dlt_nat l.length 64 .i64
  rw [decide_eq_true h2] at c0
  have p0 := Dadd_nat l.length 1 (by omega)
  have q15 := Dsub_nat l.length 15 (by omega) (by omega)
  have q2 := Dsub_nat l.length 2 (by omega) (by omega)
  have q16 := Dsub_nat l.length 16 (by omega) (by omega)
  have q7 := Dsub_nat l.length 7 (by omega) (by omega)
  have i15 := fun k => row_idx_w (n := l.length) (i := l.length - 15) hA (by omega) k
  have i2 := fun k => row_idx_w (n := l.length) (i := l.length - 2) hA (by omega) k
  have i16 := fun k => row_idx_w (n := l.length) (i := l.length - 16) hA (by omega) k
  have i7 := fun k => row_idx_w (n := l.length) (i := l.length - 7) hA (by omega) k
  have l15 := row_load_w hA (i := l.length - 15) (by omega)
  have l2 := row_load_w hA (i := l.length - 2) (by omega)
  have l16 := row_load_w hA (i := l.length - 16) (by omega)
  have l7 := row_load_w hA (i := l.length - 7) (by omega)
  obtain ⟨B, ap, hB, _⟩ := app_wordN (rowV_full hA (by intro h; rw [h] at h1; simp at h1)) (wnext l) (by omega)
  refine ⟨B, ?_, hB⟩
  have hn : wnext l = l.getD (l.length - 16) 0 + (rotr (l.getD (l.length - 15) 0) 7 ^^^ rotr (l.getD (l.length - 15) 0) 18 ^^^ l.getD (l.length - 15) 0 >>> 3) + l.getD (l.length - 7) 0 + (rotr (l.getD (l.length - 2) 0) 17 ^^^ rotr (l.getD (l.length - 2) 0) 19 ^^^ l.getD (l.length - 2) 0 >>> 10) := by
    simp [wnext, mixT]
  have m7 : M63 [wA (l.getD (l.length - 15) 0), .int .i64 7] = _ := M63_eq (l.getD (l.length - 15) 0) 7 (by omega)
  have m18 : M63 [wA (l.getD (l.length - 15) 0), .int .i64 18] = _ := M63_eq (l.getD (l.length - 15) 0) 18 (by omega)
  have m17 : M63 [wA (l.getD (l.length - 2) 0), .int .i64 17] = _ := M63_eq (l.getD (l.length - 2) 0) 17 (by omega)
  have m19 : M63 [wA (l.getD (l.length - 2) 0), .int .i64 19] = _ := M63_eq (l.getD (l.length - 2) 0) 19 (by omega)
  have s1 : evBin .shr (wA (l.getD (l.length - 15) 0)) (.int .u64 3) = some (wA (l.getD (l.length - 15) 0 >>> 3)) := shr_w _ .u64 3 (by omega)
  have s2 : evBin .shr (wA (l.getD (l.length - 2) 0)) (.int .u64 10) = some (wA (l.getD (l.length - 2) 0 >>> 10)) := shr_w _ .u64 10 (by omega)
  have bx := bxor_w
  have aw := add_w
  have fw : ∀ (A : Arena) (n : Nat) (x : W32), frz A n (wA x) = wA x := fun A n x => by cases n <;> rfl
  have sw : ∀ x : W32, scalarB 4 (wA x) = true := fun _ => rfl
  have fi := frz_i
  rw [show ((1 : Nat) : Int) = 1 from rfl] at p0
  rw [show ((15 : Nat) : Int) = 15 from rfl] at q15
  rw [show ((2 : Nat) : Int) = 2 from rfl] at q2
  rw [show ((16 : Nat) : Int) = 16 from rfl] at q16
  rw [show ((7 : Nat) : Int) = 7 from rfl] at q7
  rw [show ((64 : Nat) : Int) = 64 from rfl] at c0
  clear hA hB
  generalize wnext l = R at *
  generalize AV.sl A.length 0 (l ++ [R]).length = O1 at *
  generalize l.getD (l.length - 15) 0 = X at *
  generalize l.getD (l.length - 2) 0 = Y at *
  generalize l.getD (l.length - 16) 0 = U at *
  generalize l.getD (l.length - 7) 0 = V at *
  generalize rotr X 7 = R7 at *
  generalize rotr X 18 = R18 at *
  generalize rotr Y 17 = R17 at *
  generalize rotr Y 19 = R19 at *
  generalize X >>> 3 = SX at *
  generalize Y >>> 10 = SY at *
  subst hn
  generalize ((l.length - 15 : Nat) : Int) = J15 at *
  generalize ((l.length - 2 : Nat) : Int) = J2 at *
  generalize ((l.length - 16 : Nat) : Int) = J16 at *
  generalize ((l.length - 7 : Nat) : Int) = J7 at *
  generalize ((l.length + 1 : Nat) : Int) = I1 at *
  generalize l.length - 15 = N15 at *
  generalize l.length - 2 = N2 at *
  generalize l.length - 16 = N16 at *
  generalize l.length - 7 = N7 at *
  generalize (l.length : Int) = I0 at *
  generalize l.length = N0 at *
  generalize AV.sl id 0 N0 = O0 at *
  simp [lp52x1, c0, p0, q15, q2, q16, q7, i15, i2, i16, i7, l15, l2, l16, l7, ap, m7, m18, m17, m19, s1, s2, bx, aw, fw, sw, fi, buildF_w, -evBuildF, -evBin, -evIndexSl, -evLoad, -evStore, -evConvInt, -frz]
theorem loop52x1 (fuel : Nat) {v0 : AV} : ∀ (c : Nat) (l : List W32) (A : Arena) (id : Nat) (m : Nat), 16 ≤ l.length → l.length + c = 64 → A[id]? = some (rowV l) → c < m →
    ∃ id' B, iter (evC (envOf GD fs52) fuel lp52x1) mask52x1 m (st52x1 v0 (.sl id 0 l.length) (.int .i64 (l.length : Int))) A = some (.exit 2 ((st52x1 v0 (.sl id' 0 64) (.int .i64 64)).set 18 (.bool false)) B) ∧ B[id']? = some (rowV (wext c l)) := by
  intro c
  induction c with
  | zero =>
    intro l A id m h1 h2 hA hm
    obtain ⟨m, rfl⟩ : ∃ j, m = j + 1 := ⟨m - 1, by omega⟩
    have h64 : l.length = 64 := by omega
    refine ⟨id, A, ?_, hA⟩
    rw [iter_succ, cl52x1, h64]
    simp [lp52x1]
  | succ c ih =>
    intro l A id m h1 h2 hA hm
    obtain ⟨m, rfl⟩ : ∃ j, m = j + 1 := ⟨m - 1, by omega⟩
    obtain ⟨B1, r1, hB1⟩ := round52x1 fuel h1 (by omega) (v0 := v0) hA
    obtain ⟨id', B, r2, hB⟩ := ih (l ++ [wnext l]) B1 _ m (by simp; omega) (by simp; omega) hB1 (by omega)
    refine ⟨id', B, ?_, hB⟩
    rw [iter_succ, cl52x1, r1]
    simp only [List.length_append, List.length_cons, List.length_nil, Nat.zero_add] at r2 ⊢
    exact r2
end Go.Proofs.YtgbnngmpaefbcaaDoor
/-
  Digest: the reference's block (52), as a whole.
-/
namespace Go.Proofs.YtgbnngmpaefbcaaDoor
open Go

theorem buildSl_w8 (x0 x1 x2 x3 x4 x5 x6 x7 : W32) (A : Arena) : evBuildSlice 1 [wA x0, wA x1, wA x2, wA x3, wA x4, wA x5, wA x6, wA x7] A = some (.sl A.length 0 8, A ++ [rowV [x0, x1, x2, x3, x4, x5, x6, x7]]) := rfl
set_option maxRecDepth 100000 in
set_option maxHeartbeats 4000000 in
theorem round52x2 (fuel : Nat) {ws v : List W32} (hw : ws.length = 64) (hv : v.length = 8) {i : Nat} (hi : i < 64) {A : Arena} {w r : Nat} {v0 : AV} (hW : A[w]? = some (rowV ws)) (hV : A[r]? = some (rowV v)) :
    run (envOf GD fs52) fuel [.code lp52x2] (st52x2 v0 (.sl w 0 64) (.fs 1 (kW.map wA)) (.sl r 0 8) (.int .i64 (i : Int))) A =
      some (.normal (st52x2 v0 (.sl w 0 64) (.fs 1 (kW.map wA)) (.sl A.length 0 8) (.int .i64 ((i + 1 : Nat) : Int))) (A ++ [rowV (rnd v (kW.getD i 0) (ws.getD i 0))])) := by
  obtain ⟨a, b, c, d, e, f, g, h, rfl⟩ := len8 hv
  have c0 := Dlt_nat i 64 .i64
  rw [decide_eq_true hi] at c0
  have p0 := Dadd_nat i 1 (by omega)
  have iv := fun A => fs_idx_w (l := kW) (i := i) (by rw [kW_len]; exact hi) A .i64
  have iw := row_idx_w hW (n := 64) hi .i64
  have lw := row_load_w hW (i := i) (by omega)
  have x0 : evIndexSl 1 A (.sl r 0 8) (.int .i64 0) = some (.ptr r 0 0) := row_idx_w (i := 0) hV (by omega) .i64
  have x1 : evIndexSl 1 A (.sl r 0 8) (.int .i64 1) = some (.ptr r 1 0) := row_idx_w (i := 1) hV (by omega) .i64
  have x2 : evIndexSl 1 A (.sl r 0 8) (.int .i64 2) = some (.ptr r 2 0) := row_idx_w (i := 2) hV (by omega) .i64
  have x3 : evIndexSl 1 A (.sl r 0 8) (.int .i64 3) = some (.ptr r 3 0) := row_idx_w (i := 3) hV (by omega) .i64
  have x4 : evIndexSl 1 A (.sl r 0 8) (.int .i64 4) = some (.ptr r 4 0) := row_idx_w (i := 4) hV (by omega) .i64
  have x5 : evIndexSl 1 A (.sl r 0 8) (.int .i64 5) = some (.ptr r 5 0) := row_idx_w (i := 5) hV (by omega) .i64
  have x6 : evIndexSl 1 A (.sl r 0 8) (.int .i64 6) = some (.ptr r 6 0) := row_idx_w (i := 6) hV (by omega) .i64
  have x7 : evIndexSl 1 A (.sl r 0 8) (.int .i64 7) = some (.ptr r 7 0) := row_idx_w (i := 7) hV (by omega) .i64
  have l0 : evLoad false 1 A (.ptr r 0 0) = some (wA a) := load_arr hV rfl rfl
  have l1 : evLoad false 1 A (.ptr r 1 0) = some (wA b) := load_arr hV rfl rfl
  have l2 : evLoad false 1 A (.ptr r 2 0) = some (wA c) := load_arr hV rfl rfl
  have l3 : evLoad false 1 A (.ptr r 3 0) = some (wA d) := load_arr hV rfl rfl
  have l4 : evLoad false 1 A (.ptr r 4 0) = some (wA e) := load_arr hV rfl rfl
  have l5 : evLoad false 1 A (.ptr r 5 0) = some (wA f) := load_arr hV rfl rfl
  have l6 : evLoad false 1 A (.ptr r 6 0) = some (wA g) := load_arr hV rfl rfl
  have l7 : evLoad false 1 A (.ptr r 7 0) = some (wA h) := load_arr hV rfl rfl
  have e6 : M63 [wA e, .int .i64 6] = _ := M63_eq e 6 (by omega)
  have e11 : M63 [wA e, .int .i64 11] = _ := M63_eq e 11 (by omega)
  have e25 : M63 [wA e, .int .i64 25] = _ := M63_eq e 25 (by omega)
  have a2 : M63 [wA a, .int .i64 2] = _ := M63_eq a 2 (by omega)
  have a13 : M63 [wA a, .int .i64 13] = _ := M63_eq a 13 (by omega)
  have a22 : M63 [wA a, .int .i64 22] = _ := M63_eq a 22 (by omega)
  obtain ⟨t, ht⟩ : ∃ t, t = h + (rotr e 6 ^^^ rotr e 11 ^^^ rotr e 25) + (e &&& f ^^^ ~~~e &&& g) + kW.getD i 0 + ws.getD i 0 := ⟨_, rfl⟩
  obtain ⟨u, hu⟩ : ∃ u, u = (rotr a 2 ^^^ rotr a 13 ^^^ rotr a 22) + (a &&& b ^^^ a &&& c ^^^ b &&& c) := ⟨_, rfl⟩
  have hr : rnd [a, b, c, d, e, f, g, h] (kW.getD i 0) (ws.getD i 0) = [t + u, a, b, c, d + t, e, f, g] := by
    rw [ht, hu]; simp [rnd, mixT]
  have bs := buildSl_w8 (t + u) a b c (d + t) e f g A
  rw [hr]
  have ba := band_w; have bx := bxor_w; have nw := not_w; have aw := add_w
  have fw : ∀ (A : Arena) (n : Nat) (x : W32), frz A n (wA x) = wA x := fun A n x => by cases n <;> rfl
  have sw : ∀ x : W32, scalarB 4 (wA x) = true := fun _ => rfl
  have fi := frz_i
  rw [show ((1 : Nat) : Int) = 1 from rfl] at p0
  rw [show ((64 : Nat) : Int) = 64 from rfl] at c0
  generalize kW.getD i 0 = KK at *
  generalize ws.getD i 0 = WW at *
  generalize kW.map wA = KS at *
  generalize rotr e 6 = E6 at *
  generalize rotr e 11 = E11 at *
  generalize rotr e 25 = E25 at *
  generalize rotr a 2 = A2 at *
  generalize rotr a 13 = A13 at *
  generalize rotr a 22 = A22 at *
  have t0a := bx E6 E11
  have t0b := bx (E6 ^^^ E11) E25
  have t1 := aw h (E6 ^^^ E11 ^^^ E25)
  have t2 := ba e f
  have t3 := ba (~~~e) g
  have t4 := bx (e &&& f) (~~~e &&& g)
  have t5 := aw (h + (E6 ^^^ E11 ^^^ E25)) (e &&& f ^^^ ~~~e &&& g)
  have t6 := aw (h + (E6 ^^^ E11 ^^^ E25) + (e &&& f ^^^ ~~~e &&& g)) KK
  have t7 := aw (h + (E6 ^^^ E11 ^^^ E25) + (e &&& f ^^^ ~~~e &&& g) + KK) WW
  rw [← ht] at t7
  have u0 := bx A2 A13
  have u1 := bx (A2 ^^^ A13) A22
  have u2 := ba a b
  have u3 := ba a c
  have u4 := ba b c
  have u5 := bx (a &&& b) (a &&& c)
  have u6 := bx (a &&& b ^^^ a &&& c) (b &&& c)
  have u7 := aw (A2 ^^^ A13 ^^^ A22) (a &&& b ^^^ a &&& c ^^^ b &&& c)
  rw [← hu] at u7
  have tu := aw t u
  have dt := aw d t
  have ne := nw e
  clear ba bx nw aw hr ht hu hW hV hw hv hi
  generalize ((i + 1 : Nat) : Int) = I1 at *
  generalize (i : Int) = I0 at *
  generalize A ++ [rowV [t + u, a, b, c, d + t, e, f, g]] = A2 at *
  generalize AV.sl A.length 0 8 = S1 at *
  generalize AV.sl r 0 8 = S0 at *
  generalize AV.sl w 0 64 = SW at *
  generalize wA (t + u) = TU at *
  generalize wA (d + t) = DT at *
  simp [lp52x2, c0, p0, iv, iw, lw, x0, x1, x2, x3, x4, x5, x6, x7, l0, l1, l2, l3, l4, l5, l6, l7, e6, e11, e25, a2, a13, a22, fw, sw, fi, load_fp1, bs, t0a, t0b, t1, t2, t3, t4, t5, t6, t7, u0, u1, u2, u3, u4, u5, u6, u7, tu, dt, ne, -evBin, -evUn, -evIndexSl, -evLoad, -evStore, -evConvInt, -evBuildSlice, -frz]
theorem loop52x2 (fuel : Nat) {ws h : List W32} (hw : ws.length = 64) (hh : h.length = 8) {w : Nat} {v0 : AV} : ∀ (c i : Nat) (A : Arena) (r : Nat) (m : Nat), i + c = 64 → A[w]? = some (rowV ws) → A[r]? = some (rowV (rnds ws h i)) → c < m →
    ∃ r' B, iter (evC (envOf GD fs52) fuel lp52x2) mask52x2 m (st52x2 v0 (.sl w 0 64) (.fs 1 (kW.map wA)) (.sl r 0 8) (.int .i64 (i : Int))) A = some (.exit 4 ((st52x2 v0 (.sl w 0 64) (.fs 1 (kW.map wA)) (.sl r' 0 8) (.int .i64 64)).set 19 (.bool false)) B) ∧ B[r']? = some (rowV (rnds ws h 64)) := by
  intro c
  induction c with
  | zero =>
    intro i A r m hi hW hV hm
    obtain ⟨m, rfl⟩ : ∃ j, m = j + 1 := ⟨m - 1, by omega⟩
    obtain rfl : i = 64 := by omega
    refine ⟨r, A, ?_, hV⟩
    rw [iter_succ, cl52x2]
    simp [lp52x2]
  | succ c ih =>
    intro i A r m hi hW hV hm
    obtain ⟨m, rfl⟩ : ∃ j, m = j + 1 := ⟨m - 1, by omega⟩
    have r1 := round52x2 fuel hw (rnds_len hh i) (i := i) (by omega) (v0 := v0) hW hV
    change _ = some (Out.normal _ (A ++ [rowV (rnds ws h (i + 1))])) at r1
    obtain ⟨r', B, r2, hB⟩ := ih (i + 1) (A ++ [rowV (rnds ws h (i + 1))]) A.length m (by omega) (by rw [List.getElem?_append_left (List.getElem?_eq_some_iff.1 hW).1]; exact hW) (by simp) (by omega)
    refine ⟨r', B, ?_, hB⟩
    rw [iter_succ, cl52x2, r1]
    exact r2
theorem zip_take {h v : List W32} (hh : h.length = 8) (hv : v.length = 8) {i : Nat} (hi : i < 8) : (List.zipWith (· + ·) h v).take i ++ [h.getD i 0 + v.getD i 0] = (List.zipWith (· + ·) h v).take (i + 1) := by
  obtain ⟨a, b, c, d, e, f, g, k, rfl⟩ := len8 hh
  obtain ⟨a', b', c', d', e', f', g', k', rfl⟩ := len8 hv
  have : i = 0 ∨ i = 1 ∨ i = 2 ∨ i = 3 ∨ i = 4 ∨ i = 5 ∨ i = 6 ∨ i = 7 := by omega
  rcases this with rfl | rfl | rfl | rfl | rfl | rfl | rfl | rfl <;> rfl
set_option maxRecDepth 100000 in
set_option maxHeartbeats 4000000 in
theorem loop52x3 (E : Env) (fuel : Nat) {h v : List W32} (hh : h.length = 8) (hv : v.length = 8) {r : Nat} : ∀ (c i : Nat) (A : Arena) (o : AV) (m : Nat), i + c = 8 → A[r]? = some (rowV v) → (∀ n, o ≠ .sl r 0 n) → FullN A o (((List.zipWith (· + ·) h v).take i).map wA) → c < m →
    ∃ o' B, iter (evC E fuel lp52x3) mask52x3 m (st52x3 (.fs 1 (h.map wA)) (.sl r 0 8) o (.int .i64 (i : Int))) A = some (.exit 6 ((st52x3 (.fs 1 (h.map wA)) (.sl r 0 8) o' (.int .i64 8)).set 20 (.bool false)) B) ∧ FullN B o' ((List.zipWith (· + ·) h v).map wA) := by
  intro c
  induction c with
  | zero =>
    intro i A o m hi hV hne hF hm
    obtain ⟨m, rfl⟩ : ∃ j, m = j + 1 := ⟨m - 1, by omega⟩
    obtain rfl : i = 8 := by omega
    rw [List.take_of_length_le (by simp [hh, hv])] at hF
    refine ⟨o, A, ?_, hF⟩
    rw [iter_succ, cl52x3]
    simp [lp52x3]
  | succ c ih =>
    intro i A o m hi hV hne hF hm
    obtain ⟨m, rfl⟩ : ∃ j, m = j + 1 := ⟨m - 1, by omega⟩
    have hr := (List.getElem?_eq_some_iff.1 hV).1
    obtain ⟨B1, ap, hB1, kB⟩ := app_wordN hF (h.getD i 0 + v.getD i 0) (by simp [hh, hv]; omega)
    rw [zip_take hh hv (by omega)] at ap hB1
    have h2 := rowV_full hB1 (by intro e; have := congrArg List.length e; simp [hh, hv] at this)
    obtain ⟨o', B, r2, hB⟩ := ih (i + 1) B1 _ m (by omega) ((kB r hr hne).trans hV) (by intro n e; injection e with e; omega) h2 (by omega)
    refine ⟨o', B, ?_, hB⟩
    have c0 := Dlt_nat i 8 .i64
    rw [decide_eq_true (by omega)] at c0
    have p0 := Dadd_nat i 1 (by omega)
    have ih' := fun A => fs_idx_w (l := h) (i := i) (by omega) A .i64
    have iv := row_idx_w hV (n := 8) (i := i) (by omega) .i64
    have lv := row_load_w hV (i := i) (by omega)
    have aw := add_w (h.getD i 0) (v.getD i 0)
    have hrn : run E fuel [.code lp52x3] (st52x3 (.fs 1 (h.map wA)) (.sl r 0 8) o (.int .i64 (i : Int))) A = some (.normal (st52x3 (.fs 1 (h.map wA)) (.sl r 0 8) (.sl A.length 0 ((List.zipWith (· + ·) h v).take (i + 1)).length) (.int .i64 ((i + 1 : Nat) : Int))) B1) := by
      rw [show ((1 : Nat) : Int) = 1 from rfl] at p0
      rw [show ((8 : Nat) : Int) = 8 from rfl] at c0
      clear r2 hB ih kB hB1 h2 hF
      generalize AV.sl A.length 0 ((List.zipWith (· + ·) h v).take (i + 1)).length = O1 at *
      generalize h.getD i 0 = HH at *
      generalize v.getD i 0 = VV at *
      generalize HH + VV = HV at *
      generalize h.map wA = HA at *
      generalize ((i + 1 : Nat) : Int) = I1 at *
      generalize (i : Int) = I0 at *
      generalize AV.sl r 0 8 = SR at *
      simp [lp52x3, c0, p0, ih', iv, lv, aw, ap, load_fp1, buildF_w, -evBuildF, -evBin, -evIndexSl, -evLoad]
    rw [iter_succ, cl52x3, hrn]
    exact r2

noncomputable def M52 : PModel := fun args => evF (envOf GD fs52) 100 mf52 4 args
theorem spec52 : PureSpecF Tryd.prog GD 52 M52 := PureSpecF.of_ev (E := envOf GD fs52) (envOf_sound sound52) rfl at52 comp52 4 fun _ _ h => ⟨100, h⟩
set_option maxRecDepth 100000 in
set_option maxHeartbeats 4000000 in
theorem M52_eq {h : List W32} {b : List UInt8} (hh : h.length = 8) (hb : b.length = 64) : M52 [.fs 1 (h.map wA), .fs 1 (bytesA b)] = some (.fs 1 ((addT h b).map wA)) := by
  obtain ⟨w1, A1, lp0, hW1⟩ := loop52x0 (envOf GD fs52) 100 hb (v0 := .fs 1 (h.map wA)) 16 0 [] .nilS 100 rfl (.inl ⟨rfl, rfl⟩) (by omega)
  have hl := w0_len b 16
  obtain ⟨w2, A2, lp1, hW2⟩ := loop52x1 100 (v0 := .fs 1 (h.map wA)) 48 (w0 b 16) A1 w1 100 (by omega) (by omega) hW1 (by omega)
  change A2[w2]? = some (rowV (schedT b)) at hW2
  rw [hl] at lp1
  have hlt := (List.getElem?_eq_some_iff.1 hW2).1
  have ap : evAppendN 1 4 A2 .nilS (.fs 1 (h.map wA)) = some (.sl A2.length 0 8, A2 ++ [rowV h]) := by
    simp [evAppendN, srcElems, hh, rowV]
  obtain ⟨r, A3, lp2, hV⟩ := loop52x2 100 (sched_len b) hh (v0 := .fs 1 (h.map wA)) 64 0 (A2 ++ [rowV h]) A2.length 100 rfl (by rw [List.getElem?_append_left hlt]; exact hW2) (by simp [rnds]) (by omega)
  obtain ⟨o, A4, lp3, hF⟩ := loop52x3 (envOf GD fs52) 100 hh (rnds_len hh 64) 8 0 A3 .nilS 100 rfl hV (by intro n e; cases e) (.inl ⟨rfl, rfl⟩) (by omega)
  change FullN A4 o ((addT h b).map wA) at hF
  have hne : (addT h b).map wA ≠ [] := by
    intro e
    have := congrArg List.length e
    simp [addT_len hh] at this
  obtain ⟨q1, q2⟩ := hF.full.fin hne 3 (words_fin _)
  have m64 := M64_eq
  have fk : ∀ A : Arena, frz A 4 (.fs 1 (kW.map wA)) = .fs 1 (kW.map wA) := fun _ => rfl
  rw [show ((0 : Nat) : Int) = 0 from rfl] at lp0 lp2 lp3
  rw [show ((16 : Nat) : Int) = 16 from rfl] at lp1
  unfold M52
  rw [evF_run _ _ rfl]
  unfold mf52
  generalize (addT h b).map wA = R at *
  generalize h.map wA = HA at *
  generalize bytesA b = BA at *
  generalize kW.map wA = KA at *
  simp [go52x0 lp0, go52x1 lp1, m64, fk, ap, go52x2 lp2, go52x3 lp3, pack, q1, q2, -evBin, -frz]
end Go.Proofs.YtgbnngmpaefbcaaDoor
/-
  Digest: the reference's Sum (30), Leaf, Node and Chain (31, 32, 34).
-/
namespace Go.Proofs.YtgbnngmpaefbcaaDoor
open Go

noncomputable def fs30 : List (FuncId × HModel) := [(51, pureFH 4 M51), (52, pureFH 4 M52)]
@[simp] theorem fs30_51 : lookM fs30 51 = some (pureFH 4 M51) := rfl
@[simp] theorem fs30_52 : lookM fs30 52 = some (pureFH 4 M52) := rfl
theorem sound30 : ∀ f M, lookM fs30 f = some M → FnSpecY Tryd.prog GD f M := lookM_cons (FnSpecY.of_pureF spec51 4) (lookM_cons (FnSpecY.of_pureF spec52 4) lookM_nil)
theorem slice_bytes {P : List UInt8} {lo hi : Nat} (A : Arena) (h1 : lo ≤ hi) (h2 : hi ≤ P.length) : evSliceSl 1 A (some (.int .i64 (lo : Int))) (some (.int .i64 (hi : Int))) (.fs 1 (bytesA P)) = some (.fs 1 (bytesA ((P.drop lo).take (hi - lo)))) := by
  have h3 : hi ≤ (bytesA P).length := by rw [bytesA_len]; exact h2
  simp only [evSliceSl, if_true, evBounds, lo_nat, hi_nat .i64 h3, if_pos h1, Option.map_some]
  rw [bytesA, bytesA, List.map_take, List.map_drop]
set_option maxRecDepth 100000 in
set_option maxHeartbeats 4000000 in
theorem loop30x0 {P : List UInt8} {nb : Nat} (hP : P.length = 64 * nb) (hnb : nb ≤ 90) {A : Arena} : ∀ (c i : Nat) (hv : AV) (m : Nat), i + c = nb → frz A 4 hv = .fs 1 ((hsT P i).map wA) → c < m →
    ∃ hv', iter (evC (envOf GD fs30) 100 lp30x0) mask30x0 m (st30x0 hv (.fs 1 (bytesA P)) (.int .i64 ((64 * i : Nat) : Int))) A = some (.exit 0 ((st30x0 hv' (.fs 1 (bytesA P)) (.int .i64 ((64 * nb : Nat) : Int))).set 7 (.bool false)) A) ∧ (0 < c → hv' = .fs 1 ((hsT P nb).map wA)) := by
  have hl : evLenSl (.fs 1 (bytesA P)) = some (.int .i64 ((64 * nb : Nat) : Int)) := by simp only [evLenSl]; rw [bytesA_len, hP]
  intro c
  induction c with
  | zero =>
    intro i hv m hi hh hm
    obtain ⟨m, rfl⟩ : ∃ j, m = j + 1 := ⟨m - 1, by omega⟩
    obtain rfl : i = nb := by omega
    refine ⟨hv, ?_, fun h => absurd h (by omega)⟩
    have c0 := Dlt_nat (64 * i) (64 * i) .i64
    rw [decide_eq_false (by omega)] at c0
    rw [iter_succ, cl30x0]
    generalize ((64 * i : Nat) : Int) = N at *
    generalize bytesA P = BP at *
    simp [lp30x0, hl, c0, -evBin, -evLenSl]
  | succ c ih =>
    intro i hv m hi hh hm
    obtain ⟨m, rfl⟩ : ∃ j, m = j + 1 := ⟨m - 1, by omega⟩
    have c0 := Dlt_nat (64 * i) (64 * nb) .i64
    rw [decide_eq_true (by omega)] at c0
    have p0 := Dadd_nat (64 * i) 64 (by omega)
    have sl := fun A => slice_bytes (P := P) (lo := 64 * i) (hi := 64 * i + 64) A (by omega) (by omega)
    rw [show 64 * i + 64 - 64 * i = 64 by omega] at sl
    have m52 := M52_eq (h := hsT P i) (b := (P.drop (64 * i)).take 64) (hsT_len P i) (by simp; omega)
    change _ = some (AV.fs 1 ((hsT P (i + 1)).map wA)) at m52
    have fb : ∀ (A : Arena) (l : List UInt8), frz A 4 (.fs 1 (bytesA l)) = .fs 1 (bytesA l) := fun _ _ => rfl
    obtain ⟨hv', r2, hc⟩ := ih (i + 1) (.fs 1 ((hsT P (i + 1)).map wA)) m (by omega) rfl (by omega)
    refine ⟨hv', ?_, fun _ => ?_⟩
    · rw [show 64 * (i + 1) = 64 * i + 64 by omega] at r2
      rw [show ((64 : Nat) : Int) = 64 from rfl] at p0
      have hr : run (envOf GD fs30) 100 [.code lp30x0] (st30x0 hv (.fs 1 (bytesA P)) (.int .i64 ((64 * i : Nat) : Int))) A = some (.normal (st30x0 (.fs 1 ((hsT P (i + 1)).map wA)) (.fs 1 (bytesA P)) (.int .i64 ((64 * i + 64 : Nat) : Int))) A) := by
        clear r2 ih hc
        generalize (P.drop (64 * i)).take 64 = BL at *
        have fbl := fb A BL
        clear fb
        generalize (hsT P (i + 1)).map wA = H1 at *
        generalize (hsT P i).map wA = HI at *
        generalize ((64 * i + 64 : Nat) : Int) = I1 at *
        generalize ((64 * i : Nat) : Int) = I0 at *
        generalize ((64 * nb : Nat) : Int) = N at *
        generalize AV.fs 1 (bytesA P) = BP at *
        generalize AV.fs 1 (bytesA BL) = BB at *
        simp [lp30x0, hl, c0, p0, sl, m52, hh, fbl, -evBin, -evLenSl, -evSliceSl, -frz]
      rw [iter_succ, cl30x0, hr]
      exact r2
    · rcases Nat.eq_zero_or_pos c with h | h
      · subst h
        obtain rfl : nb = i + 1 := by omega
        obtain ⟨m, rfl⟩ : ∃ j, m = j + 1 := ⟨m - 1, by omega⟩
        have c1 := Dlt_nat (64 * (i + 1)) (64 * (i + 1)) .i64
        rw [decide_eq_false (by omega)] at c1
        rw [iter_succ, cl30x0] at r2
        generalize ((64 * (i + 1) : Nat) : Int) = N at *
        generalize (hsT P (i + 1)).map wA = H1 at *
        generalize bytesA P = BP at *
        simp [lp30x0, hl, c1, -evBin, -evLenSl] at r2
        exact r2.symm
      · exact hc h
theorem digT_take {h : List W32} {i : Nat} (hi : i < h.length) : digT (h.take i) ++ [byteW (h.getD i 0) 24, byteW (h.getD i 0) 16, byteW (h.getD i 0) 8, byteW (h.getD i 0) 0] = digT (h.take (i + 1)) := by
  rw [List.take_succ_eq_append_getElem hi, digT, digT, List.flatMap_append, List.getD_eq_getElem?_getD, List.getElem?_eq_getElem hi]; rfl
theorem digT_lenN (h : List W32) : (digT h).length = 4 * h.length := by
  induction h with
  | nil => rfl
  | cons x r ih => rw [digT] at ih; simp [digT, ih]; omega
set_option maxRecDepth 100000 in
set_option maxHeartbeats 4000000 in
theorem loop30x1 (E : Env) (fuel : Nat) {h : List W32} (hh : h.length = 8) : ∀ (c i : Nat) (A : Arena) (o : AV) (m : Nat), i + c = 8 → Full A o 1 (bytesA (digT (h.take i))) → c < m →
    ∃ o' A', iter (evC E fuel lp30x1) mask30x1 m (st30x1 (.fs 1 (h.map wA)) o (.int .i64 (i : Int))) A = some (.exit 2 ((st30x1 (.fs 1 (h.map wA)) o' (.int .i64 8)).set 8 (.bool false)) A') ∧ Full A' o' 1 (bytesA (digT h)) := by
  intro c
  induction c with
  | zero =>
    intro i A o m hi hF hm
    obtain ⟨m, rfl⟩ : ∃ j, m = j + 1 := ⟨m - 1, by omega⟩
    obtain rfl : i = 8 := by omega
    rw [List.take_of_length_le (by omega)] at hF
    refine ⟨o, A, ?_, hF⟩
    rw [iter_succ, cl30x1]
    simp [lp30x1]
  | succ c ih =>
    intro i A o m hi hF hm
    obtain ⟨m, rfl⟩ : ∃ j, m = j + 1 := ⟨m - 1, by omega⟩
    have hi8 : i < h.length := by omega
    obtain ⟨x, hx⟩ : ∃ x, x = h.getD i 0 := ⟨_, rfl⟩
    have hsrc : srcElems 1 A (.fs 1 [.int .u8 ((byteW x 24).toNat : Int), .int .u8 ((byteW x 16).toNat : Int), .int .u8 ((byteW x 8).toNat : Int), .int .u8 ((byteW x 0).toNat : Int)]) = some [.int .u8 ((byteW x 24).toNat : Int), .int .u8 ((byteW x 16).toNat : Int), .int .u8 ((byteW x 8).toNat : Int), .int .u8 ((byteW x 0).toNat : Int)] := rfl
    obtain ⟨o1, A1, a1, f1, _, _⟩ := append_full (bytes := 1) hF hsrc (by simp) (by omega) (by omega) (by rw [bytesA_len, digT_lenN, List.length_take]; simp; omega)
    have hcat : bytesA (digT (h.take i)) ++ [.int .u8 ((byteW x 24).toNat : Int), .int .u8 ((byteW x 16).toNat : Int), .int .u8 ((byteW x 8).toNat : Int), .int .u8 ((byteW x 0).toNat : Int)] = bytesA (digT (h.take (i + 1))) := by
      rw [← digT_take hi8, ← hx]; simp [bytesA]
    rw [hcat] at f1
    obtain ⟨o', A', r2, f2⟩ := ih (i + 1) A1 o1 m (by omega) f1 (by omega)
    refine ⟨o', A', ?_, f2⟩
    have c0 := Dlt_nat i 8 .i64
    rw [decide_eq_true (by omega)] at c0
    have p0 := Dadd_nat i 1 (by omega)
    have ih' := fun A => fs_idx_w (l := h) (i := i) (by omega) A .i64
    rw [← hx] at ih'
    have s24 : evBin .shr (wA x) (.int .u64 24) = some (wA (x >>> 24)) := shr_w x .u64 24 (by omega)
    have s16 : evBin .shr (wA x) (.int .u64 16) = some (wA (x >>> 16)) := shr_w x .u64 16 (by omega)
    have s8 : evBin .shr (wA x) (.int .u64 8) = some (wA (x >>> 8)) := shr_w x .u64 8 (by omega)
    have v24 : evConvInt .u8 (wA (x >>> 24)) = some (.int .u8 ((byteW x 24).toNat : Int)) := conv8_w _
    have v16 : evConvInt .u8 (wA (x >>> 16)) = some (.int .u8 ((byteW x 16).toNat : Int)) := conv8_w _
    have v8 : evConvInt .u8 (wA (x >>> 8)) = some (.int .u8 ((byteW x 8).toNat : Int)) := conv8_w _
    have v0 : evConvInt .u8 (wA x) = some (.int .u8 ((byteW x 0).toNat : Int)) := by
      have := conv8_w x
      rw [this, byteW, show x >>> 0 = x by simp]
    have hrn : run E fuel [.code lp30x1] (st30x1 (.fs 1 (h.map wA)) o (.int .i64 (i : Int))) A = some (.normal (st30x1 (.fs 1 (h.map wA)) o1 (.int .i64 ((i + 1 : Nat) : Int))) A1) := by
      rw [show ((1 : Nat) : Int) = 1 from rfl] at p0
      rw [show ((8 : Nat) : Int) = 8 from rfl] at c0
      clear r2 f2 ih f1 hcat hsrc hF
      generalize ((byteW x 24).toNat : Int) = B24 at *
      generalize ((byteW x 16).toNat : Int) = B16 at *
      generalize ((byteW x 8).toNat : Int) = B8 at *
      generalize ((byteW x 0).toNat : Int) = B0 at *
      generalize x >>> 24 = X24 at *
      generalize x >>> 16 = X16 at *
      generalize x >>> 8 = X8 at *
      generalize h.map wA = HA at *
      generalize ((i + 1 : Nat) : Int) = I1 at *
      generalize (i : Int) = I0 at *
      simp [lp30x1, c0, p0, ih', s24, s16, s8, v24, v16, v8, v0, a1, load_fp1, -evBin, -evIndexSl, -evLoad, -evConvInt]
    rw [iter_succ, cl30x1, hrn]
    exact r2

noncomputable def M30 : PModel := fun args => evP (envOf GD fs30) 100 mf30 1 args
theorem spec30 : PureSpec Tryd.prog GD 30 M30 := PureSpec.of_ev (E := envOf GD fs30) (envOf_sound sound30) rfl at30 comp30 1 fun _ _ h => ⟨100, h⟩
set_option maxRecDepth 100000 in
set_option maxHeartbeats 4000000 in
theorem M30_eq {s : List UInt8} (hs : s.length ≤ 2000) : M30 [.str s] = some (.str (sumT s)) := by
  obtain ⟨nb, hnb⟩ : ∃ nb, nb = (s.length + 72) / 64 := ⟨_, rfl⟩
  have hPl : (padT s).length = 64 * nb := by rw [hnb]; exact padT_len s
  have m51 := M51_eq hs
  have hf0 : frz [rowV H0] 4 (.sl 0 0 8) = .fs 1 ((hsT (padT s) 0).map wA) := rfl
  obtain ⟨hv, lp0, hhv⟩ := loop30x0 hPl (by omega) (A := [rowV H0]) nb 0 (.sl 0 0 8) 100 (by omega) hf0 (by omega)
  have hhv := hhv (by omega)
  subst hhv
  obtain ⟨o, A', lp1, hF⟩ := loop30x1 (envOf GD fs30) 100 (hsT_len (padT s) nb) 8 0 [rowV H0] .nilS 100 rfl (.inl ⟨rfl, rfl⟩) (by omega)
  have ts := toStr_full hF
  rw [show digT (hsT (padT s) nb) = sumT s by rw [hnb]; rfl] at ts
  have bs : evBuildSlice 1 [.int .u32 1779033703, .int .u32 3144134277, .int .u32 1013904242, .int .u32 2773480762, .int .u32 1359893119, .int .u32 2600822924, .int .u32 528734635, .int .u32 1541459225] [] = some (.sl 0 0 8, [rowV H0]) := rfl
  have fz := frz_s
  rw [show ((0 : Nat) : Int) = 0 from rfl] at lp1
  rw [show ((64 * 0 : Nat) : Int) = 0 from rfl] at lp0
  unfold M30
  rw [evP_run _ _ rfl]
  unfold mf30
  clear hF hf0
  generalize sumT s = S at *
  generalize (hsT (padT s) nb).map wA = HW at *
  generalize bytesA (padT s) = PB at *
  generalize ((64 * nb : Nat) : Int) = N at *
  generalize [rowV H0] = R0 at *
  simp [bs, m51, go30x0 lp0, go30x1 lp1, ts, fz, -evBuildSlice, -evBin, -frz]

noncomputable def fs31 : List (FuncId × HModel) := [(30, pureH 4 M30)]
@[simp] theorem fs31_30 : lookM fs31 30 = some (pureH 4 M30) := rfl
theorem sound31 : ∀ f M, lookM fs31 f = some M → FnSpecY Tryd.prog GD f M := lookM_cons (FnSpecY.of_pure spec30 4) lookM_nil
noncomputable def M31 : PModel := fun args => evP (envOf GD fs31) 10 mf31 1 args
theorem spec31 : PureSpec Tryd.prog GD 31 M31 := PureSpec.of_ev (E := envOf GD fs31) (envOf_sound sound31) rfl at31 comp31 1 fun _ _ h => ⟨10, h⟩
noncomputable def M32 : PModel := fun args => evP (envOf GD fs31) 10 mf32 1 args
theorem spec32 : PureSpec Tryd.prog GD 32 M32 := PureSpec.of_ev (E := envOf GD fs31) (envOf_sound sound31) rfl at32 comp32 1 fun _ _ h => ⟨10, h⟩
noncomputable def M34 : PModel := fun args => evP (envOf GD fs31) 10 mf34 1 args
theorem spec34 : PureSpec Tryd.prog GD 34 M34 := PureSpec.of_ev (E := envOf GD fs31) (envOf_sound sound31) rfl at34 comp34 1 fun _ _ h => ⟨10, h⟩
theorem M31_eq {s : List UInt8} (hs : s.length ≤ 1500) : M31 [.str s] = some (.str (leafT s)) := by
  have a1 := add_str (a := [0]) (b := s) (by simp; omega)
  have m := M30_eq (s := [0] ++ s) (by simp; omega)
  change _ = some (AV.str (leafT s)) at m
  have fz := frz_s
  have sc : ∀ s, scalarB 4 (.str s) = true := fun _ => rfl
  unfold M31
  rw [evP_run _ _ rfl]
  generalize leafT s = S at *
  generalize [0] ++ s = H1 at *
  simp [mf31, a1, m, fz, sc, -evBin, -frz]
theorem M32_eq {a b : List UInt8} (ha : a.length ≤ 900) (hb : b.length ≤ 900) : M32 [.str a, .str b] = some (.str (nodeT a b)) := by
  have a1 := add_str (a := [1]) (b := a) (by simp; omega)
  have a2 := add_str (a := [1] ++ a) (b := b) (by simp; omega)
  have m := M30_eq (s := [1] ++ a ++ b) (by simp; omega)
  change _ = some (AV.str (nodeT a b)) at m
  have fz := frz_s
  have sc : ∀ s, scalarB 4 (.str s) = true := fun _ => rfl
  unfold M32
  rw [evP_run _ _ rfl]
  generalize nodeT a b = S at *
  generalize [1] ++ a ++ b = H2 at *
  generalize [1] ++ a = H1 at *
  simp [mf32, a1, a2, m, fz, sc, -evBin, -frz]
theorem M34_eq {a b : List UInt8} (ha : a.length ≤ 900) (hb : b.length ≤ 900) : M34 [.str a, .str b] = some (.str (chainT a b)) := by
  have a1 := add_str (a := [2]) (b := a) (by simp; omega)
  have a2 := add_str (a := [2] ++ a) (b := b) (by simp; omega)
  have m := M30_eq (s := [2] ++ a ++ b) (by simp; omega)
  change _ = some (AV.str (chainT a b)) at m
  have fz := frz_s
  have sc : ∀ s, scalarB 4 (.str s) = true := fun _ => rfl
  unfold M34
  rw [evP_run _ _ rfl]
  generalize chainT a b = S at *
  generalize [2] ++ a ++ b = H2 at *
  generalize [2] ++ a = H1 at *
  simp [mf34, a1, a2, m, fz, sc, -evBin, -frz]
end Go.Proofs.YtgbnngmpaefbcaaDoor
/-
  Digest: SumMatchesReference (9).
-/
namespace Go.Proofs.YtgbnngmpaefbcaaDoor
open Go

def cut500 (s : Str) : Str := s.take (min s.length 500)
theorem cut500_len (s : Str) : (cut500 s).length ≤ 500 := by rw [cut500, List.length_take]; omega
theorem min500 (s : Str) : evMinL false (.int .i64 (s.length : Int)) [.int .i64 500] = some (.int .i64 ((min s.length 500 : Nat) : Int)) := by
  have := min2_nat s.length 500 .i64 .i64
  simp only [evMinL]
  rw [show ((500 : Nat) : Int) = 500 from rfl] at this
  rw [this]
theorem cutS500 (s : Str) : evSliceStr none (some (.int .i64 ((min s.length 500 : Nat) : Int))) (.str s) = some (.str (cut500 s)) := by
  have h : min s.length 500 ≤ s.length := by omega
  simp only [evSliceStr, evBounds, loB, hi_nat .i64 h, if_pos (Nat.zero_le _), Option.map_some, List.drop_zero, Nat.sub_zero]
  rfl
noncomputable def fs9 : List (FuncId × HModel) := [(11, pureH 4 M11), (27, pureH 4 M27), (30, pureH 4 M30), (26, pureH 4 M26), (31, pureH 4 M31), (29, pureH 4 M29), (32, pureH 4 M32), (33, pureH 4 M33), (34, pureH 4 M34)]
@[simp] theorem fs9_11 : lookM fs9 11 = some (pureH 4 M11) := rfl
@[simp] theorem fs9_27 : lookM fs9 27 = some (pureH 4 M27) := rfl
@[simp] theorem fs9_30 : lookM fs9 30 = some (pureH 4 M30) := rfl
@[simp] theorem fs9_26 : lookM fs9 26 = some (pureH 4 M26) := rfl
@[simp] theorem fs9_31 : lookM fs9 31 = some (pureH 4 M31) := rfl
@[simp] theorem fs9_29 : lookM fs9 29 = some (pureH 4 M29) := rfl
@[simp] theorem fs9_32 : lookM fs9 32 = some (pureH 4 M32) := rfl
@[simp] theorem fs9_33 : lookM fs9 33 = some (pureH 4 M33) := rfl
@[simp] theorem fs9_34 : lookM fs9 34 = some (pureH 4 M34) := rfl
theorem sound9 : ∀ f M, lookM fs9 f = some M → FnSpecY Tryd.prog GD f M :=
  lookM_cons (FnSpecY.of_pure spec11 4) (lookM_cons (FnSpecY.of_pure spec27 4) (lookM_cons (FnSpecY.of_pure spec30 4) (lookM_cons (FnSpecY.of_pure spec26 4) (lookM_cons (FnSpecY.of_pure spec31 4) (lookM_cons (FnSpecY.of_pure spec29 4) (lookM_cons (FnSpecY.of_pure spec32 4) (lookM_cons (FnSpecY.of_pure spec33 4) (lookM_cons (FnSpecY.of_pure spec34 4) lookM_nil))))))))
set_option maxRecDepth 100000 in
set_option maxHeartbeats 4000000 in
theorem ev9 (s0 t0 : Str) : evP (envOf GD fs9) 100 mf9 1 [.str s0, .str t0] = some (.bool true) := by
  have lsa := lenS s0
  have lsb := lenS t0
  have mna := min500 s0
  have mnb := min500 t0
  have sla := cutS500 s0
  have slb := cutS500 t0
  have ha := cut500_len s0
  have hb := cut500_len t0
  have m27 := M27_eq (s := cut500 s0) (by omega)
  have m30 := M30_eq (s := cut500 s0) (by omega)
  have m26 := M26_eq (s := cut500 t0) (by omega)
  have m31 := M31_eq (s := cut500 t0) (by omega)
  have m29 := M29_eq (a := cut500 s0) (b := cut500 t0) (by omega) (by omega)
  have m32 := M32_eq (a := cut500 s0) (b := cut500 t0) (by omega) (by omega)
  have m33 := M33_eq (a := cut500 t0) (b := cut500 s0) (by omega) (by omega)
  have m34 := M34_eq (a := cut500 t0) (b := cut500 s0) (by omega) (by omega)
  have e1 := eq_str (sumT (cut500 s0)) (sumT (cut500 s0))
  have e2 := eq_str (leafT (cut500 t0)) (leafT (cut500 t0))
  have e3 := eq_str (nodeT (cut500 s0) (cut500 t0)) (nodeT (cut500 s0) (cut500 t0))
  have e4 := eq_str (chainT (cut500 t0) (cut500 s0)) (chainT (cut500 t0) (cut500 s0))
  rw [decide_eq_true rfl] at e1 e2 e3 e4
  have m11 := M11_eq
  have fs := frz_s
  have fb := frz_b
  have scb : ∀ s, scalarB 4 (.bool s) = true := fun _ => rfl
  have scs : ∀ s, scalarB 4 (.str s) = true := fun _ => rfl
  rw [evP_run _ _ rfl]
  generalize sumT (cut500 s0) = S1 at *
  generalize leafT (cut500 t0) = S2 at *
  generalize nodeT (cut500 s0) (cut500 t0) = S3 at *
  generalize chainT (cut500 t0) (cut500 s0) = S4 at *
  generalize cut500 s0 = s at *
  generalize cut500 t0 = t at *
  generalize ((min s0.length 500 : Nat) : Int) = N1 at *
  generalize ((min t0.length 500 : Nat) : Int) = N2 at *
  generalize (s0.length : Int) = N3 at *
  generalize (t0.length : Int) = N4 at *
  simp [mf9, m11, lsa, lsb, mna, mnb, sla, slb, m27, m30, m26, m31, m29, m32, m33, m34, e1, e2, e3, e4, fs, fb, scb, scs, -evBin, -evLenStr, -evMinL, -evSliceStr, -frz]
theorem ev9L (args : List AV) (h : LawArgs Tryd.prog 8 Tryd.f9.params.toList args) : ∃ fuel, evP (envOf GD fs9) fuel mf9 1 args = some (.bool true) := by
  rw [Tryd.params9] at h
  obtain ⟨a, r, rfl, h0, h⟩ := h.cons
  obtain ⟨b, r, rfl, h1, h⟩ := h.cons
  obtain rfl := h.nil
  obtain ⟨s, rfl⟩ := arg_str h0
  obtain ⟨t, rfl⟩ := arg_str h1
  exact ⟨100, ev9 s t⟩
end Go.Proofs.YtgbnngmpaefbcaaDoor
/-
  The functions, compiled; written by wip/gen.
-/
namespace Go.Proofs.YtgbnngmpaefbcaaDoor
open Go
def mg40 : MFun := ⟨3, 8, .seq (.region [⟨some 3, .mv (.cst .nilS), none⟩]) (.seq (.seq (.region [⟨none, .mv (.var 1), none⟩, ⟨none, .mv (.var 0), none⟩, ⟨none, .lenSl (.tmp 1), none⟩, ⟨some 5, .bin .eql (.tmp 0) (.tmp 2), none⟩]) (.cond (.var 5) (.seq (.seq (.region [⟨some 6, .mv (.var 2), none⟩]) (.cond (.var 6) (.seq (.region [⟨some 3, .mv (.cst .nilS), none⟩]) .ret) .skip)) (.seq (.region [⟨none, .mv (.var 0), none⟩, ⟨none, .call (.fn 19) [.tmp 0], none⟩, ⟨none, .buildSlice 1 [.tmp 1], none⟩, ⟨some 3, .mv (.tmp 2), none⟩]) .ret)) .skip)) (.seq (.region [⟨none, .mv (.var 0), none⟩, ⟨none, .lenSl (.tmp 0), none⟩, ⟨none, .call (.fn 39) [.tmp 1], none⟩, ⟨some 4, .mv (.tmp 2), none⟩]) (.seq (.seq (.region [⟨none, .mv (.var 1), none⟩, ⟨none, .mv (.var 4), none⟩, ⟨some 7, .bin .leq (.tmp 0) (.tmp 1), none⟩]) (.cond (.var 7) (.seq (.regionD [19] [⟨none, .mv (.var 0), none⟩, ⟨none, .mv (.var 4), none⟩, ⟨none, .sliceSl 1 (.tmp 0) none (some (.tmp 1)), none⟩, ⟨none, .mv (.var 1), none⟩, ⟨none, .mv (.var 2), none⟩, ⟨none, .call (.fn 40) [.tmp 2, .tmp 3, .tmp 4], none⟩, ⟨none, .mv (.var 0), none⟩, ⟨none, .mv (.var 4), none⟩, ⟨none, .sliceSl 1 (.tmp 6) (some (.tmp 7)) none, none⟩, ⟨none, .call (.fn 19) [.tmp 8], none⟩, ⟨none, .buildF 1 [.tmp 9], none⟩, ⟨none, .appendN 1 16 (.tmp 5) (.tmp 10), none⟩, ⟨some 3, .mv (.tmp 11), none⟩] [(5, 8)]) .ret) .skip)) (.seq (.regionD [19] [⟨none, .mv (.var 0), none⟩, ⟨none, .mv (.var 4), none⟩, ⟨none, .sliceSl 1 (.tmp 0) (some (.tmp 1)) none, none⟩, ⟨none, .mv (.var 1), none⟩, ⟨none, .mv (.var 4), none⟩, ⟨none, .bin .sub (.tmp 3) (.tmp 4), none⟩, ⟨none, .call (.fn 40) [.tmp 2, .tmp 5, .cst (.bool false)], none⟩, ⟨none, .mv (.var 0), none⟩, ⟨none, .mv (.var 4), none⟩, ⟨none, .sliceSl 1 (.tmp 7) none (some (.tmp 8)), none⟩, ⟨none, .call (.fn 19) [.tmp 9], none⟩, ⟨none, .buildF 1 [.tmp 10], none⟩, ⟨none, .appendN 1 16 (.tmp 6) (.tmp 11), none⟩, ⟨some 3, .mv (.tmp 12), none⟩] [(6, 9)]) .ret)))), [.tmp 3]⟩
set_option maxHeartbeats 4000000 in
theorem comq40 : compFun Tryd.prog Tryd.f40 3 [0, 1, 2, 6, 7, 11, 12, 21] [19] true ([], []) = some mg40 := by kernel_rfl
theorem atq40 : Tryd.prog.funcs[40]? = some Tryd.f40 := by kernel_rfl
end Go.Proofs.YtgbnngmpaefbcaaDoor
