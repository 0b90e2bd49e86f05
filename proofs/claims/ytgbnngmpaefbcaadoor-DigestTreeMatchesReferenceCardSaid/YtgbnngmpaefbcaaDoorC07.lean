/-
  What the proof is built on (D43 to D44).
-/
import Derived.Test.YtgbnngmpaefbcaaDoorC06
/-
  Digest: the reference's Root (19), Proof (14), Extension (16, 40); TreeMatchesReference (3).
-/
namespace Go.Proofs.YtgbnngmpaefbcaaDoor
open Go

/-- with models that the kernel cannot run -/
def fs19g (M m30 m31 m32 m39 : PModel) : List (FuncId × HModel) := [(19, pureH 4 M), (30, pureH 4 m30), (31, pureH 4 m31), (32, pureH 4 m32), (39, pureH 4 m39)]
section
variable (M m30 m31 m32 m39 : PModel)
@[simp] theorem fs19_19 : lookM (fs19g M m30 m31 m32 m39) 19 = some (pureH 4 M) := rfl
@[simp] theorem fs19_30 : lookM (fs19g M m30 m31 m32 m39) 30 = some (pureH 4 m30) := rfl
@[simp] theorem fs19_31 : lookM (fs19g M m30 m31 m32 m39) 31 = some (pureH 4 m31) := rfl
@[simp] theorem fs19_32 : lookM (fs19g M m30 m31 m32 m39) 32 = some (pureH 4 m32) := rfl
@[simp] theorem fs19_39 : lookM (fs19g M m30 m31 m32 m39) 39 = some (pureH 4 m39) := rfl
end
noncomputable def fs19 (M : PModel) : List (FuncId × HModel) := fs19g M M30 M31 M32 M28
theorem sound19 {M : PModel} (h : PureSpec Tryd.prog GD 19 M) : ∀ f N, lookM (fs19 M) f = some N → FnSpecY Tryd.prog GD f N :=
  lookM_cons (FnSpecY.of_pure h 4) (lookM_cons (FnSpecY.of_pure spec30 4) (lookM_cons (FnSpecY.of_pure spec31 4) (lookM_cons (FnSpecY.of_pure spec32 4) (lookM_cons (FnSpecY.of_pure spec39 4) lookM_nil))))
noncomputable def M19 : Nat → PModel
  | 0 => fun _ => none
  | k + 1 => fun args => evP (envOf GD (fs19 (M19 k))) 100 mf19 1 args
theorem spec19 : ∀ k, PureSpec Tryd.prog GD 19 (M19 k)
  | 0 => ⟨fun args w => enters_of Tryd.func19 (by kernel_rfl) rfl args w, fun args r h => by cases h⟩
  | k + 1 => PureSpec.of_ev (E := envOf GD (fs19 (M19 k))) (envOf_sound (sound19 (spec19 k))) rfl at19 comp19 1 fun _ _ h => ⟨100, h⟩
theorem frz_fs (A : Arena) (n : Nat) (l : List Str) : frz A n (.fs 1 (strsA l)) = .fs 1 (strsA l) := by cases n <;> rfl
theorem M19_succ (k : Nat) (args : List AV) : M19 (k + 1) args = evP (envOf GD (fs19 (M19 k))) 100 mf19 1 args := rfl
section
variable {M m30 m31 m32 m39 : PModel}
set_option maxRecDepth 100000 in
set_option maxHeartbeats 4000000 in
theorem g19_nil {a : AV} (la : evLenSl a = some (.int .i64 0)) {S : Str} (m : m30 [.str []] = some (.str S)) : evP (envOf GD (fs19g M m30 m31 m32 m39)) 100 mf19 1 [a] = some (.str S) := by
  have fs := frz_s
  have scs : ∀ s, scalarB 4 (.str s) = true := fun _ => rfl
  rw [evP_run _ _ rfl]
  simp [mf19, la, m, fs, scs, -evLenSl, -frz]
set_option maxRecDepth 100000 in
set_option maxHeartbeats 4000000 in
theorem g19_one {a : AV} {s : Str} (la : evLenSl a = some (.int .i64 1)) (ix : ∀ A, evIndexSl 1 A a (.int .i64 0) = some (.fp [.str s])) {S : Str} (m : m31 [.str s] = some (.str S)) : evP (envOf GD (fs19g M m30 m31 m32 m39)) 100 mf19 1 [a] = some (.str S) := by
  have fs := frz_s
  have scs : ∀ s, scalarB 4 (.str s) = true := fun _ => rfl
  rw [evP_run _ _ rfl]
  simp [mf19, la, ix, load_fp1, m, fs, scs, -evLenSl, -evIndexSl, -evLoad, -frz]
set_option maxRecDepth 100000 in
set_option maxHeartbeats 4000000 in
theorem g19_two {X X1 X2 : AV} {N K : Int} {R1 R2 R : Str} (la : evLenSl X = some (.int .i64 N)) (z0 : evBin .eql (.int .i64 N) (.int .i64 0) = some (.bool false)) (z1 : evBin .eql (.int .i64 N) (.int .i64 1) = some (.bool false))
    (m28 : m39 [.int .i64 N] = some (.int .i64 K)) (t1 : ∀ A, evSliceSl 1 A none (some (.int .i64 K)) X = some X1) (t2 : ∀ A, evSliceSl 1 A (some (.int .i64 K)) none X = some X2) (f1 : ∀ A n, frz A n X1 = X1) (f2 : ∀ A n, frz A n X2 = X2)
    (m1 : M [X1] = some (.str R1)) (m2 : M [X2] = some (.str R2)) (m3 : m32 [.str R1, .str R2] = some (.str R)) : evP (envOf GD (fs19g M m30 m31 m32 m39)) 100 mf19 1 [X] = some (.str R) := by
  have fs := frz_s
  have fi := frz_i
  have scs : ∀ s, scalarB 4 (.str s) = true := fun _ => rfl
  rw [evP_run _ _ rfl]
  simp [mf19, la, z0, z1, m28, t1, t2, m1, m2, m3, f1, f2, fi, fs, scs, -evLenSl, -evBin, -evIndexSl, -evLoad, -evSliceSl, -frz]
end
theorem M19_eq : ∀ (k : Nat) (l : List Str) (a : AV), l.length ≤ k → SlA 1 (strsA l) a → (∀ s ∈ l, s.length ≤ 60) → l.length ≤ 90 → M19 (k + 1) [a] = some (.str (rootT l)) := by
  intro k
  induction k with
  | zero =>
    intro l a hk ha hsl hl
    obtain rfl : l = [] := List.length_eq_zero_iff.1 (by omega)
    rw [rootT_nil]
    rw [M19_succ]
    exact g19_nil ha.slen (M30_eq (s := []) (by simp))
  | succ k ih =>
    intro l a hk ha hsl hl
    have hcase : l.length = 0 ∨ l.length = 1 ∨ 2 ≤ l.length := by omega
    rcases hcase with h0 | h1 | h2
    · obtain rfl : l = [] := List.length_eq_zero_iff.1 h0
      rw [rootT_nil]
      rw [M19_succ]
      exact g19_nil ha.slen (M30_eq (s := []) (by simp))
    · obtain ⟨s, rfl⟩ := List.length_eq_one_iff.1 h1
      rw [rootT_one]
      rw [M19_succ]
      exact g19_one ha.slen (fun A => ha.strs (i := 0) rfl (A := A) .i64) (M31_eq (s := s) (by have := hsl s (by simp); omega))
    · have ha' := ha.fs (fun e => by rw [e] at h2; simp at h2)
      subst ha'
      have hb := leftT_bounds h2 (by omega)
      have z0 := eq_nat l.length 0 .i64
      have z1 := eq_nat l.length 1 .i64
      rw [decide_eq_false (by omega)] at z0 z1
      have m3 := M32_eq (a := rootT (l.take (leftT l.length))) (b := rootT (l.drop (leftT l.length))) (by rw [rootT_len]; omega) (by rw [rootT_len]; omega)
      rw [← rootT_two h2 (by omega)] at m3
      rw [M19_succ]
      exact g19_two ha.slen z0 z1 (M28_eq h2 (by omega)) (fun A => fs_to A (by omega)) (fun A => fs_from A (by omega)) (fun A n => frz_fs A n _) (fun A n => frz_fs A n _)
        (ih (l.take (leftT l.length)) _ (by rw [List.length_take]; omega) (.inr rfl) (fun s h => hsl s (List.mem_of_mem_take h)) (by rw [List.length_take]; omega))
        (ih (l.drop (leftT l.length)) _ (by rw [List.length_drop]; omega) (.inr rfl) (fun s h => hsl s (List.mem_of_mem_drop h)) (by rw [List.length_drop]; omega)) m3

noncomputable def fs14 (H : HModel) : List (FuncId × HModel) := [(14, H), (19, pureH 4 (M19 100)), (39, pureH 4 M28)]
@[simp] theorem fs14_14 (H : HModel) : lookM (fs14 H) 14 = some H := rfl
@[simp] theorem fs14_19 (H : HModel) : lookM (fs14 H) 19 = some (pureH 4 (M19 100)) := rfl
@[simp] theorem fs14_39 (H : HModel) : lookM (fs14 H) 39 = some (pureH 4 M28) := rfl
theorem sound14 {H : HModel} (h : FnSpecY Tryd.prog GD 14 H) : ∀ f N, lookM (fs14 H) f = some N → FnSpecY Tryd.prog GD f N :=
  lookM_cons h (lookM_cons (FnSpecY.of_pure (spec19 100) 4) (lookM_cons (FnSpecY.of_pure spec39 4) lookM_nil))
noncomputable def H14 : Nat → HModel
  | 0 => fun _ _ _ => none
  | k + 1 => fun _ => evFun (envOf GD (fs14 (H14 k))) 100 mf14
theorem specH14 : ∀ k, FnSpecY Tryd.prog GD 14 (H14 k)
  | 0 => ⟨fun args w => enters_of Tryd.func14 (by kernel_rfl) rfl args w, fun _ _ _ args A r A' h => by cases h⟩
  | k + 1 => (evFun_sound (envOf_sound (sound14 (specH14 k))) rfl at14 comp14 PureIn.nil).y
theorem bldF_s (s : Str) : evBuildF 1 [.str s] = some (.fs 1 [.str s]) := rfl
set_option maxRecDepth 100000 in
set_option maxHeartbeats 4000000 in
theorem H14_eq : ∀ (f k : Nat) (l : List Str) (i : Nat) (A : Arena), l.length ≤ f → f ≤ k → f ≤ 100 → i < l.length → (∀ s ∈ l, s.length ≤ 60) → l.length ≤ 90 →
    ∃ o B, (∀ hd, H14 (k + 1) hd [.fs 1 (strsA l), .int .i64 (i : Int)] A = some (.tup [o, .int .i64 0], B)) ∧ FullN B o (strsA (pathF f l i).reverse) := by
  intro f
  induction f with
  | zero => intro k l i A hf hk hk1 hi; omega
  | succ f ih =>
    intro k l i A hf hk hk1 hi hsl hl
    obtain ⟨k, rfl⟩ : ∃ q, k = q + 1 := ⟨k - 1, by omega⟩
    have la := fs_len (l := l)
    have c0 : evBin .lss (.int .i64 (i : Int)) (.int .i64 0) = some (.bool false) := by rw [bLt]; simp
    have c1 : evBin .geq (.int .i64 (i : Int)) (.int .i64 (l.length : Int)) = some (.bool false) := by rw [bGe]; simp; omega
    have z1 := eq_nat l.length 1 .i64
    rw [show ((1 : Nat) : Int) = 1 from rfl] at z1
    by_cases h1 : l.length ≤ 1
    · refine ⟨.nilS, A, ?_, .inl ⟨rfl, by simp [pathF, h1, strsA]⟩⟩
      rw [decide_eq_true (by omega)] at z1
      intro hd
      show evFun (envOf GD (fs14 (H14 (k + 1)))) 100 mf14 _ _ = _
      rw [evFun_run _ _ rfl]
      generalize (l.length : Int) = N at *
      generalize (i : Int) = I at *
      generalize strsA l = LS at *
      simp [mf14, la, c0, c1, z1, pack, -evLenSl, -evBin]
    · have h2 : 2 ≤ l.length := by omega
      have hb := leftT_bounds h2 (by omega)
      have m28 := M28_eq h2 (by omega)
      have t1 := fun A => fs_to (l := l) (k := leftT l.length) A (by omega)
      have t2 := fun A => fs_from (l := l) (k := leftT l.length) A (by omega)
      have m1 := M19_eq 99 (l.take (leftT l.length)) _ (by rw [List.length_take]; omega) (.inr rfl) (fun s h => hsl s (List.mem_of_mem_take h)) (by rw [List.length_take]; omega)
      have m2 := M19_eq 99 (l.drop (leftT l.length)) _ (by rw [List.length_drop]; omega) (.inr rfl) (fun s h => hsl s (List.mem_of_mem_drop h)) (by rw [List.length_drop]; omega)
      have f1 := fun A n => frz_fs A n (l.take (leftT l.length))
      have f2 := fun A n => frz_fs A n (l.drop (leftT l.length))
      have fi := frz_i
      have scs : ∀ s, scalarB 4 (.str s) = true := fun _ => rfl
      have fs := frz_s
      have bf := bldF_s
      rw [decide_eq_false (by omega)] at z1
      by_cases hlt : i < leftT l.length
      · obtain ⟨o1, B1, e1, hF1⟩ := ih k (l.take (leftT l.length)) i A (by rw [List.length_take]; omega) (by omega) (by omega) (by rw [List.length_take]; omega) (fun s h => hsl s (List.mem_of_mem_take h)) (by rw [List.length_take]; omega)
        obtain ⟨o2, B2, ap, hF2⟩ := appN_fullN hF1 (rootT (l.drop (leftT l.length))) (by rw [List.length_reverse]; have := pathF_len f (l.take (leftT l.length)) i; omega)
        refine ⟨o2, B2, ?_, ?_⟩
        · have c2 := Dlt_nat i (leftT l.length) .i64
          rw [decide_eq_true hlt] at c2
          intro hd
          show evFun (envOf GD (fs14 (H14 (k + 1)))) 100 mf14 _ _ = _
          rw [evFun_run _ _ rfl]
          clear hF1 hF2 ih
          generalize H14 (k + 1) = HH at *
          generalize rootT (l.take (leftT l.length)) = R1 at *
          generalize rootT (l.drop (leftT l.length)) = R2 at *
          generalize AV.fs 1 (strsA (l.take (leftT l.length))) = X1 at *
          generalize AV.fs 1 (strsA (l.drop (leftT l.length))) = X2 at *
          generalize AV.fs 1 (strsA l) = X at *
          generalize (leftT l.length : Int) = K at *
          generalize (l.length : Int) = N at *
          generalize (i : Int) = I at *
          simp [mf14, la, c0, c1, c2, z1, m28, t1, t2, e1, m2, f2, fi, fs, scs, bf, ap, pack, -evLenSl, -evBin, -evSliceSl, -evBuildF, -frz]
        · rw [pathF, if_neg (by omega), if_neg (by omega), List.reverse_cons]; exact hF2
      · obtain ⟨o1, B1, e1, hF1⟩ := ih k (l.drop (leftT l.length)) (i - leftT l.length) A (by rw [List.length_drop]; omega) (by omega) (by omega) (by rw [List.length_drop]; omega) (fun s h => hsl s (List.mem_of_mem_drop h)) (by rw [List.length_drop]; omega)
        obtain ⟨o2, B2, ap, hF2⟩ := appN_fullN hF1 (rootT (l.take (leftT l.length))) (by rw [List.length_reverse]; have := pathF_len f (l.drop (leftT l.length)) (i - leftT l.length); omega)
        refine ⟨o2, B2, ?_, ?_⟩
        · have c2 := Dlt_nat i (leftT l.length) .i64
          rw [decide_eq_false hlt] at c2
          have s0 := Dsub_nat i (leftT l.length) (by omega) (by omega)
          intro hd
          show evFun (envOf GD (fs14 (H14 (k + 1)))) 100 mf14 _ _ = _
          rw [evFun_run _ _ rfl]
          clear hF1 hF2 ih
          generalize H14 (k + 1) = HH at *
          generalize rootT (l.take (leftT l.length)) = R1 at *
          generalize rootT (l.drop (leftT l.length)) = R2 at *
          generalize AV.fs 1 (strsA (l.take (leftT l.length))) = X1 at *
          generalize AV.fs 1 (strsA (l.drop (leftT l.length))) = X2 at *
          generalize AV.fs 1 (strsA l) = X at *
          generalize ((i - leftT l.length : Nat) : Int) = IK at *
          generalize (leftT l.length : Int) = K at *
          generalize (l.length : Int) = N at *
          generalize (i : Int) = I at *
          simp [mf14, la, c0, c1, c2, s0, z1, m28, t1, t2, e1, m1, f1, fi, fs, scs, bf, ap, pack, -evLenSl, -evBin, -evSliceSl, -evBuildF, -frz]
        · rw [pathF, if_neg (by omega), if_pos (by omega), List.reverse_cons]; exact hF2

noncomputable def M14 : PModel := fun args => evF (envOf GD (fs14 (H14 99))) 100 mf14 4 args
theorem spec14 : PureSpecF Tryd.prog GD 14 M14 := PureSpecF.of_ev (E := envOf GD (fs14 (H14 99))) (envOf_sound (sound14 (specH14 99))) rfl at14 comp14 4 fun _ _ h => ⟨100, h⟩
theorem evF_of {E : Env} {fuel n : Nat} {mf : MFun} {args : List AV} {r : AV} {B : Arena} (h : evFun E fuel mf args [] = some (r, B)) (hf : freshB B n r = true) : evF E fuel mf n args = some (frz B n r) := by
  simp [evF, h, hf]
set_option maxRecDepth 100000 in
set_option maxHeartbeats 4000000 in
theorem M14_eq {l : List Str} {a : AV} (ha : SlA 1 (strsA l) a) (hsl : ∀ s ∈ l, s.length ≤ 60) (hl : l.length ≤ 90) (i : Int) : ∃ r, M14 [a, .int .i64 i] = some (.tup [r, .int .i64 (errZ l i)]) ∧ SlA 1 (strsA (proofZ l i)) r := by
  have fzt : ∀ (A : Arena) (x : AV) (y : Int), frz A 4 (.tup [x, .int .i64 y]) = .tup [frz A 3 x, .int .i64 y] := fun _ _ _ => rfl
  have frt : ∀ (A : Arena) (x : AV) (y : Int), freshB A 4 (.tup [x, .int .i64 y]) = freshB A 3 x := fun A x y => by simp [freshB]
  by_cases h : 0 ≤ i ∧ i < l.length
  · obtain ⟨k, rfl⟩ : ∃ k : Nat, i = k := ⟨i.toNat, by omega⟩
    have ha' := ha.fs (fun e => by rw [e] at h; simp at h)
    subst ha'
    obtain ⟨o, B, e, hF⟩ := H14_eq l.length 99 l k [] (Nat.le_refl _) (by omega) (by omega) (by omega) hsl hl
    obtain ⟨q1, q2⟩ := hF.fin 1
    refine ⟨frz B 3 o, ?_, ?_⟩
    · have e' : evFun (envOf GD (fs14 (H14 99))) 100 mf14 [.fs 1 (strsA l), .int .i64 (k : Int)] [] = some (.tup [o, .int .i64 0], B) := e (fun _ _ _ => none)
      rw [M14, evF_of e' (by rw [frt]; exact q2), fzt, errZ, if_pos h]
    · rw [proofZ, if_pos h, Int.toNat_natCast]; exact q1
  · refine ⟨.nilS, ?_, .inl ⟨rfl, by rw [proofZ, if_neg h, strsA, List.map_nil]⟩⟩
    have la := ha.slen
    have c0 := bLt .i64 i 0
    have c1 := bGe .i64 i l.length
    have c3 : decide (i < 0) = true ∨ (decide (i < 0) = false ∧ decide ((l.length : Int) ≤ i) = true) := by
      by_cases h0 : i < 0
      · exact .inl (decide_eq_true h0)
      · exact .inr ⟨decide_eq_false h0, decide_eq_true (by omega)⟩
    unfold M14
    rw [evF_run _ _ rfl, errZ, if_neg h]
    generalize decide (i < 0) = b0 at *
    generalize decide ((l.length : Int) ≤ i) = b1 at *
    generalize (l.length : Int) = N at *
    rcases c3 with rfl | ⟨rfl, rfl⟩ <;> simp [mf14, la, c0, c1, pack, freshB, frz, -evLenSl, -evBin]

noncomputable def fs40 (H : HModel) : List (FuncId × HModel) := [(40, H), (19, pureH 4 (M19 100)), (39, pureH 4 M28)]
@[simp] theorem fs40_40 (H : HModel) : lookM (fs40 H) 40 = some H := rfl
@[simp] theorem fs40_19 (H : HModel) : lookM (fs40 H) 19 = some (pureH 4 (M19 100)) := rfl
@[simp] theorem fs40_39 (H : HModel) : lookM (fs40 H) 39 = some (pureH 4 M28) := rfl
theorem sound40 {H : HModel} (h : FnSpecY Tryd.prog GD 40 H) : ∀ f N, lookM (fs40 H) f = some N → FnSpecY Tryd.prog GD f N :=
  lookM_cons h (lookM_cons (FnSpecY.of_pure (spec19 100) 4) (lookM_cons (FnSpecY.of_pure spec39 4) lookM_nil))
noncomputable def H40 : Nat → HModel
  | 0 => fun _ _ _ => none
  | k + 1 => fun _ => evFun (envOf GD (fs40 (H40 k))) 100 mg40
theorem specH40 : ∀ k, FnSpecY Tryd.prog GD 40 (H40 k)
  | 0 => ⟨fun args w => enters_of Tryd.func40 (by kernel_rfl) rfl args w, fun _ _ _ args A r A' h => by cases h⟩
  | k + 1 => (evFun_sound (envOf_sound (sound40 (specH40 k))) rfl atq40 comq40 (by first | exact PureIn.nil | (repeat (first | exact PureIn.nil | refine PureIn.cons (M := _) rfl ?_)))).y
set_option maxRecDepth 100000 in
set_option maxHeartbeats 4000000 in
theorem H40_eq : ∀ (f k : Nat) (l : List Str) (i : Nat) (w : Bool) (A : Arena), l.length ≤ f → f ≤ k → f ≤ 100 → 1 ≤ i → i ≤ l.length → (∀ s ∈ l, s.length ≤ 60) → l.length ≤ 90 →
    ∃ o B, (∀ hd, H40 (k + 1) hd [.fs 1 (strsA l), .int .i64 (i : Int), .bool w] A = some (o, B)) ∧ FullN B o (strsA (extF f l i w).reverse) := by
  intro f
  induction f with
  | zero => intro k l i w A hf hk hk1 hi hi2; omega
  | succ f ih =>
    intro k l i w A hf hk hk1 hi hi2 hsl hl
    obtain ⟨k, rfl⟩ : ∃ q, k = q + 1 := ⟨k - 1, by omega⟩
    have la := fs_len (l := l)
    have z1 := eq_nat i l.length .i64
    have fi := frz_i
    have scs : ∀ s, scalarB 4 (.str s) = true := fun _ => rfl
    have fs := frz_s
    have fl := fun A n => frz_fs A n l
    by_cases h1 : l.length ≤ i
    · rw [decide_eq_true (by omega)] at z1
      have m0 := M19_eq 99 l _ (by omega) (.inr rfl) hsl hl
      cases w with
      | true =>
        refine ⟨.nilS, A, ?_, .inl ⟨rfl, by simp [extF, h1, strsA]⟩⟩
        intro hd
        show evFun (envOf GD (fs40 (H40 (k + 1)))) 100 mg40 _ _ = _
        rw [evFun_run _ _ rfl]
        generalize (l.length : Int) = N at *
        generalize (i : Int) = I at *
        generalize strsA l = LS at *
        simp [mg40, la, z1, pack, -evLenSl, -evBin]
      | false =>
        have bs : evBuildSlice 1 [.str (rootT l)] A = some (.sl A.length 0 1, A ++ [.row 1 false [.str (rootT l)]]) := rfl
        refine ⟨.sl A.length 0 1, A ++ [.row 1 false [.str (rootT l)]], ?_, .inr ⟨A.length, ?_, ?_, ?_⟩⟩
        · intro hd
          show evFun (envOf GD (fs40 (H40 (k + 1)))) 100 mg40 _ _ = _
          rw [evFun_run _ _ rfl]
          generalize rootT l = R at *
          generalize H40 (k + 1) = HH at *
          generalize (l.length : Int) = N at *
          generalize (i : Int) = I at *
          generalize AV.fs 1 (strsA l) = LS at *
          generalize A ++ [.row 1 false [.str R]] = B at *
          generalize AV.sl A.length 0 1 = S1 at *
          simp [mg40, la, z1, m0, fl, fs, scs, bs, pack, -evLenSl, -evBin, -evBuildSlice, -frz]
        · simp [extF, h1, strsA]
        · simp [extF, h1, strsA]
        · simp [extF, h1, strsA]; rfl
    · have h2 : 2 ≤ l.length := by omega
      have hb := leftT_bounds h2 (by omega)
      have m28 := M28_eq h2 (by omega)
      have t1 := fun A => fs_to (l := l) (k := leftT l.length) A (by omega)
      have t2 := fun A => fs_from (l := l) (k := leftT l.length) A (by omega)
      have m1 := M19_eq 99 (l.take (leftT l.length)) _ (by rw [List.length_take]; omega) (.inr rfl) (fun s h => hsl s (List.mem_of_mem_take h)) (by rw [List.length_take]; omega)
      have m2 := M19_eq 99 (l.drop (leftT l.length)) _ (by rw [List.length_drop]; omega) (.inr rfl) (fun s h => hsl s (List.mem_of_mem_drop h)) (by rw [List.length_drop]; omega)
      have f1 := fun A n => frz_fs A n (l.take (leftT l.length))
      have f2 := fun A n => frz_fs A n (l.drop (leftT l.length))
      have bf := bldF_s
      rw [decide_eq_false (by omega)] at z1
      have c2 : evBin .leq (.int .i64 (i : Int)) (.int .i64 (leftT l.length : Int)) = some (.bool (decide (i ≤ leftT l.length))) := by rw [bLe]; simp
      by_cases hlt : i ≤ leftT l.length
      · obtain ⟨o1, B1, e1, hF1⟩ := ih k (l.take (leftT l.length)) i w A (by rw [List.length_take]; omega) (by omega) (by omega) hi (by rw [List.length_take]; omega) (fun s h => hsl s (List.mem_of_mem_take h)) (by rw [List.length_take]; omega)
        obtain ⟨o2, B2, ap, hF2⟩ := appN_fullN hF1 (rootT (l.drop (leftT l.length))) (by rw [List.length_reverse]; have := extF_len f (l.take (leftT l.length)) i w; omega)
        refine ⟨o2, B2, ?_, ?_⟩
        · rw [decide_eq_true hlt] at c2
          intro hd
          show evFun (envOf GD (fs40 (H40 (k + 1)))) 100 mg40 _ _ = _
          rw [evFun_run _ _ rfl]
          clear hF1 hF2 ih
          generalize H40 (k + 1) = HH at *
          generalize rootT (l.take (leftT l.length)) = R1 at *
          generalize rootT (l.drop (leftT l.length)) = R2 at *
          generalize strsA (l.take (leftT l.length)) = X1 at *
          generalize strsA (l.drop (leftT l.length)) = X2 at *
          generalize strsA l = X at *
          generalize (leftT l.length : Int) = K at *
          generalize (l.length : Int) = N at *
          generalize (i : Int) = I at *
          simp [mg40, la, c2, z1, m28, t1, t2, e1, m2, f2, fi, fs, scs, bf, ap, pack, -evLenSl, -evBin, -evSliceSl, -evBuildF, -frz]
        · rw [extF, if_neg (by omega), if_neg (by omega), List.reverse_cons]; exact hF2
      · obtain ⟨o1, B1, e1, hF1⟩ := ih k (l.drop (leftT l.length)) (i - leftT l.length) false A (by rw [List.length_drop]; omega) (by omega) (by omega) (by omega) (by rw [List.length_drop]; omega) (fun s h => hsl s (List.mem_of_mem_drop h)) (by rw [List.length_drop]; omega)
        obtain ⟨o2, B2, ap, hF2⟩ := appN_fullN hF1 (rootT (l.take (leftT l.length))) (by rw [List.length_reverse]; have := extF_len f (l.drop (leftT l.length)) (i - leftT l.length) false; omega)
        refine ⟨o2, B2, ?_, ?_⟩
        · rw [decide_eq_false hlt] at c2
          have s0 := Dsub_nat i (leftT l.length) (by omega) (by omega)
          intro hd
          show evFun (envOf GD (fs40 (H40 (k + 1)))) 100 mg40 _ _ = _
          rw [evFun_run _ _ rfl]
          clear hF1 hF2 ih
          generalize H40 (k + 1) = HH at *
          generalize rootT (l.take (leftT l.length)) = R1 at *
          generalize rootT (l.drop (leftT l.length)) = R2 at *
          generalize strsA (l.take (leftT l.length)) = X1 at *
          generalize strsA (l.drop (leftT l.length)) = X2 at *
          generalize strsA l = X at *
          generalize ((i - leftT l.length : Nat) : Int) = IK at *
          generalize (leftT l.length : Int) = K at *
          generalize (l.length : Int) = N at *
          generalize (i : Int) = I at *
          simp [mg40, la, c2, s0, z1, m28, t1, t2, e1, m1, f1, fi, fs, scs, bf, ap, pack, -evLenSl, -evBin, -evSliceSl, -evBuildF, -frz]
        · rw [extF, if_neg (by omega), if_pos (by omega), List.reverse_cons]; exact hF2

noncomputable def fs16 : List (FuncId × HModel) := [(40, H40 100)]
@[simp] theorem fs16_40 : lookM fs16 40 = some (H40 100) := rfl
theorem sound16 : ∀ f N, lookM fs16 f = some N → FnSpecY Tryd.prog GD f N := lookM_cons (specH40 100) lookM_nil
noncomputable def M16 : PModel := fun args => evF (envOf GD fs16) 100 mf16 4 args
theorem spec16 : PureSpecF Tryd.prog GD 16 M16 := PureSpecF.of_ev (E := envOf GD fs16) (envOf_sound sound16) rfl at16 comp16 4 fun _ _ h => ⟨100, h⟩
set_option maxRecDepth 100000 in
set_option maxHeartbeats 4000000 in
theorem M16_eq {l : List Str} {a : AV} (ha : SlA 1 (strsA l) a) (hsl : ∀ s ∈ l, s.length ≤ 60) (hl : l.length ≤ 90) (i : Int) : ∃ r, M16 [a, .int .i64 i] = some (.tup [r, .int .i64 (errX l i)]) ∧ SlA 1 (strsA (extZ l i)) r := by
  have fzt : ∀ (A : Arena) (x : AV) (y : Int), frz A 4 (.tup [x, .int .i64 y]) = .tup [frz A 3 x, .int .i64 y] := fun _ _ _ => rfl
  have frt : ∀ (A : Arena) (x : AV) (y : Int), freshB A 4 (.tup [x, .int .i64 y]) = freshB A 3 x := fun A x y => by simp [freshB]
  have la := ha.slen
  have c0 := bLt .i64 i 0
  have c1 := bGt .i64 i l.length
  have z0 := bEq .i64 i 0
  by_cases h : 1 ≤ i ∧ i ≤ l.length
  · obtain ⟨k, rfl⟩ : ∃ k : Nat, i = k := ⟨i.toNat, by omega⟩
    have ha' := ha.fs (fun e => by rw [e] at h; simp at h; omega)
    subst ha'
    obtain ⟨o, B, e, hF⟩ := H40_eq l.length 99 l k true [] (Nat.le_refl _) (by omega) (by omega) (by omega) (by omega) hsl hl
    obtain ⟨q1, q2⟩ := hF.fin 1
    refine ⟨frz B 3 o, ?_, ?_⟩
    · rw [errX, if_pos (by omega)]
      rw [decide_eq_false (by omega)] at c0 c1
      rw [show ((k : Int) == 0) = false by simp; omega] at z0
      unfold M16
      rw [evF_run _ _ rfl]
      clear q1 hF
      have e' : ∀ hd, H40 100 hd [.fs 1 (strsA l), .int .i64 (k : Int), .bool true] [] = some (o, B) := e
      clear e
      generalize (l.length : Int) = N at *
      generalize (k : Int) = I at *
      generalize strsA l = X at *
      simp [mf16, la, c0, c1, z0, e', pack, frt, fzt, q2, -evLenSl, -evBin, -frz]
    · rw [extZ, if_pos h, Int.toNat_natCast]; exact q1
  · refine ⟨.nilS, ?_, .inl ⟨rfl, by rw [extZ, if_neg h]; rfl⟩⟩
    have c3 : (decide (i < 0) = true ∧ errX l i = 2) ∨ (decide (i < 0) = false ∧ decide ((l.length : Int) < i) = true ∧ errX l i = 2) ∨ (decide (i < 0) = false ∧ decide ((l.length : Int) < i) = false ∧ (i == 0) = true ∧ errX l i = 0) := by
      by_cases h0 : i < 0
      · exact .inl ⟨decide_eq_true h0, by rw [errX, if_neg (by omega)]⟩
      · by_cases h1 : (l.length : Int) < i
        · exact .inr (.inl ⟨decide_eq_false h0, decide_eq_true h1, by rw [errX, if_neg (by omega)]⟩)
        · exact .inr (.inr ⟨decide_eq_false h0, decide_eq_false h1, by simp; omega, by rw [errX, if_pos (by omega)]⟩)
    unfold M16
    rw [evF_run _ _ rfl]
    clear h
    generalize errX l i = ex at *
    generalize decide (i < 0) = b0 at *
    generalize decide ((l.length : Int) < i) = b1 at *
    generalize (i == 0) = b2 at *
    generalize (l.length : Int) = N at *
    rcases c3 with ⟨rfl, rfl⟩ | ⟨rfl, rfl, rfl⟩ | ⟨rfl, rfl, rfl, rfl⟩ <;> simp [mf16, la, c0, c1, z0, pack, freshB, frz, -evLenSl, -evBin]
end Go.Proofs.YtgbnngmpaefbcaaDoor
/-
  Digest: TreeMatchesReference (3).
-/
namespace Go.Proofs.YtgbnngmpaefbcaaDoor
open Go

noncomputable def fs3 : List (FuncId × HModel) := [(11, pureH 4 M11), (12, pureFH 4 M12), (13, pureFH 4 M13), (14, pureFH 4 M14), (15, pureFH 4 M15), (16, pureFH 4 M16), (17, pureH 4 M17), (18, pureH 4 M18), (19, pureH 4 (M19 100))]
@[simp] theorem fs3_11 : lookM fs3 11 = some (pureH 4 M11) := rfl
@[simp] theorem fs3_12 : lookM fs3 12 = some (pureFH 4 M12) := rfl
@[simp] theorem fs3_13 : lookM fs3 13 = some (pureFH 4 M13) := rfl
@[simp] theorem fs3_14 : lookM fs3 14 = some (pureFH 4 M14) := rfl
@[simp] theorem fs3_15 : lookM fs3 15 = some (pureFH 4 M15) := rfl
@[simp] theorem fs3_16 : lookM fs3 16 = some (pureFH 4 M16) := rfl
@[simp] theorem fs3_17 : lookM fs3 17 = some (pureH 4 M17) := rfl
@[simp] theorem fs3_18 : lookM fs3 18 = some (pureH 4 M18) := rfl
@[simp] theorem fs3_19 : lookM fs3 19 = some (pureH 4 (M19 100)) := rfl
theorem sound3 : ∀ f M, lookM fs3 f = some M → FnSpecY Tryd.prog GD f M :=
  lookM_cons (FnSpecY.of_pure spec11 4) (lookM_cons (FnSpecY.of_pureF spec12 4) (lookM_cons (FnSpecY.of_pureF spec13 4) (lookM_cons (FnSpecY.of_pureF spec14 4) (lookM_cons (FnSpecY.of_pureF spec15 4) (lookM_cons (FnSpecY.of_pureF spec16 4) (lookM_cons (FnSpecY.of_pure spec17 4) (lookM_cons (FnSpecY.of_pure spec18 4) (lookM_cons (FnSpecY.of_pure (spec19 100) 4) lookM_nil))))))))
theorem proofZ_len (l : List Str) (i : Int) : (proofZ l i).length ≤ l.length := by
  unfold proofZ
  split
  · rw [List.length_reverse]; exact pathF_len _ _ _
  · simp
theorem extZ_len (l : List Str) (i : Int) : (extZ l i).length ≤ l.length + 1 := by
  unfold extZ
  split
  · rw [List.length_reverse]; exact extF_len _ _ _ _
  · simp
set_option maxRecDepth 100000 in
set_option maxHeartbeats 4000000 in
theorem ev3 {l0 : List Str} {a0 : AV} (ha0 : SlA 1 (strsA l0) a0) (i m : Int) : evP (envOf GD fs3) 100 mf3 1 [a0, .int .i64 i, .int .i64 m] = some (.bool true) := by
  obtain ⟨a, m12, ha⟩ := M12_eq ha0 (n := 40) (by omega)
  have hll := fewT_len l0 40
  have hlm : ∀ x ∈ fewT l0 40, x.length ≤ 60 := fun x h => fewT_mem h
  generalize fewT l0 40 = l at *
  obtain ⟨p, m13, hp⟩ := M13_eq ha (fun s h => by have := hlm s h; omega) (by omega) i
  obtain ⟨q, m14, hq⟩ := M14_eq ha hlm (by omega) i
  obtain ⟨x, m15, hx⟩ := M15_eq ha (fun s h => by have := hlm s h; omega) (by omega) m
  obtain ⟨y, m16, hy⟩ := M16_eq ha hlm (by omega) m
  have m17a := M17_eq hp hq (by have := proofZ_len l i; omega)
  have m17b := M17_eq hx hy (by have := extZ_len l m; omega)
  rw [decide_eq_true rfl] at m17a m17b
  have m18 := M18_eq ha (fun s h => by have := hlm s h; omega) (by omega)
  have m19 : M19 100 [a] = _ := M19_eq 99 l a (by omega) ha hlm (by omega)
  have e1 := bEq .i64 (errZ l i) (errZ l i)
  have e2 := bEq .i64 (errX l m) (errX l m)
  have e3 := eq_str (rootT l) (rootT l)
  rw [decide_eq_true rfl] at e3
  rw [beq_self_eq_true] at e1 e2
  have m11 := M11_eq
  have f0 := fun A n => ha0.frz (A := A) n
  have fa := fun A n => ha.frz (A := A) n
  have fp := fun A n => hp.frz (A := A) n
  have fq := fun A n => hq.frz (A := A) n
  have fx := fun A n => hx.frz (A := A) n
  have fy := fun A n => hy.frz (A := A) n
  have fs := frz_s
  have fi := frz_i
  have fb := frz_b
  have scb : ∀ s, scalarB 4 (.bool s) = true := fun _ => rfl
  have scs : ∀ s, scalarB 4 (.str s) = true := fun _ => rfl
  rw [show ((40 : Nat) : Int) = 40 from rfl] at m12
  rw [evP_run _ _ rfl]
  generalize rootT l = R at *
  generalize errZ l i = ez at *
  generalize errX l m = ex at *
  simp [mf3, m11, m12, m13, m14, m15, m16, m17a, m17b, m18, m19, e1, e2, e3, f0, fa, fp, fq, fx, fy, fs, fi, fb, scb, scs, -evBin, -frz]
theorem ev3L (args : List AV) (h : LawArgs Tryd.prog 8 Tryd.f3.params.toList args) : ∃ fuel, evP (envOf GD fs3) fuel mf3 1 args = some (.bool true) := by
  rw [Tryd.params3] at h
  obtain ⟨a, r, rfl, h0, h⟩ := h.cons
  obtain ⟨b, r, rfl, h1, h⟩ := h.cons
  obtain ⟨c, r, rfl, h2, h⟩ := h.cons
  obtain rfl := h.nil
  obtain ⟨l, hl⟩ := arg_strs h0
  obtain ⟨i, rfl, _⟩ := arg_int h1
  obtain ⟨m, rfl, _⟩ := arg_int h2
  exact ⟨100, ev3 hl i m⟩
end Go.Proofs.YtgbnngmpaefbcaaDoor
