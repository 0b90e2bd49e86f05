/-
  What the proof is built on (I2 to I25).
-/
import Derived.Test.YtkdjebioapholaaDoorM03
import Derived.WalkKit
import Derived.Laws.IdiomRangeMap
import Derived.Maps.RangeRun
/-
  Inspect: tests and choices that integers determine.
-/
namespace Go.Proofs.YtkdjebioapholaaDoor
open Go

@[simp] theorem cellsOf_slA (esz : Nat) (es : List AV) : cellsOf (slA esz es) = [slA esz es] := by cases es <;> rfl
@[simp] theorem solid_slA (esz : Nat) (es : List AV) : (slA esz es).solid = true := by cases es <;> rfl
@[simp] theorem flat1_slA (esz : Nat) (es : List AV) : flat1 (slA esz es) = true := by cases es <;> rfl
@[simp] theorem frz_slA (A : Arena) (n esz : Nat) (es : List AV) : frz A n (slA esz es) = slA esz es := by cases es <;> cases n <;> rfl
@[simp] theorem noRef_slA (n esz : Nat) (es : List AV) : noRefB n (slA esz es) = true := by cases es <;> cases n <;> rfl
@[simp] theorem buildF_test (es : List AV) : evBuildF 1 [.agg [slA 1 es]] = some (.fs 1 [.agg [slA 1 es]]) := by cases es <;> simp [evBuildF, slA]
@[simp] theorem len_slA (esz : Nat) (es : List AV) : evLenSl (slA esz es) = some (.int .i64 (es.length : Int)) := by cases es <;> rfl

/-- a slice that holds these elements, given or of the arena -/
def Holds (A : Arena) (esz : Nat) (a : AV) (xs : List AV) : Prop := SlA esz xs a ∨ ∃ id off gr es, a = .sl id off xs.length ∧ A[id]? = some (.row esz gr es) ∧ (es.drop off).take xs.length = xs
section
variable {A B : Arena} {esz : Nat} {a : AV} {xs : List AV}
theorem Holds.src (h : Holds A esz a xs) : srcElems esz A a = some xs := by
  rcases h with h | ⟨id, off, gr, es, rfl, h1, h2⟩
  · exact h.src
  · simp [srcElems, h1, h2]
theorem Holds.len (h : Holds A esz a xs) : evLenSl a = some (.int .i64 (xs.length : Int)) := by
  rcases h with h | ⟨id, off, gr, es, rfl, h1, h2⟩
  · exact h.len
  · rfl
theorem Holds.load1 {A : Arena} (h : Holds A 1 a xs) (hAB : ∀ id, id < A.length → B[id]? = A[id]?) {i : Nat} {x : AV} (hx : xs[i]? = some x) (hs : x.solid = true) (hc : cellsOf x = [x]) (hl : loadElem x 1 0 false 1 = some x) (k : IntKind) :
    ∃ p, evIndexSl 1 B a (.int k (i : Int)) = some p ∧ evLoad false 1 B p = some x := by
  rcases h with h | ⟨id, off, gr, es, rfl, h1, h2⟩
  · exact ⟨_, h.index1 hx hs hc k, rfl⟩
  · have hid : id < A.length := (List.getElem?_eq_some_iff.1 h1).1
    have hi : i < xs.length := (List.getElem?_eq_some_iff.1 hx).1
    have hB : B[id]? = some (.row 1 gr es) := (hAB id hid).trans h1
    have he : es[off + i]? = some x := by
      rw [← h2, List.getElem?_take_of_lt hi, List.getElem?_drop] at hx
      exact hx
    refine ⟨.ptr id (off + i) 0, ?_, ?_⟩
    · simp [evIndexSl, hB, hi]
    · simp [evLoad, hB, he, hl]
theorem Holds.int {zs : List Int} (h : Holds A 1 a (intsA zs)) (hAB : ∀ id, id < A.length → B[id]? = A[id]?) {i : Nat} (hi : i < zs.length) (k : IntKind) :
    ∃ p, evIndexSl 1 B a (.int k (i : Int)) = some p ∧ evLoad false 1 B p = some (.int .i64 zs[i]) :=
  h.load1 hAB (x := .int .i64 zs[i]) (by simp [intsA, hi]) rfl rfl rfl k
theorem aA_old (es : List AV) : ∀ id, id < A.length → (aA A esz es)[id]? = A[id]? := fun id hid => by
  match es with
  | [] => rfl
  | [x] => simp only [aA]; rw [List.getElem?_append_left hid]
  | x :: y :: r => simp only [aA]; rw [List.getElem?_append_left hid]
theorem aA_take (es : List AV) : (aA A esz es).take A.length = A := by
  match es with
  | [] => simp [aA]
  | [x] => simp [aA]
  | x :: y :: r => simp [aA]
theorem oA_holds (es : List AV) : Holds (aA A esz es) esz (oA A es) es := by
  match es with
  | [] => exact .inl (.inl ⟨rfl, rfl⟩)
  | [x] => exact .inr ⟨A.length, 0, false, [x], rfl, by simp [aA], rfl⟩
  | x :: y :: r => exact .inr ⟨A.length, 0, true, x :: y :: r, rfl, by simp [aA], by simp⟩
theorem frz_fresh (n : Nat) (es : List AV) : frz (List.replicate A.length .dead ++ (aA A esz es).drop A.length) (n + 1) (oA A es) = slA esz (es.map (frz (List.replicate A.length .dead ++ (aA A esz es).drop A.length) n)) := by
  match es with
  | [] => rfl
  | [x] => simp [oA, aA, frz, slA]
  | x :: y :: r =>
    have : (List.replicate A.length Ent.dead ++ (aA A esz (x :: y :: r)).drop A.length)[A.length]? = some (.row esz true (x :: y :: r)) := by simp [aA]
    simp only [oA, frz, this, slA]
    simp
end

noncomputable def M14 : PModel := fun args => match args with
  | [a] => (intOf a).map fun c => slA 1 (intsA (waf c))
  | _ => none
theorem M14_eq {c : Int} (h : inI c) : M14 [.int .i64 c] = some (slA 1 (intsA (waf c))) := by simp only [M14, intOf_int h, Option.map_some]
theorem spec14 : PureSpec Tryd.prog GI 14 M14 := by
  refine PureSpec.of_ev (E := envOf GI fs14) (envOf_sound sound14) rfl at14 comp14 1 ?_
  intro args r h
  unfold M14 at h
  split at h
  · simp only [Option.map_eq_some_iff] at h
    obtain ⟨c, h1, rfl⟩ := h
    obtain ⟨rfl, h2⟩ := intOf_some h1
    exact ⟨20, ev14 c h2⟩
  · cases h
theorem waf_len (c : Int) : (waf c).length ≤ 12 := bitsL_len _ _ _

/-- a test, and tests, as they are handed on -/
def testA (ws : List Int) : AV := .agg [slA 1 (intsA ws)]
def testsA (ts : List (List Int)) : AV := slA 1 (ts.map testA)

noncomputable def fs13 : List (FuncId × HModel) := [(14, pureH 4 M14)]
@[simp] theorem fs13_14 : lookM fs13 14 = some (pureH 4 M14) := rfl
theorem sound13 : ∀ f M, lookM fs13 f = some M → FnSpecY Tryd.prog GI f M := lookM_cons (FnSpecY.of_pure spec14 4) lookM_nil
def tst (xs : List Int) (i : Nat) : List AV := ((xs.take i).map waf).map testA

set_option maxRecDepth 100000 in
theorem round13 (fuel : Nat) {A : Arena} {a : AV} {xs : List Int} (h : Holds A 1 a (intsA xs)) (hr : ∀ z ∈ xs, inI z) {i : Nat} (hi : i < xs.length) (h10 : i < 10) :
    run (envOf GI fs13) fuel [.code lp13x0] (st13x0 a (oA A (tst xs i)) (.int .i64 (i : Int))) (aA A 1 (tst xs i)) =
      some (.normal (st13x0 a (oA A (tst xs (i + 1))) (.int .i64 ((i + 1 : Nat) : Int))) (aA A 1 (tst xs (i + 1)))) := by
  have hl := h.len
  simp only [intsA, List.length_map] at hl
  obtain ⟨p, hp1, hp2⟩ := h.int (aA_old (esz := 1) (tst xs i)) hi .i64
  have b1 : evBin .lss (.int .i64 (i : Int)) (.int .i64 (xs.length : Int)) = some (.bool true) := by simp [evBin]; omega
  have b2 : evBin .lss (.int .i64 (i : Int)) (.int .i64 10) = some (.bool true) := by simp [evBin]; omega
  have b3 := add1_nat i (by omega)
  have m1 := M14_eq (hr xs[i] (List.getElem_mem hi))
  have hs : tst xs i ++ [testA (waf xs[i])] = tst xs (i + 1) := by
    unfold tst; rw [List.take_succ_eq_append_getElem hi, List.map_append, List.map_append]; rfl
  have ap := append1 (A := A) (esz := 1) (bytes := 24) (es := tst xs i) (testA (waf xs[i])) (by omega) (by omega) (by simp [tst]; omega)
  rw [hs] at ap
  obtain ⟨i1, hi1⟩ : ∃ i1 : Nat, i1 = i + 1 := ⟨_, rfl⟩
  rw [← hi1] at b3 ap ⊢
  simp only [testA] at ap
  simp [lp13x0, hl, hp1, hp2, b1, b2, b3, m1, ap, -evBin, -evIndexSl, -evLoad, -evLenSl, -AV.solid, -cellsOf, -flat1, -evBuildF]

theorem loop13 (fuel : Nat) {A : Arena} {a : AV} {xs : List Int} (h : Holds A 1 a (intsA xs)) (hr : ∀ z ∈ xs, inI z) (hf : 10 < fuel) :
    ∃ v i, iter (evC (envOf GI fs13) fuel lp13x0) mask13x0 fuel (st13x0 a .nilS (.int .i64 0)) A = some (.exit 0 ((st13x0 a (oA A (((xs.take 10).map waf).map testA)) i).set 4 v) (aA A 1 (((xs.take 10).map waf).map testA))) := by
  have hl := h.len
  simp only [intsA, List.length_map] at hl
  have e : ((xs.take 10).map waf).map testA = tst xs (min xs.length 10) := by
    unfold tst; congr 2
    rw [List.take_eq_take_iff]; omega
  refine ⟨.bool false, .int .i64 ((min xs.length 10 : Nat) : Int), ?_⟩
  rw [e]
  refine iter_up (fun i => st13x0 a (oA A (tst xs i)) (.int .i64 (i : Int))) (fun i => aA A 1 (tst xs i)) (min xs.length 10) (fun _ => cl13x0) (fun _ _ h => by cases h) (fun i hi => round13 fuel h hr (by omega) (by omega)) ?_ (by omega)
  obtain ⟨n, hn⟩ : ∃ n, n = min xs.length 10 := ⟨_, rfl⟩
  rw [← hn]
  by_cases hx : n < xs.length
  · have : n = 10 := by omega
    have b1 : evBin .lss (.int .i64 (n : Int)) (.int .i64 (xs.length : Int)) = some (.bool true) := by simp [evBin]; omega
    have b2 : evBin .lss (.int .i64 (n : Int)) (.int .i64 10) = some (.bool false) := by simp [evBin]; omega
    simp [lp13x0, hl, b1, b2, -evBin, -evLenSl]
  · have b1 : evBin .lss (.int .i64 (n : Int)) (.int .i64 (xs.length : Int)) = some (.bool false) := by simp [evBin]; omega
    simp [lp13x0, hl, b1, -evBin, -evLenSl]

theorem ev13 {A : Arena} {a : AV} {xs : List Int} (h : Holds A 1 a (intsA xs)) (hr : ∀ z ∈ xs, inI z) :
    evFun (envOf GI fs13) 20 mf13 [a] A = some (oA A (((xs.take 10).map waf).map testA), aA A 1 (((xs.take 10).map waf).map testA)) := by
  obtain ⟨v, i, lp⟩ := loop13 20 h hr (by omega)
  rw [evFun_run _ _ rfl]
  simp [mf13, go13x0 lp]

noncomputable def M13 : Model := fun args A => match args with
  | [a] => match srcElems 1 A a with
    | some es => match allOf intOf es with
      | some xs => open Classical in if Holds A 1 a es ∧ A.all (entNoRef 4) = true then some (testsA ((xs.take 10).map waf), A) else none
      | none => none
    | none => none
  | _ => none
theorem allOf_ints {xs : List Int} (hr : ∀ z ∈ xs, inI z) : allOf intOf (intsA xs) = some xs := allOf_map fun x hx => intOf_int (hr x hx)
theorem M13_eq {A : Arena} {a : AV} {xs : List Int} (h : Holds A 1 a (intsA xs)) (hr : ∀ z ∈ xs, inI z) (hA : A.all (entNoRef 4) = true) : M13 [a] A = some (testsA ((xs.take 10).map waf), A) := by
  simp only [M13, h.src, allOf_ints hr]
  exact if_pos ⟨h, hA⟩
theorem allOf_intsA {es : List AV} {xs : List Int} (h : allOf intOf es = some xs) : es = intsA xs ∧ ∀ z ∈ xs, inI z := by
  obtain ⟨h1, h2⟩ := allOf_some h
  refine ⟨List.ext_getElem (by simpa [intsA] using h1) fun i k1 k2 => ?_, fun z hz => ?_⟩
  · rw [(intOf_some (h2 i k1 (by omega))).1]; simp [intsA]
  · obtain ⟨i, hi, rfl⟩ := List.mem_iff_getElem.1 hz
    exact (intOf_some (h2 i (by omega) hi)).2
theorem spec13 : FnSpec Tryd.prog GI 13 M13 := by
  refine FnSpec.of_all (M' := fun _ => freshM 4 (evFun (envOf GI fs13) 20 mf13)) (fun _ => (evFun_sound (envOf_sound sound13) rfl at13 comp13 PureIn.nil).fresh 4) ?_
  intro args A x h
  refine ⟨0, ?_⟩
  unfold M13 at h
  split at h
  · rename_i a
    split at h
    · rename_i es hes
      split at h
      · rename_i xs hxs
        simp only [Option.ite_none_right_eq_some, Option.some.injEq] at h
        obtain ⟨⟨h1, h2⟩, rfl⟩ := h
        obtain ⟨rfl, hr⟩ := allOf_intsA hxs
        unfold freshM
        rw [ev13 h1 hr]
        simp only [aA_take, h2, and_self, if_true, frz_fresh]
        congr 2
        unfold testsA
        congr 1
        rw [List.map_map]
        apply List.map_congr_left
        intro y hy
        simp [testA, frz]
      · cases h
    · cases h
  · cases h
def tests (xs : List Int) : List (List Int) := (xs.take 10).map waf
end Go.Proofs.YtkdjebioapholaaDoor
/-
  Inspect: choices that integers determine; lists compared, searched; lists of wafers.
-/
namespace Go.Proofs.YtkdjebioapholaaDoor
open Go

/-! ### chosen -/
def choN (m i : Nat) : List Int := bitsL (fun k => (k : Int)) m i
def cho (c : Int) (n : Nat) : List Int := choN (pick c ((2 ^ n : Nat) : Int)).toNat n

set_option maxRecDepth 100000 in
theorem round24 (E : Env) (fuel : Nat) (A : Arena) (m n i : Nat) (hi : i < n) (hn : n ≤ 20) :
    run E fuel [.code lp24x0] (st24x0 (.int .i64 (m : Int)) (.int .i64 (n : Int)) (oA A (intsA (choN m i))) (.int .i64 (i : Int))) (aA A 1 (intsA (choN m i))) =
      some (.normal (st24x0 (.int .i64 (m : Int)) (.int .i64 (n : Int)) (oA A (intsA (choN m (i + 1)))) (.int .i64 ((i + 1 : Nat) : Int))) (aA A 1 (intsA (choN m (i + 1))))) := by
  have b1 : evBin .lss (.int .i64 (i : Int)) (.int .i64 (n : Int)) = some (.bool true) := by simp [evBin]; omega
  have b2 := shr_nat m i .i64 .i64 (by simp; omega)
  have b3 := rem2_nat (m / 2 ^ i) .i64
  have b4 := eq1_nat (m / 2 ^ i % 2) .i64
  have b6 := add1_nat i (by omega)
  have hl := bitsL_len (fun k => (k : Int)) m i
  have ap := append1 (A := A) (esz := 1) (bytes := 8) (es := intsA (choN m i)) (.int .i64 (i : Int)) (by omega) (by omega) (by simp only [intsA, choN, List.length_map]; omega)
  have hs : m / 2 ^ i % 2 = 1 → intsA (choN m i) ++ [.int .i64 (i : Int)] = intsA (choN m (i + 1)) := fun h => by
    unfold choN intsA; rw [bitsL_t h]; simp
  have hf : ¬ m / 2 ^ i % 2 = 1 → choN m (i + 1) = choN m i := fun h => bitsL_f h
  obtain ⟨q, hq⟩ : ∃ q, q = m / 2 ^ i := ⟨_, rfl⟩
  rw [← hq] at b2 b3 b4 hs hf
  obtain ⟨r, hr⟩ : ∃ r, r = q % 2 := ⟨_, rfl⟩
  rw [← hr] at b3 b4 hs hf
  obtain ⟨i1, hi1⟩ : ∃ i1 : Nat, i1 = i + 1 := ⟨_, rfl⟩
  rw [← hi1] at b6 hs hf ⊢
  by_cases h : r = 1
  · rw [hs h] at ap
    rw [decide_eq_true h] at b4
    simp [lp24x0, b1, b2, b3, b4, b6, ap, -evBin]
  · rw [hf h]
    simp [lp24x0, b1, b2, b3, b4, b6, h, -evBin]

theorem loop24 (E : Env) (fuel : Nat) (A : Arena) (m n : Nat) (hn : n ≤ 20) (hf : n < fuel) : iter (evC E fuel lp24x0) mask24x0 fuel (st24x0 (.int .i64 (m : Int)) (.int .i64 (n : Int)) .nilS (.int .i64 0)) A =
    some (.exit 0 ((st24x0 (.int .i64 (m : Int)) (.int .i64 (n : Int)) (oA A (intsA (choN m n))) (.int .i64 (n : Int))).set 5 (.bool false)) (aA A 1 (intsA (choN m n)))) := by
  refine iter_up (fun i => st24x0 (.int .i64 (m : Int)) (.int .i64 (n : Int)) (oA A (intsA (choN m i))) (.int .i64 (i : Int))) (fun i => aA A 1 (intsA (choN m i))) n (fun _ => cl24x0) (fun _ _ h => by cases h) (fun i hi => round24 E fuel A m n i hi hn) ?_ hf
  simp [lp24x0]

def fs24 : List (FuncId × HModel) := [(25, pureH 4 M25)]
@[simp] theorem fs24_25 : lookM fs24 25 = some (pureH 4 M25) := rfl
theorem sound24 : ∀ f M, lookM fs24 f = some M → FnSpecY Tryd.prog GI f M := lookM_cons (FnSpecY.of_pure spec25 4) lookM_nil
set_option maxRecDepth 100000 in
theorem ev24 (c : Int) (hc : inI c) (n : Nat) (hn : n ≤ 20) : evP (envOf GI fs24) 30 mf24 1 [.int .i64 c, .int .i64 (n : Int)] = some (slA 1 (intsA (cho c n))) := by
  have hpow : 0 < 2 ^ n := Nat.two_pow_pos n
  have hpow2 : 2 ^ n ≤ 2 ^ 20 := Nat.pow_le_pow_right (by omega) hn
  obtain ⟨m, hm, hlt⟩ := pick_nat c (2 ^ n) hpow
  have m1 := M25_eq (a := c) (n := ((2 ^ n : Nat) : Int)) hc (by omega)
  have hw : cho c n = choN m n := by unfold cho; rw [hm]; simp
  rw [hm] at m1
  have b0 : evBin .shl (.int .i64 1) (.int .i64 (n : Int)) = some (.int .i64 ((2 ^ n : Nat) : Int)) := by
    have e : min n 64 = n := by omega
    have e2 : IntKind.i64.wrap (1 * 2 ^ n) = ((2 ^ n : Nat) : Int) := by
      have h0 : (1 : Int) * 2 ^ n = ((2 ^ n : Nat) : Int) := by rw [Int.one_mul]; norm_cast
      rw [h0, wrapI (by unfold inI; omega)]
    simp only [evBin, bits_i64, Int.toNat_natCast, e, e2]
    rw [if_neg (by omega)]
  have lp := loop24 (envOf GI fs24) 30 [] m n hn (by omega)
  have hfz := frz_oA (A := []) (esz := 1) (es := intsA (choN m n)) 0
  have hid : (intsA (choN m n)).map (frz (aA [] 1 (intsA (choN m n))) 0) = intsA (choN m n) := by
    unfold intsA; rw [List.map_map]; rfl
  rw [hid] at hfz
  obtain ⟨p, hp⟩ : ∃ p, p = 2 ^ n := ⟨_, rfl⟩
  rw [← hp] at b0 m1
  rw [evP_run _ _ rfl, hw]
  simp [mf24, b0, m1, go24x0 lp, hfz, -evBin]
noncomputable def M24 : PModel := fun args => match args with
  | [a, .int .i64 n] => if 0 ≤ n ∧ n ≤ 20 then (intOf a).map fun c => slA 1 (intsA (cho c n.toNat)) else none
  | _ => none
theorem M24_eq {c : Int} (h : inI c) {n : Nat} (hn : n ≤ 20) : M24 [.int .i64 c, .int .i64 (n : Int)] = some (slA 1 (intsA (cho c n))) := by
  simp only [M24, intOf_int h, Option.map_some, Int.toNat_natCast]
  exact if_pos (by omega)
theorem spec24 : PureSpec Tryd.prog GI 24 M24 := by
  refine PureSpec.of_ev (E := envOf GI fs24) (envOf_sound sound24) rfl at24 comp24 1 ?_
  intro args r h
  unfold M24 at h
  split at h
  · simp only [Option.ite_none_right_eq_some, Option.map_eq_some_iff] at h
    obtain ⟨⟨h0, h1⟩, c, h2, rfl⟩ := h
    obtain ⟨rfl, h3⟩ := intOf_some h2
    rename_i n
    obtain ⟨k, rfl⟩ : ∃ k : Nat, n = k := ⟨n.toNat, by omega⟩
    exact ⟨30, ev24 c h3 k (by omega)⟩
  · cases h

/-! ### SameInts -/
set_option maxRecDepth 100000 in
theorem round19 (E : Env) (fuel : Nat) (A : Arena) {a b : AV} {xs ys : List Int} (ha : SlA 1 (intsA xs) a) (hb : SlA 1 (intsA ys) b) (hm : xs.length ≤ 9223372036854775807) {i : Nat} (hi : i < xs.length) (hj : i < ys.length) :
    run E fuel [.code lp19x0] (st19x0 a b (.int .i64 (i : Int))) A =
      if xs[i] = ys[i] then some (.normal (st19x0 a b (.int .i64 ((i + 1 : Nat) : Int))) A) else some (.ret (((st19x0 a b (.int .i64 (i : Int))).set 5 (.bool true)).set 6 (.bool true) |>.set 2 (.bool false)) A) := by
  have hl := ha.len
  simp only [intsA, List.length_map] at hl
  have x1 := ha.int (A := A) _ _ (List.getElem?_eq_getElem hi) .i64
  have x2 := hb.int (A := A) _ _ (List.getElem?_eq_getElem hj) .i64
  have b1 : evBin .lss (.int .i64 (i : Int)) (.int .i64 (xs.length : Int)) = some (.bool true) := by simp [evBin]; omega
  have b2 : evBin .neq (.int .i64 xs[i]) (.int .i64 ys[i]) = some (.bool (decide (xs[i] ≠ ys[i]))) := by simp [evBin]
  have b3 := add1_nat i (by omega)
  obtain ⟨i1, hi1⟩ : ∃ i1 : Nat, i1 = i + 1 := ⟨_, rfl⟩
  rw [← hi1] at b3 ⊢
  by_cases h : xs[i] = ys[i]
  · rw [if_pos h]
    rw [decide_eq_false (not_not_intro h)] at b2
    simp [lp19x0, hl, x1, x2, b1, b2, b3, -evBin, -evIndexSl, -evLenSl]
  · rw [if_neg h]
    rw [decide_eq_true h] at b2
    simp [lp19x0, hl, x1, x2, b1, b2, b3, -evBin, -evIndexSl, -evLenSl]

set_option maxRecDepth 100000 in
theorem ev19 (E : Env) {a b : AV} {xs ys : List Int} (ha : SlA 1 (intsA xs) a) (hb : SlA 1 (intsA ys) b) (hm : xs.length ≤ 9223372036854775807) : evP E (xs.length + 1) mf19 1 [a, b] = some (.bool (decide (xs = ys))) := by
  have hl := ha.len
  have hl2 := hb.len
  simp only [intsA, List.length_map] at hl hl2
  rw [evP_run _ _ rfl]
  by_cases he : xs.length = ys.length
  · have b0 : evBin .neq (.int .i64 (xs.length : Int)) (.int .i64 (ys.length : Int)) = some (.bool false) := by simp [evBin]; omega
    by_cases hd : ∃ i, ∃ h : i < xs.length, xs[i] ≠ ys[i]'(by omega)
    · obtain ⟨n, ⟨hn, hne⟩, hmin⟩ := least hd
      have lp : iter (evC E (xs.length + 1) lp19x0) mask19x0 (xs.length + 1) (st19x0 a b (.int .i64 0)) [] = some (.ret (((st19x0 a b (.int .i64 (n : Int))).set 5 (.bool true)).set 6 (.bool true) |>.set 2 (.bool false)) []) := by
        refine iter_up (fun i => st19x0 a b (.int .i64 (i : Int))) (fun _ => []) n (fun _ => cl19x0) (fun _ _ h => by cases h) (fun i hi => ?_) ?_ (by omega)
        · rw [round19 E _ [] ha hb hm (by omega) (by omega)]
          exact if_pos (Classical.not_not.1 fun h => hmin i hi ⟨by omega, h⟩)
        · rw [round19 E _ [] ha hb hm hn (by omega)]
          exact if_neg hne
      have hx : xs ≠ ys := fun h => hne (by subst h; rfl)
      simp [mf19, hl, hl2, b0, go19x0 lp, hx, -evBin, -evLenSl]
    · have lp : iter (evC E (xs.length + 1) lp19x0) mask19x0 (xs.length + 1) (st19x0 a b (.int .i64 0)) [] = some (.exit 0 ((st19x0 a b (.int .i64 (xs.length : Int))).set 5 (.bool false)) []) := by
        refine iter_up (fun i => st19x0 a b (.int .i64 (i : Int))) (fun _ => []) xs.length (fun _ => cl19x0) (fun _ _ h => by cases h) (fun i hi => ?_) ?_ (by omega)
        · rw [round19 E _ [] ha hb hm (by omega) (by omega)]
          exact if_pos (Classical.not_not.1 fun h => hd ⟨i, by omega, h⟩)
        · simp [lp19x0, hl, -evLenSl]
      have hx : xs = ys := List.ext_getElem he fun i h1 h2 => Classical.not_not.1 fun h => hd ⟨i, h1, h⟩
      rw [decide_eq_true hx]
      simp [mf19, hl, hl2, b0, go19x0 lp, -evBin, -evLenSl]
  · have b0 : evBin .neq (.int .i64 (xs.length : Int)) (.int .i64 (ys.length : Int)) = some (.bool true) := by simp [evBin]; omega
    have hx : xs ≠ ys := fun h => he (by rw [h])
    simp [mf19, hl, hl2, b0, hx, -evBin, -evLenSl]
noncomputable def M19 : PModel := fun args => match args with
  | [a, b] => match intsOf a, intsOf b with
    | some xs, some ys => some (.bool (decide (xs = ys)))
    | _, _ => none
  | _ => none
theorem spec19 : PureSpec Tryd.prog GI 19 M19 := by
  refine PureSpec.of_ev (E := envOf GI []) (envOf_sound lookM_nil) rfl at19 comp19 1 ?_
  intro args r h
  unfold M19 at h
  split at h
  · split at h
    · rename_i xs ys h1 h2
      injection h with h; subst h
      obtain ⟨k1, k2, k3⟩ := intsOf_some h1
      obtain ⟨l1, l2, l3⟩ := intsOf_some h2
      exact ⟨_, ev19 _ k1 l1 k3⟩
    · cases h
  · cases h
end Go.Proofs.YtkdjebioapholaaDoor
/-
  Inspect: lists of wafers, and tests, are valid.
-/
namespace Go.Proofs.YtkdjebioapholaaDoor
open Go

def GoodE (xs : List Int) : Prop := ∀ i (h : i < xs.length), 1 ≤ xs[i] ∧ xs[i] ≤ 1000000 ∧ ∀ _ : 0 < i, xs[i - 1] < xs[i]
/-- a list of wafers -/
def Good (xs : List Int) : Prop := xs.length ≤ 100 ∧ GoodE xs
def GoodT (ts : List (List Int)) : Prop := ts.length ≤ 16 ∧ ∀ t ∈ ts, Good t

theorem intsOf_frz {s : AV} {xs : List Int} (h : intsOf s = some xs) (A : Arena) (n : Nat) : frz A n s = s := (intsOf_some h).1.frz n
theorem intsOf_noRef {s : AV} {xs : List Int} (h : intsOf s = some xs) (n : Nat) : noRefB n s = true := by
  rcases (intsOf_some h).1 with ⟨rfl, _⟩ | rfl <;> cases n <;> rfl

/-! ### isList -/
def lastI (xs : List Int) (i : Nat) : Int := if i = 0 then 0 else xs.getD (i - 1) 0
theorem lastI_succ {xs : List Int} {i : Nat} (h : i < xs.length) : lastI xs (i + 1) = xs[i] := by
  simp [lastI, h]
theorem good_last (xs : List Int) : (∀ i (h : i < xs.length), lastI xs i < xs[i] ∧ xs[i] ≤ 1000000) ↔ GoodE xs := by
  constructor
  · intro h i hi
    have hpos : ∀ j (hj : j < xs.length), 1 ≤ xs[j] := by
      intro j
      induction j with
      | zero => intro hj; have := (h 0 hj).1; simp [lastI] at this; omega
      | succ j ih =>
        intro hj
        have h1 := (h (j + 1) hj).1
        rw [lastI_succ (by omega)] at h1
        have := ih (by omega)
        omega
    refine ⟨hpos i hi, (h i hi).2, fun h0 => ?_⟩
    have h1 := (h i hi).1
    obtain ⟨j, rfl⟩ : ∃ j, i = j + 1 := ⟨i - 1, by omega⟩
    rw [lastI_succ (by omega)] at h1
    exact h1
  · intro h i hi
    obtain ⟨h1, h2, h3⟩ := h i hi
    refine ⟨?_, h2⟩
    rcases Nat.eq_zero_or_pos i with rfl | h0
    · simp only [lastI, if_true]; omega
    · obtain ⟨j, rfl⟩ : ∃ j, i = j + 1 := ⟨i - 1, by omega⟩
      rw [lastI_succ (by omega)]
      exact h3 h0

set_option maxRecDepth 100000 in
theorem round36 (E : Env) (fuel : Nat) (A : Arena) {a : AV} {xs : List Int} (ha : SlA 1 (intsA xs) a) (hm : xs.length ≤ 9223372036854775807) {i : Nat} (hi : i < xs.length) :
    run E fuel [.code lp36x0] (st36x0 a (.int .i64 (lastI xs i)) a (.int .i64 (xs.length : Int)) (.int .i64 (i : Int))) A =
      if lastI xs i < xs[i] ∧ xs[i] ≤ 1000000 then some (.normal (st36x0 a (.int .i64 (lastI xs (i + 1))) a (.int .i64 (xs.length : Int)) (.int .i64 ((i + 1 : Nat) : Int))) A)
      else some (.ret [a, .bool false, .int .i64 (lastI xs i), .int .i64 xs[i], a, .int .i64 (xs.length : Int), .int .i64 (i : Int), .bool true, .bool true] A) := by
  have x1 := ha.int (A := A) _ _ (List.getElem?_eq_getElem hi) .i64
  rw [lastI_succ hi]
  obtain ⟨x, hx⟩ : ∃ x, x = xs[i] := ⟨_, rfl⟩
  obtain ⟨l, hl⟩ : ∃ l, l = lastI xs i := ⟨_, rfl⟩
  rw [← hx] at x1 ⊢
  rw [← hl]
  have b1 : evBin .lss (.int .i64 (i : Int)) (.int .i64 (xs.length : Int)) = some (.bool true) := by simp [evBin]; omega
  have b2 : evBin .leq (.int .i64 x) (.int .i64 l) = some (.bool (decide (x ≤ l))) := by simp [evBin]
  have b3 : evBin .gtr (.int .i64 x) (.int .i64 1000000) = some (.bool (decide (1000000 < x))) := by simp [evBin]
  have b4 := add1_nat i (by omega)
  obtain ⟨i1, hi1⟩ : ∃ i1 : Nat, i1 = i + 1 := ⟨_, rfl⟩
  rw [← hi1] at b4 ⊢
  by_cases h1 : x ≤ l
  · rw [if_neg (by omega)]
    rw [decide_eq_true h1] at b2
    simp [lp36x0, x1, b1, b2, -evBin, -evIndexSl]
  · rw [decide_eq_false h1] at b2
    by_cases h2 : 1000000 < x
    · rw [if_neg (by omega)]
      rw [decide_eq_true h2] at b3
      simp [lp36x0, x1, b1, b2, b3, -evBin, -evIndexSl]
    · rw [if_pos (by omega)]
      rw [decide_eq_false h2] at b3
      simp [lp36x0, x1, b1, b2, b3, b4, -evBin, -evIndexSl]

open Classical in
set_option maxRecDepth 100000 in
theorem ev36 (E : Env) {a : AV} {xs : List Int} (ha : SlA 1 (intsA xs) a) (hm : xs.length ≤ 9223372036854775807) : evP E (xs.length + 1) mf36 1 [a] = some (.bool (decide (Good xs))) := by
  have hl := ha.len
  simp only [intsA, List.length_map] at hl
  rw [evP_run _ _ rfl]
  rcases iter_search (E := E) (fuel := xs.length + 1) (a := lp36x0) (mask := mask36x0) (fun i => st36x0 a (.int .i64 (lastI xs i)) a (.int .i64 (xs.length : Int)) (.int .i64 (i : Int))) (fun _ => []) xs.length (fun i => ¬ (lastI xs i < xs.getD i 0 ∧ xs.getD i 0 ≤ 1000000))
    (oF := fun i => .ret [a, .bool false, .int .i64 (lastI xs i), .int .i64 (xs.getD i 0), a, .int .i64 (xs.length : Int), .int .i64 (i : Int), .bool true, .bool true] []) (oE := .exit 0 ((st36x0 a (.int .i64 (lastI xs xs.length)) a (.int .i64 (xs.length : Int)) (.int .i64 (xs.length : Int))).set 7 (.bool false)) [])
    (fun _ => cl36x0) (fun _ _ _ h => by cases h) (fun _ _ h => by cases h)
    (fun i hi hp => by
      rw [round36 E _ [] ha hm hi]
      simp only [List.getD_eq_getElem?_getD, List.getElem?_eq_getElem hi, Option.getD_some, Classical.not_not] at hp
      exact if_pos hp)
    (fun i hi hp => by
      rw [round36 E _ [] ha hm hi]
      simp only [List.getD_eq_getElem?_getD, List.getElem?_eq_getElem hi, Option.getD_some] at hp ⊢
      exact if_neg hp)
    (by simp [lp36x0]) (Nat.lt_succ_self _) with ⟨i, hi, hp, _, lp⟩ | ⟨hp, lp⟩
  · have hng : ¬ Good xs := fun hg => by
      have := (good_last xs).2 hg.2 i hi
      simp only [List.getD_eq_getElem?_getD, List.getElem?_eq_getElem hi, Option.getD_some] at hp
      exact hp this
    rw [decide_eq_false hng]
    have lp : iter (evC E (xs.length + 1) lp36x0) mask36x0 (xs.length + 1) (st36x0 a (.int .i64 0) a (.int .i64 (xs.length : Int)) (.int .i64 0)) [] = _ := lp
    simp [mf36, hl, go36x0 lp, -evBin, -evLenSl]
  · have hge : GoodE xs := (good_last xs).1 fun i hi => by
      have := Classical.not_not.1 (hp i hi)
      simpa only [List.getD_eq_getElem?_getD, List.getElem?_eq_getElem hi, Option.getD_some] using this
    have hg : decide (Good xs) = decide (xs.length ≤ 100) := by
      by_cases h : xs.length ≤ 100
      · rw [decide_eq_true h, decide_eq_true (show Good xs from ⟨h, hge⟩)]
      · rw [decide_eq_false h, decide_eq_false (show ¬ Good xs from fun hg => h hg.1)]
    rw [hg]
    have b1 : evBin .leq (.int .i64 (xs.length : Int)) (.int .i64 100) = some (.bool (decide (xs.length ≤ 100))) := by simp [evBin]; omega
    obtain ⟨z, hz⟩ : ∃ z, z = lastI xs xs.length := ⟨_, rfl⟩
    rw [← hz] at lp
    have lp : iter (evC E (xs.length + 1) lp36x0) mask36x0 (xs.length + 1) (st36x0 a (.int .i64 0) a (.int .i64 (xs.length : Int)) (.int .i64 0)) [] = _ := lp
    simp [mf36, hl, b1, go36x0 lp, -evBin, -evLenSl]
open Classical in
noncomputable def M36 : PModel := fun args => match args with
  | [a] => (intsOf a).map fun xs => .bool (decide (Good xs))
  | _ => none
theorem spec36 : PureSpec Tryd.prog GI 36 M36 := by
  refine PureSpec.of_ev (E := envOf GI []) (envOf_sound lookM_nil) rfl at36 comp36 1 ?_
  intro args r h
  unfold M36 at h
  split at h
  · simp only [Option.map_eq_some_iff] at h
    obtain ⟨xs, h1, rfl⟩ := h
    obtain ⟨k1, k2, k3⟩ := intsOf_some h1
    exact ⟨_, ev36 _ k1 k3⟩
  · cases h

/-! ### the reference's -/
set_option maxRecDepth 100000 in
theorem round31 (E : Env) (fuel : Nat) (A : Arena) {a : AV} {xs : List Int} (ha : SlA 1 (intsA xs) a) (hm : xs.length ≤ 9223372036854775807) {i : Nat} (hi : i < xs.length) :
    run E fuel [.code lp31x0] (st31x0 a (.int .i64 (i : Int))) A =
      if 1 ≤ xs[i] ∧ xs[i] ≤ 1000000 ∧ (∀ _ : 0 < i, xs[i - 1] < xs[i]) then some (.normal (st31x0 a (.int .i64 ((i + 1 : Nat) : Int))) A)
      else some (.ret [a, .bool false, .int .i64 (i : Int), .bool true, .bool true] A) := by
  have hl := ha.len
  simp only [intsA, List.length_map] at hl
  have x1 := ha.int (A := A) _ _ (List.getElem?_eq_getElem hi) .i64
  have x2 : ∀ _ : 0 < i, evIndexSl 1 A a (.int .i64 ((i - 1 : Nat) : Int)) = some (.fp [.int .i64 xs[i - 1]]) := fun h0 => ha.int (A := A) _ _ (List.getElem?_eq_getElem (show i - 1 < xs.length by omega)) .i64
  have b1 : evBin .lss (.int .i64 (i : Int)) (.int .i64 (xs.length : Int)) = some (.bool true) := by simp [evBin]; omega
  have b2 : evBin .lss (.int .i64 xs[i]) (.int .i64 1) = some (.bool (decide (xs[i] < 1))) := by simp [evBin]
  have b3 : evBin .gtr (.int .i64 xs[i]) (.int .i64 1000000) = some (.bool (decide (1000000 < xs[i]))) := by simp [evBin]
  have b4 := add1_nat i (by omega)
  have b5 : evBin .gtr (.int .i64 (i : Int)) (.int .i64 0) = some (.bool (decide (0 < i))) := by simp [evBin]
  have b6 : ∀ _ : 0 < i, evBin .sub (.int .i64 (i : Int)) (.int .i64 1) = some (.int .i64 ((i - 1 : Nat) : Int)) := fun h0 => by
    have : IntKind.i64.wrap ((i : Int) - 1) = ((i - 1 : Nat) : Int) := by rw [wrapI (by unfold inI; omega)]; omega
    simp only [evBin]; rw [if_pos trivial, this]
  have b7 : ∀ _ : 0 < i, evBin .geq (.int .i64 xs[i - 1]) (.int .i64 xs[i]) = some (.bool (decide (xs[i] ≤ xs[i - 1]))) := fun h0 => by simp [evBin]
  obtain ⟨i1, hi1⟩ : ∃ i1 : Nat, i1 = i + 1 := ⟨_, rfl⟩
  rw [← hi1] at b4 ⊢
  by_cases h1 : xs[i] < 1
  · rw [if_neg (by omega)]
    rw [decide_eq_true h1] at b2
    simp [lp31x0, hl, x1, b1, b2, -evBin, -evIndexSl, -evLenSl]
  · rw [decide_eq_false h1] at b2
    by_cases h2 : 1000000 < xs[i]
    · rw [if_neg (by omega)]
      rw [decide_eq_true h2] at b3
      simp [lp31x0, hl, x1, b1, b2, b3, -evBin, -evIndexSl, -evLenSl]
    · rw [decide_eq_false h2] at b3
      by_cases h3 : 0 < i
      · rw [decide_eq_true h3] at b5
        have b6 := b6 h3
        have b7 := b7 h3
        have x2 := x2 h3
        obtain ⟨y, hy⟩ : ∃ y, y = xs[i - 1] := ⟨_, rfl⟩
        obtain ⟨i0, hi0⟩ : ∃ i0, i0 = i - 1 := ⟨_, rfl⟩
        rw [← hy] at x2 b7
        rw [← hi0] at x2 b6
        by_cases h4 : xs[i] ≤ y
        · rw [if_neg (fun h => by have := h.2.2 h3; omega)]
          rw [decide_eq_true h4] at b7
          simp [lp31x0, hl, x1, x2, b1, b2, b3, b5, b6, b7, -evBin, -evIndexSl, -evLenSl]
        · rw [if_pos ⟨by omega, by omega, fun _ => by omega⟩]
          rw [decide_eq_false h4] at b7
          simp [lp31x0, hl, x1, x2, b1, b2, b3, b4, b5, b6, b7, -evBin, -evIndexSl, -evLenSl]
      · rw [decide_eq_false h3] at b5
        rw [if_pos ⟨by omega, by omega, fun h => absurd h h3⟩]
        simp [lp31x0, hl, x1, b1, b2, b3, b4, b5, -evBin, -evIndexSl, -evLenSl]

open Classical in
set_option maxRecDepth 100000 in
theorem ev31 (E : Env) {a : AV} {xs : List Int} (ha : SlA 1 (intsA xs) a) (hm : xs.length ≤ 9223372036854775807) : evP E (xs.length + 1) mf31 1 [a] = some (.bool (decide (Good xs))) := by
  have hl := ha.len
  simp only [intsA, List.length_map] at hl
  rw [evP_run _ _ rfl]
  rcases iter_search (E := E) (fuel := xs.length + 1) (a := lp31x0) (mask := mask31x0) (fun i => st31x0 a (.int .i64 (i : Int))) (fun _ => []) xs.length (fun i => ¬ ∀ hi : i < xs.length, 1 ≤ xs[i] ∧ xs[i] ≤ 1000000 ∧ (∀ _ : 0 < i, xs[i - 1] < xs[i]))
    (oF := fun i => .ret [a, .bool false, .int .i64 (i : Int), .bool true, .bool true] []) (oE := .exit 0 ((st31x0 a (.int .i64 (xs.length : Int))).set 3 (.bool false)) [])
    (fun _ => cl31x0) (fun _ _ _ h => by cases h) (fun _ _ h => by cases h)
    (fun i hi hp => by
      rw [round31 E _ [] ha hm hi]
      exact if_pos (Classical.not_not.1 hp hi))
    (fun i hi hp => by
      rw [round31 E _ [] ha hm hi]
      exact if_neg fun h => hp fun _ => h)
    (by simp [lp31x0, hl, -evLenSl]) (Nat.lt_succ_self _) with ⟨i, hi, hp, _, lp⟩ | ⟨hp, lp⟩
  · have hng : ¬ Good xs := fun hg => hp fun hi => hg.2 i hi
    rw [decide_eq_false hng]
    have lp : iter (evC E (xs.length + 1) lp31x0) mask31x0 (xs.length + 1) (st31x0 a (.int .i64 0)) [] = _ := lp
    simp [mf31, hl, go31x0 lp, -evBin, -evLenSl]
  · have hge : GoodE xs := fun i hi => Classical.not_not.1 (hp i hi) hi
    have hg : decide (Good xs) = decide (xs.length ≤ 100) := by
      by_cases h : xs.length ≤ 100
      · rw [decide_eq_true h, decide_eq_true (show Good xs from ⟨h, hge⟩)]
      · rw [decide_eq_false h, decide_eq_false (show ¬ Good xs from fun hg => h hg.1)]
    rw [hg]
    have b1 : evBin .leq (.int .i64 (xs.length : Int)) (.int .i64 100) = some (.bool (decide (xs.length ≤ 100))) := by simp [evBin]; omega
    have lp : iter (evC E (xs.length + 1) lp31x0) mask31x0 (xs.length + 1) (st31x0 a (.int .i64 0)) [] = _ := lp
    simp [mf31, hl, b1, go31x0 lp, -evBin, -evLenSl]
theorem spec31 : PureSpec Tryd.prog GI 31 M36 := by
  refine PureSpec.of_ev (E := envOf GI []) (envOf_sound lookM_nil) rfl at31 comp31 1 ?_
  intro args r h
  unfold M36 at h
  split at h
  · simp only [Option.map_eq_some_iff] at h
    obtain ⟨xs, h1, rfl⟩ := h
    obtain ⟨k1, k2, k3⟩ := intsOf_some h1
    exact ⟨_, ev31 _ k1 k3⟩
  · cases h
end Go.Proofs.YtkdjebioapholaaDoor
/-
  Inspect: tests, as they are given; Valid; has.
-/
namespace Go.Proofs.YtkdjebioapholaaDoor
open Go

noncomputable def testOf : AV → Option (List Int)
  | .agg [s] => intsOf s
  | _ => none
noncomputable def testsOf (a : AV) : Option (List (List Int)) := listOf testOf a
theorem testOf_some {a : AV} {t : List Int} (h : testOf a = some t) : ∃ s, a = .agg [s] ∧ intsOf s = some t := by
  unfold testOf at h
  split at h
  · exact ⟨_, rfl, h⟩
  · cases h
section
variable {a : AV} {ts : List (List Int)}
theorem testsOf_len (h : testsOf a = some ts) : evLenSl a = some (.int .i64 (ts.length : Int)) ∧ ts.length ≤ 9223372036854775807 := by
  obtain ⟨es, h1, h2, h3, h4⟩ := listOf_sl h
  exact ⟨by rw [h1.len, h2], h4⟩
theorem testsOf_at (h : testsOf a = some ts) {i : Nat} (hi : i < ts.length) : ∃ s, intsOf s = some ts[i] ∧ ∀ A k, evIndexSl 1 A a (.int k (i : Int)) = some (.fp [s]) := by
  obtain ⟨es, h1, h2, h3, h4⟩ := listOf_sl h
  obtain ⟨s, e, hs⟩ := testOf_some (h3 i (by omega) hi)
  refine ⟨s, hs, fun A k => ?_⟩
  have hx : es[i]? = some (.agg [s]) := by rw [List.getElem?_eq_getElem (by omega), e]
  have hsol : (AV.agg [s]).solid = true := by
    rcases (intsOf_some hs).1 with ⟨rfl, _⟩ | rfl <;> rfl
  exact h1.index hx hsol (by omega) k
theorem testsOf_frz (h : testsOf a = some ts) (A : Arena) (n : Nat) : frz A n a = a := by
  obtain ⟨es, h1, _⟩ := listOf_sl h
  exact h1.frz n
theorem testsOf_noRef (h : testsOf a = some ts) (n : Nat) : noRefB n a = true := by
  obtain ⟨es, h1, _⟩ := listOf_sl h
  rcases h1 with ⟨rfl, _⟩ | rfl <;> cases n <;> rfl
end
theorem testsOf_testsA {ts : List (List Int)} (hl : ts.length ≤ 9223372036854775807) (h : ∀ t ∈ ts, t.length ≤ 9223372036854775807 ∧ ∀ z ∈ t, inI z) : testsOf (testsA ts) = some ts :=
  listOf_of (slA_holds _ _) hl fun t ht => intsOf_of (slA_holds _ _) (h t ht).1 (h t ht).2
theorem intsOf_slA {xs : List Int} (hl : xs.length ≤ 9223372036854775807) (h : ∀ z ∈ xs, inI z) : intsOf (slA 1 (intsA xs)) = some xs := intsOf_of (slA_holds _ _) hl h

/-! ### has -/
open Classical in
set_option maxRecDepth 100000 in
theorem ev37 (E : Env) {a : AV} {xs : List Int} (ha : SlA 1 (intsA xs) a) (hm : xs.length ≤ 9223372036854775807) (n : Int) : evP E (xs.length + 1) mf37 1 [a, .int .i64 n] = some (.bool (decide (n ∈ xs))) := by
  have hl := ha.len
  simp only [intsA, List.length_map] at hl
  have round : ∀ (A : Arena) (i : Nat) (hi : i < xs.length), run E (xs.length + 1) [.code lp37x0] (st37x0 a (.int .i64 n) (.int .i64 (i : Int))) A =
      if xs[i] = n then some (.ret [a, .int .i64 n, .bool true, .int .i64 (i : Int), .bool true, .bool true] A) else some (.normal (st37x0 a (.int .i64 n) (.int .i64 ((i + 1 : Nat) : Int))) A) := fun A i hi => by
    have x1 := ha.int (A := A) _ _ (List.getElem?_eq_getElem hi) .i64
    have b1 : evBin .lss (.int .i64 (i : Int)) (.int .i64 (xs.length : Int)) = some (.bool true) := by simp [evBin]; omega
    have b2 : evBin .eql (.int .i64 xs[i]) (.int .i64 n) = some (.bool (decide (xs[i] = n))) := by simp [evBin]
    have b3 := add1_nat i (by omega)
    obtain ⟨i1, hi1⟩ : ∃ i1 : Nat, i1 = i + 1 := ⟨_, rfl⟩
    rw [← hi1] at b3 ⊢
    by_cases h : xs[i] = n
    · rw [if_pos h]
      rw [decide_eq_true h] at b2
      simp [lp37x0, hl, x1, b1, b2, -evBin, -evIndexSl, -evLenSl]
    · rw [if_neg h]
      rw [decide_eq_false h] at b2
      simp [lp37x0, hl, x1, b1, b2, b3, -evBin, -evIndexSl, -evLenSl]
  rw [evP_run _ _ rfl]
  rcases iter_search (E := E) (fuel := xs.length + 1) (a := lp37x0) (mask := mask37x0) (fun i => st37x0 a (.int .i64 n) (.int .i64 (i : Int))) (fun _ => []) xs.length (fun i => xs[i]? = some n)
    (oF := fun i => .ret [a, .int .i64 n, .bool true, .int .i64 (i : Int), .bool true, .bool true] []) (oE := .exit 0 ((st37x0 a (.int .i64 n) (.int .i64 (xs.length : Int))).set 4 (.bool false)) [])
    (fun _ => cl37x0) (fun _ _ _ h => by cases h) (fun _ _ h => by cases h)
    (fun i hi hp => by
      rw [round [] i hi]
      exact if_neg fun h => hp (by rw [List.getElem?_eq_getElem hi, h]))
    (fun i hi hp => by
      rw [round [] i hi]
      exact if_pos (by rw [List.getElem?_eq_getElem hi] at hp; injection hp))
    (by simp [lp37x0, hl, -evLenSl]) (Nat.lt_succ_self _) with ⟨i, hi, hp, _, lp⟩ | ⟨hp, lp⟩
  · rw [decide_eq_true (List.mem_of_getElem? hp)]
    have lp : iter (evC E (xs.length + 1) lp37x0) mask37x0 (xs.length + 1) (st37x0 a (.int .i64 n) (.int .i64 0)) [] = _ := lp
    simp [mf37, hl, go37x0 lp, -evBin, -evLenSl]
  · have hn : ¬ n ∈ xs := fun h => by
      obtain ⟨i, hi⟩ := List.mem_iff_getElem?.1 h
      exact hp i (List.getElem?_eq_some_iff.1 hi).1 hi
    rw [decide_eq_false hn]
    have lp : iter (evC E (xs.length + 1) lp37x0) mask37x0 (xs.length + 1) (st37x0 a (.int .i64 n) (.int .i64 0)) [] = _ := lp
    simp [mf37, hl, go37x0 lp, -evBin, -evLenSl]
open Classical in
noncomputable def M37 : PModel := fun args => match args with
  | [a, .int .i64 n] => (intsOf a).map fun xs => .bool (decide (n ∈ xs))
  | _ => none
theorem spec37 : PureSpec Tryd.prog GI 37 M37 := by
  refine PureSpec.of_ev (E := envOf GI []) (envOf_sound lookM_nil) rfl at37 comp37 1 ?_
  intro args r h
  unfold M37 at h
  split at h
  · simp only [Option.map_eq_some_iff] at h
    obtain ⟨xs, h1, rfl⟩ := h
    obtain ⟨k1, k2, k3⟩ := intsOf_some h1
    exact ⟨_, ev37 _ k1 k3 _⟩
  · cases h

/-! ### Valid -/
open Classical in
noncomputable def M35 : PModel := fun args => match args with
  | [.agg [s]] => (intsOf s).map fun xs => .bool (!decide (Good xs))
  | _ => none
noncomputable def fs35 : List (FuncId × HModel) := [(36, pureH 4 M36)]
@[simp] theorem fs35_36 : lookM fs35 36 = some (pureH 4 M36) := rfl
theorem sound35 : ∀ f M, lookM fs35 f = some M → FnSpecY Tryd.prog GI f M := lookM_cons (FnSpecY.of_pure spec36 4) lookM_nil
open Classical in
theorem spec35 : PureSpec Tryd.prog GI 35 M35 := by
  refine PureSpec.of_ev (E := envOf GI fs35) (envOf_sound sound35) rfl at35 comp35 1 ?_
  intro args r h
  unfold M35 at h
  split at h
  · rename_i s
    simp only [Option.map_eq_some_iff] at h
    obtain ⟨xs, h1, rfl⟩ := h
    refine ⟨0, ?_⟩
    have hfz := intsOf_frz h1
    have m : M36 [s] = some (.bool (decide (Good xs))) := by simp only [M36, h1, Option.map_some]
    have hsol : s.solid = true := by rcases (intsOf_some h1).1 with ⟨rfl, _⟩ | rfl <;> rfl
    have hcl : cellsOf s = [s] := by rcases (intsOf_some h1).1 with ⟨rfl, _⟩ | rfl <;> rfl
    have hfl : flat1 s = true := by rcases (intsOf_some h1).1 with ⟨rfl, _⟩ | rfl <;> rfl
    rw [evP_run _ _ rfl]
    simp [mf35, m, hfz, hsol, hcl, hfl]
  · cases h
end Go.Proofs.YtkdjebioapholaaDoor
/-
  Inspect: Valid, twice; few.
-/
namespace Go.Proofs.YtkdjebioapholaaDoor
open Go

/-! ### IndexFunc, ContainsFunc -/
def fn35 : AV := .func (.func 35) [] []
noncomputable def fs42 : List (FuncId × HModel) := [(35, pureH 4 M35)]
@[simp] theorem fs42_35 : lookM fs42 35 = some (pureH 4 M35) := rfl
theorem sound42 : ∀ f M, lookM fs42 f = some M → FnSpecY Tryd.prog GI f M := lookM_cons (FnSpecY.of_pure spec35 4) lookM_nil

open Classical in
set_option maxRecDepth 100000 in
theorem ev42 {a : AV} {ts : List (List Int)} (ha : testsOf a = some ts) : ∃ z : Int, evP (envOf GI fs42) (ts.length + 1) mf42 1 [a, fn35] = some (.int .i64 z) ∧ decide (0 ≤ z) = decide (∃ t ∈ ts, ¬ Good t) := by
  obtain ⟨hl, hm⟩ := testsOf_len ha
  have round : ∀ (A : Arena) (i : Nat) (hi : i < ts.length), run (envOf GI fs42) (ts.length + 1) [.code lp42x0] (st42x0 a fn35 (.int .i64 (ts.length : Int)) (.int .i64 (i : Int))) A =
      if Good ts[i] then some (.normal (st42x0 a fn35 (.int .i64 (ts.length : Int)) (.int .i64 ((i + 1 : Nat) : Int))) A) else some (.ret [a, fn35, .int .i64 (i : Int), .int .i64 (i : Int), .int .i64 (ts.length : Int), .int .i64 (i : Int), .bool true, .bool true] A) := fun A i hi => by
    obtain ⟨s, hs, x1⟩ := testsOf_at ha hi
    have x1 := x1 A .i64
    have hfz := intsOf_frz hs
    have hnr := intsOf_noRef hs
    have m : M35 [.agg [s]] = some (.bool (!decide (Good ts[i]))) := by simp only [M35, hs, Option.map_some]
    have b1 : evBin .lss (.int .i64 (i : Int)) (.int .i64 (ts.length : Int)) = some (.bool true) := by simp [evBin]; omega
    have b3 := add1_nat i (by omega)
    obtain ⟨i1, hi1⟩ : ∃ i1 : Nat, i1 = i + 1 := ⟨_, rfl⟩
    rw [← hi1] at b3 ⊢
    by_cases h : Good ts[i]
    · rw [if_pos h]
      rw [decide_eq_true h] at m
      simp [lp42x0, fn35, x1, m, hfz, hnr, b1, b3, -evBin, -evIndexSl, -evLenSl]
    · rw [if_neg h]
      rw [decide_eq_false h] at m
      simp [lp42x0, fn35, x1, m, hfz, hnr, b1, b3, -evBin, -evIndexSl, -evLenSl]
  rw [evP_run _ _ rfl]
  rcases iter_search (E := envOf GI fs42) (fuel := ts.length + 1) (a := lp42x0) (mask := mask42x0) (fun i => st42x0 a fn35 (.int .i64 (ts.length : Int)) (.int .i64 (i : Int))) (fun _ => []) ts.length (fun i => ¬ ∀ hi : i < ts.length, Good ts[i])
    (oF := fun i => .ret [a, fn35, .int .i64 (i : Int), .int .i64 (i : Int), .int .i64 (ts.length : Int), .int .i64 (i : Int), .bool true, .bool true] []) (oE := .exit 0 ((st42x0 a fn35 (.int .i64 (ts.length : Int)) (.int .i64 (ts.length : Int))).set 6 (.bool false)) [])
    (fun _ => cl42x0) (fun _ _ _ h => by cases h) (fun _ _ h => by cases h)
    (fun i hi hp => by
      rw [round [] i hi]
      exact if_pos (Classical.not_not.1 hp hi))
    (fun i hi hp => by
      rw [round [] i hi]
      exact if_neg fun h => hp fun _ => h)
    (by simp [lp42x0]) (Nat.lt_succ_self _) with ⟨i, hi, hp, _, lp⟩ | ⟨hp, lp⟩
  · refine ⟨i, ?_, ?_⟩
    · have lp : iter (evC (envOf GI fs42) (ts.length + 1) lp42x0) mask42x0 (ts.length + 1) (st42x0 a fn35 (.int .i64 (ts.length : Int)) (.int .i64 0)) [] = _ := lp
      simp [mf42, hl, go42x0 lp, -evBin, -evLenSl]
    · rw [decide_eq_true (show (0 : Int) ≤ i by omega), decide_eq_true]
      exact ⟨ts[i], List.getElem_mem hi, fun h => hp fun _ => h⟩
  · refine ⟨-1, ?_, ?_⟩
    · have lp : iter (evC (envOf GI fs42) (ts.length + 1) lp42x0) mask42x0 (ts.length + 1) (st42x0 a fn35 (.int .i64 (ts.length : Int)) (.int .i64 0)) [] = _ := lp
      simp [mf42, hl, go42x0 lp, -evBin, -evLenSl]
    · rw [decide_eq_false (show ¬ (0 : Int) ≤ -1 by omega), decide_eq_false]
      rintro ⟨t, ht, hg⟩
      obtain ⟨i, hi, rfl⟩ := List.mem_iff_getElem.1 ht
      exact hg (Classical.not_not.1 (hp i hi) hi)
open Classical in
noncomputable def M42 : PModel := fun args => match args with
  | [a, .func (.func 35) [] []] => if h : ∃ ts, testsOf a = some ts then some (.int .i64 (Classical.choose (ev42 (Classical.choose_spec h)))) else none
  | _ => none
theorem M42_eq {a : AV} {ts : List (List Int)} (h : testsOf a = some ts) : ∃ z : Int, M42 [a, .func (.func 35) [] []] = some (.int .i64 z) ∧ (open Classical in decide (0 ≤ z) = decide (∃ t ∈ ts, ¬ Good t)) := by
  have hx : ∃ ts, testsOf a = some ts := ⟨ts, h⟩
  have he : Classical.choose hx = ts := Option.some.inj ((Classical.choose_spec hx).symm.trans h)
  refine ⟨Classical.choose (ev42 (Classical.choose_spec hx)), by simp only [M42]; rw [dif_pos hx], ?_⟩
  have := (Classical.choose_spec (ev42 (Classical.choose_spec hx))).2
  rw [this, he]
theorem spec42 : PureSpec Tryd.prog GI 42 M42 := by
  refine PureSpec.of_ev (E := envOf GI fs42) (envOf_sound sound42) rfl at42 comp42 1 ?_
  intro args r h
  unfold M42 at h
  split at h
  · split at h
    · rename_i hx
      injection h with h; subst h
      exact ⟨_, (Classical.choose_spec (ev42 (Classical.choose_spec hx))).1⟩
    · cases h
  · cases h

open Classical in
noncomputable def M34 : PModel := fun args => match args with
  | [a, .func (.func 35) [] []] => (testsOf a).map fun ts => .bool (decide (∃ t ∈ ts, ¬ Good t))
  | _ => none
noncomputable def fs34 : List (FuncId × HModel) := [(42, pureH 4 M42)]
@[simp] theorem fs34_42 : lookM fs34 42 = some (pureH 4 M42) := rfl
theorem sound34 : ∀ f M, lookM fs34 f = some M → FnSpecY Tryd.prog GI f M := lookM_cons (FnSpecY.of_pure spec42 4) lookM_nil
theorem spec34 : PureSpec Tryd.prog GI 34 M34 := by
  refine PureSpec.of_ev (E := envOf GI fs34) (envOf_sound sound34) rfl at34 comp34 1 ?_
  intro args r h
  unfold M34 at h
  split at h
  · simp only [Option.map_eq_some_iff] at h
    obtain ⟨ts, h1, rfl⟩ := h
    refine ⟨0, ?_⟩
    obtain ⟨z, m, hz⟩ := M42_eq h1
    have hfz := testsOf_frz h1
    have hnr := testsOf_noRef h1
    have b1 : evBin .geq (.int .i64 z) (.int .i64 0) = some (.bool (decide (0 ≤ z))) := by simp [evBin]
    rw [hz] at b1
    rw [evP_run _ _ rfl]
    simp [mf34, m, hfz, hnr, b1, -evBin]
  · cases h

/-! ### Valid -/
open Classical in
noncomputable def M17 : PModel := fun args => match args with
  | [a] => (testsOf a).map fun ts => .bool (decide (GoodT ts))
  | _ => none
noncomputable def fs17 : List (FuncId × HModel) := [(34, pureH 4 M34), (35, pureH 4 M35)]
@[simp] theorem fs17_34 : lookM fs17 34 = some (pureH 4 M34) := rfl
@[simp] theorem fs17_35 : lookM fs17 35 = some (pureH 4 M35) := rfl
theorem sound17 : ∀ f M, lookM fs17 f = some M → FnSpecY Tryd.prog GI f M := lookM_cons (FnSpecY.of_pure spec34 4) (lookM_cons (FnSpecY.of_pure spec35 4) lookM_nil)
theorem goodT_not {ts : List (List Int)} : GoodT ts ↔ ts.length ≤ 16 ∧ ¬ ∃ t ∈ ts, ¬ Good t := by
  unfold GoodT
  simp only [not_exists, not_and, Classical.not_not]
open Classical in
theorem spec17 : PureSpec Tryd.prog GI 17 M17 := by
  refine PureSpec.of_ev (E := envOf GI fs17) (envOf_sound sound17) rfl at17 comp17 1 ?_
  intro args r h
  unfold M17 at h
  split at h
  · simp only [Option.map_eq_some_iff] at h
    obtain ⟨ts, h1, rfl⟩ := h
    refine ⟨0, ?_⟩
    obtain ⟨hl, hm⟩ := testsOf_len h1
    rename_i a
    have m : M34 [a, .func (.func 35) [] []] = some (.bool (decide (∃ t ∈ ts, ¬ Good t))) := by simp only [M34, h1, Option.map_some]
    have hfz := testsOf_frz h1
    have hnr := testsOf_noRef h1
    have b1 : evBin .leq (.int .i64 (ts.length : Int)) (.int .i64 16) = some (.bool (decide (ts.length ≤ 16))) := by simp [evBin]; omega
    rw [evP_run _ _ rfl]
    by_cases h16 : ts.length ≤ 16
    · rw [decide_eq_true h16] at b1
      by_cases hg : ∃ t ∈ ts, ¬ Good t
      · rw [decide_eq_false (show ¬ GoodT ts from fun h => (goodT_not.1 h).2 hg)]
        rw [decide_eq_true hg] at m
        simp [mf17, m, hfz, hnr, hl, b1, -evBin, -evLenSl]
      · rw [decide_eq_true (show GoodT ts from goodT_not.2 ⟨h16, hg⟩)]
        rw [decide_eq_false hg] at m
        simp [mf17, m, hfz, hnr, hl, b1, -evBin, -evLenSl]
    · rw [decide_eq_false h16] at b1
      rw [decide_eq_false (show ¬ GoodT ts from fun h => h16 h.1)]
      simp [mf17, hl, b1, -evBin, -evLenSl]
  · cases h

noncomputable def fs18 : List (FuncId × HModel) := [(31, pureH 4 M36)]
@[simp] theorem fs18_31 : lookM fs18 31 = some (pureH 4 M36) := rfl
theorem sound18 : ∀ f M, lookM fs18 f = some M → FnSpecY Tryd.prog GI f M := lookM_cons (FnSpecY.of_pure spec31 4) lookM_nil
open Classical in
set_option maxRecDepth 100000 in
theorem ev18 {a : AV} {ts : List (List Int)} (ha : testsOf a = some ts) : evP (envOf GI fs18) (ts.length + 1) mf18 1 [a] = some (.bool (decide (GoodT ts))) := by
  obtain ⟨hl, hm⟩ := testsOf_len ha
  have round : ∀ (A : Arena) (i : Nat) (hi : i < ts.length), run (envOf GI fs18) (ts.length + 1) [.code lp18x0] (st18x0 a (.int .i64 (i : Int))) A =
      if Good ts[i] then some (.normal (st18x0 a (.int .i64 ((i + 1 : Nat) : Int))) A) else some (.ret [a, .bool false, .int .i64 (i : Int), .undef, .bool true, .bool true] A) := fun A i hi => by
    obtain ⟨s, hs, x1⟩ := testsOf_at ha hi
    have x1 := x1 A .i64
    have hfz := intsOf_frz hs
    have hnr := intsOf_noRef hs
    have m : M36 [s] = some (.bool (decide (Good ts[i]))) := by simp only [M36, hs, Option.map_some]
    have b1 : evBin .lss (.int .i64 (i : Int)) (.int .i64 (ts.length : Int)) = some (.bool true) := by simp [evBin]; omega
    have b3 := add1_nat i (by omega)
    obtain ⟨i1, hi1⟩ : ∃ i1 : Nat, i1 = i + 1 := ⟨_, rfl⟩
    rw [← hi1] at b3 ⊢
    by_cases h : Good ts[i]
    · rw [if_pos h]
      rw [decide_eq_true h] at m
      simp [lp18x0, hl, x1, m, hfz, hnr, b1, b3, -evBin, -evIndexSl, -evLenSl]
    · rw [if_neg h]
      rw [decide_eq_false h] at m
      simp [lp18x0, hl, x1, m, hfz, hnr, b1, -evBin, -evIndexSl, -evLenSl]
  have b0 : evBin .gtr (.int .i64 (ts.length : Int)) (.int .i64 16) = some (.bool (decide (16 < ts.length))) := by simp [evBin]; omega
  rw [evP_run _ _ rfl]
  by_cases h16 : 16 < ts.length
  · rw [decide_eq_true h16] at b0
    rw [decide_eq_false (show ¬ GoodT ts from fun h => by have := h.1; omega)]
    simp [mf18, hl, b0, -evBin, -evLenSl]
  rw [decide_eq_false h16] at b0
  rcases iter_search (E := envOf GI fs18) (fuel := ts.length + 1) (a := lp18x0) (mask := mask18x0) (fun i => st18x0 a (.int .i64 (i : Int))) (fun _ => []) ts.length (fun i => ¬ ∀ hi : i < ts.length, Good ts[i])
    (oF := fun i => .ret [a, .bool false, .int .i64 (i : Int), .undef, .bool true, .bool true] []) (oE := .exit 0 ((st18x0 a (.int .i64 (ts.length : Int))).set 4 (.bool false)) [])
    (fun _ => cl18x0) (fun _ _ _ h => by cases h) (fun _ _ h => by cases h)
    (fun i hi hp => by
      rw [round [] i hi]
      exact if_pos (Classical.not_not.1 hp hi))
    (fun i hi hp => by
      rw [round [] i hi]
      exact if_neg fun h => hp fun _ => h)
    (by simp [lp18x0, hl, -evLenSl]) (Nat.lt_succ_self _) with ⟨i, hi, hp, _, lp⟩ | ⟨hp, lp⟩
  · have lp : iter (evC (envOf GI fs18) (ts.length + 1) lp18x0) mask18x0 (ts.length + 1) (st18x0 a (.int .i64 0)) [] = _ := lp
    rw [decide_eq_false (show ¬ GoodT ts from fun h => hp fun _ => h.2 _ (List.getElem_mem hi))]
    simp [mf18, hl, b0, go18x0 lp, -evBin, -evLenSl]
  · have lp : iter (evC (envOf GI fs18) (ts.length + 1) lp18x0) mask18x0 (ts.length + 1) (st18x0 a (.int .i64 0)) [] = _ := lp
    rw [decide_eq_true (show GoodT ts from ⟨by omega, fun t ht => by
      obtain ⟨i, hi, rfl⟩ := List.mem_iff_getElem.1 ht
      exact Classical.not_not.1 (hp i hi) hi⟩)]
    simp [mf18, hl, b0, go18x0 lp, -evBin, -evLenSl]
theorem spec18 : PureSpec Tryd.prog GI 18 M17 := by
  refine PureSpec.of_ev (E := envOf GI fs18) (envOf_sound sound18) rfl at18 comp18 1 ?_
  intro args r h
  unfold M17 at h
  split at h
  · simp only [Option.map_eq_some_iff] at h
    obtain ⟨ts, h1, rfl⟩ := h
    exact ⟨_, ev18 h1⟩
  · cases h
end Go.Proofs.YtkdjebioapholaaDoor
/-
  Inspect: decided: a loop over a map, by hand.
-/
namespace Go.Proofs.YtkdjebioapholaaDoor
open Go

def valI : Value → Int
  | .int _ n => n
  | _ => 0

/-- the world, another number of draws -/
def atDraw (w : World) (k : Nat) : World := { w with drawn := k }
theorem setBlock_alloc (w : World) (o o' : Obj) : ChangeMaps.setBlock (w.alloc o) w.heap.size o' = w.alloc o' := by
  have hp : ∀ (h : Array Obj) (x y : Obj), (h.push x).setIfInBounds h.size y = h.push y := fun h x y => by
    apply Array.toList_inj.1
    simp
  show ({ w.alloc o with heap := (w.heap.push o).setIfInBounds w.heap.size o' } : World) = _
  rw [hp]; rfl

theorem run_next_d {P : Program} (w : World) (k : Nat) (bm clock : Nat) (seen : Array Nat) (es : Array MapEntry) (hb : w.heap[bm]? = some (.map es clock)) (hold : ∀ x ∈ es.toList, x.born < clock) :
    ((leftOf es seen).size = 0 ∧ ∀ ty, (Instr.next (.pointer (some ⟨w.heap.size, 0, none⟩)) false ty).run P ((atDraw w k).alloc (.mapIter (some bm) clock seen clock)) = .ok (.tuple #[.bool false]) ((atDraw w k).alloc (.mapIter (some bm) clock seen clock))) ∨
    ∃ e ∈ (leftOf es seen).toList, ∃ k', ∀ ty, (Instr.next (.pointer (some ⟨w.heap.size, 0, none⟩)) false ty).run P ((atDraw w k).alloc (.mapIter (some bm) clock seen clock)) = .ok (.tuple #[.bool true, e.key, e.val]) ((atDraw w k').alloc (.mapIter (some bm) clock (seen.push e.born) clock)) := by
  have hlt : bm < w.heap.size := (Array.getElem?_eq_some_iff.1 hb).1
  have hr : ((atDraw w k).alloc (.mapIter (some bm) clock seen clock)).heap[w.heap.size]? = some (.mapIter (some bm) clock seen clock) := heap_alloc_new (atDraw w k) _
  have hb' : ((atDraw w k).alloc (.mapIter (some bm) clock seen clock)).heap[bm]? = some (.map es clock) := by rw [heap_alloc_old (atDraw w k) _ hlt]; exact hb
  rcases run_next_at (P := P) _ 0 w.heap.size bm clock clock seen es clock hr hb' hold (Nat.le_refl _) with ⟨h0, h1⟩ | ⟨e, he, w1, hw1, h1⟩
  · exact .inl ⟨h0, fun _ => h1⟩
  · refine .inr ⟨e, he, ?_⟩
    rcases hw1 with rfl | rfl
    · exact ⟨k, fun _ => by
        have h2 := setBlock_alloc (atDraw w k) (.mapIter (some bm) clock seen clock) (.mapIter (some bm) clock (seen.push e.born) clock)
        rw [show (atDraw w k).heap.size = w.heap.size from rfl] at h2
        rw [h2] at h1; exact h1⟩
    · exact ⟨k + 1, fun _ => by
        have h2 := setBlock_alloc (atDraw w (k + 1)) (.mapIter (some bm) clock seen clock) (.mapIter (some bm) clock (seen.push e.born) clock)
        rw [show (atDraw w (k + 1)).heap.size = w.heap.size from rfl] at h2
        rw [← h2]; exact h1⟩

set_option maxRecDepth 1000000 in
theorem walk29 (bm : Nat) (es : Array MapEntry) (clock : Nat) (c : Int) (w : World) (hb : w.heap[bm]? = some (.map es clock)) (hst : bornOk es clock) (hv : ∀ x ∈ es.toList, ∃ v, x.val = .int .u64 v) :
    Calls Tryd.prog 29 #[.map (some bm), .int .u64 c] w fun e w' => e = .returned (.bool (decide (∀ x ∈ es.toList, andI .u64 (valI x.val) c ≠ 0))) ∧ ∃ (k : Nat) (seen : Array Nat), w' = (atDraw w k).alloc (.mapIter (some bm) clock seen clock) := by
  have hrg := run_range_map (P := Tryd.prog) w 42 3 48 bm es clock Tryd.underlying42 hb
  go_enter Tryd.func29, Tryd.ntmps29
  go_wp2
  go_loopw [] (fun w' => ∃ (k : Nat) (seen : Array Nat), w' = (atDraw w k).alloc (.mapIter (some bm) clock seen clock) ∧ ∀ x ∈ es.toList, seen.contains x.born = true → andI .u64 (valI x.val) c ≠ 0) (fun w' => (leftOf es (w'.iterSeen w.heap.size)).size)
  case atStart => exact ⟨w.drawn, #[], rfl, fun x _ h => by simp at h⟩
  case round =>
    obtain ⟨k, seen, rfl, hseen⟩ := hrel
    rcases run_next_d (P := Tryd.prog) w k bm clock seen es hb hst.1 with ⟨h0, hnx⟩ | ⟨e, he, k', hnx⟩
    · go_wp2
      go_ret
      refine ⟨?_, k, seen, rfl⟩
      have hall : ∀ x ∈ es.toList, andI .u64 (valI x.val) c ≠ 0 := fun x hx => hseen x hx ?_
      · rw [decide_eq_true hall]; rfl
      have hn : leftOf es seen = #[] := Array.eq_empty_of_size_eq_zero h0
      unfold leftOf at hn
      rw [Array.filter_eq_empty_iff] at hn
      have := hn x (by simpa using hx)
      simpa using this
    · obtain ⟨hem, hes⟩ := mem_left he
      obtain ⟨v, hval⟩ := hv e hem
      rw [hval] at hnx
      have hen := run_entry_map (P := Tryd.prog) (atDraw w k') bm clock seen es clock e hb hem hst.2
      rw [show (atDraw w k').heap.size = w.heap.size from rfl, hval] at hen
      go_wp2
      case roundEnd =>
        rename_i hne
        refine ⟨⟨k', seen.push e.born, rfl, fun x hx hc => ?_⟩, ?_⟩
        · by_cases hxe : x.born = e.born
          · have : x = e := by
              have h1 := find_born x es.toList hst.2 hx
              have h2 := find_born e es.toList hst.2 hem
              rw [hxe, h2] at h1
              injection h1 with h1; exact h1.symm
            rw [this, hval]
            exact hne
          · refine hseen x hx ?_
            simp only [Array.contains_eq_mem, Array.mem_push, decide_eq_true_eq] at hc ⊢
            exact hc.resolve_right hxe
        · have e1 := World.iterSeen_alloc (atDraw w k') (some bm) clock (seen.push e.born) clock
          have e2 := World.iterSeen_alloc (atDraw w k) (some bm) clock seen clock
          rw [show (atDraw w k').heap.size = w.heap.size from rfl] at e1
          rw [show (atDraw w k).heap.size = w.heap.size from rfl] at e2
          rw [e1, e2]
          exact left_shrinks es seen e he
      · rename_i heq
        go_ret
        refine ⟨?_, k', seen.push e.born, rfl⟩
        have hall : ¬ ∀ x ∈ es.toList, andI .u64 (valI x.val) c ≠ 0 := fun h => h e hem (by rw [hval]; exact heq)
        rw [decide_eq_false hall]; rfl

/-- what is not zero behind the mask, in all of the map -/
def u64Of : AV → Option Int
  | .int .u64 n => some n
  | _ => none
def M29 : Model := fun args A => match args with
  | [.map id, .int .u64 c] => match A[id]? with
    | some (.map kvs) => if kvs.all (fun x => (u64Of x.2).isSome) = true then some (.bool (kvs.all fun x => !decide (andI .u64 ((u64Of x.2).getD 0) c = 0)), A) else none
    | _ => none
  | _ => none
theorem spec29 : FnSpec Tryd.prog GI 29 M29 := by
  refine ⟨enters_of Tryd.func29 (by decide) rfl, fun args A r A' he w OK g vs hA hG hl => ?_⟩
  unfold M29 at he
  split at he
  · rename_i id c
    split at he
    · rename_i kvs hid
      simp only [Option.ite_none_right_eq_some, Option.some.injEq, Prod.mk.injEq, List.all_eq_true] at he
      obtain ⟨hu, rfl, rfl⟩ := he
      match vs, hl with
      | [v1, v2], hl =>
        obtain ⟨h1, h2, _⟩ := hl
        obtain rfl := h2.inv_int
        obtain ⟨inc, es, clock, hg, rfl, hh, hsz, hborn, hrel⟩ := map_block hA hid h1
        have hvals : ∀ j (h : j < kvs.length) (h' : j < es.toList.length), (es.toList[j]).val = .int .u64 ((u64Of (kvs[j]).2).getD 0) := fun j h h' => by
          have hj := (hrel j h h').2
          have := hu _ (List.getElem_mem h)
          cases hk : (kvs[j]).2 <;> simp only [hk, u64Of, Option.isSome_none, Bool.false_eq_true] at this
          rename_i kk n
          cases kk <;> simp only [u64Of, Option.isSome_none, Bool.false_eq_true] at this
          rw [hk] at hj
          rw [hj.inv_int]; rfl
        have hv : ∀ x ∈ es.toList, ∃ v, x.val = .int .u64 v := fun x hx => by
          obtain ⟨j, hj, rfl⟩ := List.mem_iff_getElem.1 hx
          exact ⟨_, hvals j (by simp at hj; omega) hj⟩
        refine (walk29 inc.b es clock c w hh hborn hv).mono ?_
        rintro e w' ⟨rfl, k, seen, rfl⟩
        have e1 : decide (∀ x ∈ es.toList, andI .u64 (valI x.val) c ≠ 0) = kvs.all (fun x => !decide (andI .u64 ((u64Of x.2).getD 0) c = 0)) := by
          rw [Bool.eq_iff_iff]
          simp only [decide_eq_true_eq, List.all_eq_true, Bool.not_eq_true', decide_eq_false_iff_not]
          constructor
          · intro h x hx
            obtain ⟨j, hj, rfl⟩ := List.mem_iff_getElem.1 hx
            have := h _ (List.getElem_mem (show j < es.toList.length by simp; omega))
            rw [hvals j hj (by simp; omega)] at this
            exact this
          · intro h x hx
            obtain ⟨j, hj, rfl⟩ := List.mem_iff_getElem.1 hx
            rw [hvals j (by simp at hj; omega) hj]
            exact h _ (List.getElem_mem _)
        refine ⟨_, OK, g, rfl, by rw [e1]; exact .bool _ _, ?_, ?_⟩
        · refine hA.keep (w' := (atDraw w k).alloc _) ?_ (fun b hb => ?_) OK (fun _ h => h) (fun _ h => .inl h) (fun b hb => ?_)
          · simp [World.alloc, atDraw]
          · exact heap_alloc_old (atDraw w k) _ hb
          · have := hA.ok b hb
            simp [World.alloc, atDraw]; omega
        · exact ⟨rfl, rfl, rfl, by simp [World.alloc, atDraw], fun b hb _ => heap_alloc_old (atDraw w k) _ hb, g.le_refl, fun _ h => h, fun id inc h => .inl ⟨id, inc, h, rfl⟩, fun _ h => .inl h,
            fun b r hb _ => (heap_alloc_old (atDraw w k) _ (Array.getElem?_eq_some_iff.1 hb).1).trans hb, fun _ _ _ _ => rfl⟩
    · cases he
  · cases he
end Go.Proofs.YtkdjebioapholaaDoor
/-
  Inspect: deciders: the map from wafers to the tests that decide them.
-/
namespace Go.Proofs.YtkdjebioapholaaDoor
open Go

theorem good_lt {xs : List Int} (h : GoodE xs) : ∀ (k i : Nat) (hj : i + k + 1 < xs.length), xs[i]'(by omega) < xs[i + k + 1] := by
  intro k
  induction k with
  | zero =>
    intro i hj
    exact (h (i + 1) hj).2.2 (by omega)
  | succ k ih =>
    intro i hj
    have h1 := ih i (by omega)
    have h2 := (h (i + k + 1 + 1) (by omega)).2.2 (by omega)
    simp only [Nat.add_sub_cancel] at h2
    have e : i + (k + 1) + 1 = i + k + 1 + 1 := by omega
    simp only [e]
    omega
theorem good_lt' {xs : List Int} (h : GoodE xs) {i j : Nat} (hij : i < j) (hj : j < xs.length) : xs[i] < xs[j] := by
  have := good_lt h (j - i - 1) i (by omega)
  have e : i + (j - i - 1) + 1 = j := by omega
  simp only [e] at this
  exact this
theorem good_nodup {xs : List Int} (h : GoodE xs) : xs.Nodup := by
  refine List.pairwise_iff_getElem.2 fun i j hi hj hij he => ?_
  have := good_lt' h hij hj
  omega

/-! ### the map -/
def kvsOf (open_ : List Int) (f : Int → Nat) : List (AV × AV) := open_.map fun w => (.int .i64 w, .int .u64 (f w : Int))
theorem find_in (f : Int → Nat) (w : Int) : ∀ (l : List Int) (i : Nat), w ∈ l → l.Nodup → ∃ p, findA (.int .i64 w) (kvsOf l f) i = some (some (i + p, .int .u64 (f w : Int))) ∧ ∀ v : Nat, (kvsOf l f).set p (.int .i64 w, .int .u64 (v : Int)) = kvsOf l (fun x => if x = w then v else f x)
  | [], _, h, _ => by cases h
  | x :: l, i, h, hn => by
    have hn' := List.nodup_cons.1 hn
    by_cases hx : x = w
    · subst hx
      refine ⟨0, by simp [kvsOf, findA, keyEq], fun v => ?_⟩
      simp only [kvsOf, List.map_cons, List.set_cons_zero, if_true]
      congr 1
      apply List.map_congr_left
      intro y hy
      rw [if_neg (show ¬ y = x from fun e => hn'.1 (by rw [← e]; exact hy))]
    · have hw : w ∈ l := by
        rcases List.mem_cons.1 h with e | e
        · exact absurd e.symm hx
        · exact e
      obtain ⟨p, h1, h2⟩ := find_in f w l (i + 1) hw hn'.2
      refine ⟨p + 1, ?_, fun v => ?_⟩
      · simp only [kvsOf, List.map_cons, findA, keyEq] at h1 ⊢
        simp only [if_true, beq_eq_false_iff_ne.2 (Ne.symm hx)]
        rw [h1]
        congr 3; omega
      · have := h2 v
        simp only [kvsOf, List.map_cons, List.set_cons_succ] at this ⊢
        rw [this, if_neg hx]
theorem find_out (f : Int → Nat) (w : Int) : ∀ (l : List Int) (i : Nat), w ∉ l → findA (.int .i64 w) (kvsOf l f) i = some none
  | [], _, _ => rfl
  | x :: l, i, h => by
    have hx : ¬ w = x := fun e => h (by simp [e])
    have := find_out f w l (i + 1) (fun e => h (by simp [e]))
    simp only [kvsOf, List.map_cons, findA, keyEq] at this ⊢
    simp only [if_true, beq_eq_false_iff_ne.2 hx]
    exact this

theorem at_map (A R : Arena) (e : Ent) : (A ++ e :: R)[A.length]? = some e := by
  rw [List.getElem?_append_right (Nat.le_refl _)]; simp
theorem set_map (A R : Arena) (e e' : Ent) : (A ++ e :: R).set A.length e' = A ++ e' :: R := by
  rw [List.set_append_right _ _ (Nat.le_refl _)]; simp
theorem lookup_in {l : List Int} {f : Int → Nat} {w : Int} (h : w ∈ l) (hn : l.Nodup) (ok : Bool) (A R : Arena) : evLookup ok (.int .u64 0) (A ++ .map (kvsOf l f) :: R) (.map A.length) (.int .i64 w) = some (if ok then .tup [.int .u64 (f w : Int), .bool true] else .int .u64 (f w : Int)) := by
  obtain ⟨p, h1, _⟩ := find_in f w l 0 h hn
  simp only [evLookup, at_map, h1]
theorem lookup_out {l : List Int} {f : Int → Nat} {w : Int} (h : w ∉ l) (ok : Bool) (A R : Arena) : evLookup ok (.int .u64 0) (A ++ .map (kvsOf l f) :: R) (.map A.length) (.int .i64 w) = some (if ok then .tup [.int .u64 0, .bool false] else .int .u64 0) := by
  simp only [evLookup, at_map, find_out f w l 0 h]
theorem update_in {l : List Int} {f : Int → Nat} {w : Int} (h : w ∈ l) (hn : l.Nodup) (v : Nat) (A R : Arena) : evMapUpdate (A ++ .map (kvsOf l f) :: R) (.map A.length) (.int .i64 w) (.int .u64 (v : Int)) = some (A ++ .map (kvsOf l (fun x => if x = w then v else f x)) :: R) := by
  obtain ⟨p, h1, h2⟩ := find_in f w l 0 h hn
  simp only [evMapUpdate, at_map, h1, Nat.zero_add, h2, set_map]
theorem update_out {l : List Int} {w : Int} (h : w ∉ l) (A R : Arena) : evMapUpdate (A ++ .map (kvsOf l fun _ => 0) :: R) (.map A.length) (.int .i64 w) (.int .u64 0) = some (A ++ .map (kvsOf (l ++ [w]) fun _ => 0) :: R) := by
  simp only [evMapUpdate, at_map, find_out _ w l 0 h, set_map]
  simp [kvsOf]

/-! ### the tests that decide a wafer, as bits -/
def maskTo (ts : List (List Int)) (w : Int) : Nat → Nat
  | 0 => 0
  | i + 1 => if w ∈ ts.getD i [] then maskTo ts w i ||| 2 ^ i else maskTo ts w i
theorem maskTo_lt (ts : List (List Int)) (w : Int) : ∀ i, maskTo ts w i < 2 ^ i
  | 0 => by simp [maskTo]
  | i + 1 => by
    have := maskTo_lt ts w i
    have h2 : 2 ^ i < 2 ^ (i + 1) := Nat.pow_lt_pow_right (by omega) (by omega)
    unfold maskTo
    split
    · exact Nat.or_lt_two_pow (by omega) h2
    · omega
theorem or_nat (a b : Nat) (ha : a < 18446744073709551616) (hb : b < 18446744073709551616) : evBin .or (.int .u64 (a : Int)) (.int .u64 (b : Int)) = some (.int .u64 ((a ||| b : Nat) : Int)) := by
  have h1 : (BitVec.ofInt 64 (a : Int)).toNat = a := by simp; omega
  have h2 : (BitVec.ofInt 64 (b : Int)).toNat = b := by simp; omega
  have h3 : a ||| b < 2 ^ 64 := Nat.or_lt_two_pow (by omega) (by omega)
  have : orI .u64 (a : Int) (b : Int) = ((a ||| b : Nat) : Int) := by
    unfold orI
    rw [show IntKind.u64.bits = 64 from rfl, BitVec.toNat_or, h1, h2, wrapU64 (by omega)]
  simp only [evBin]
  rw [if_pos trivial, this]
theorem shl_nat (i : Nat) (h : i < 64) (k : IntKind) : evBin .shl (.int .u64 1) (.int k (i : Int)) = some (.int .u64 ((2 ^ i : Nat) : Int)) := by
  have e : min i 64 = i := by omega
  have hp : 2 ^ i < 2 ^ 64 := Nat.pow_lt_pow_right (by omega) h
  have e2 : IntKind.u64.wrap (1 * 2 ^ i) = ((2 ^ i : Nat) : Int) := by
    have h0 : (1 : Int) * 2 ^ i = ((2 ^ i : Nat) : Int) := by rw [Int.one_mul]; norm_cast
    rw [h0]
    exact (fun (p : Nat) (hp : p < 2 ^ 64) => wrapU64 (by omega) : ∀ p : Nat, p < 2 ^ 64 → IntKind.u64.wrap (p : Int) = p) _ hp
  simp only [evBin, bits_u64, Int.toNat_natCast, e, e2]
  rw [if_neg (by omega)]

/-- the bits while the i-th test is under way -/
def maskIn (ts : List (List Int)) (ws : List Int) (i j : Nat) (w : Int) : Nat := if w ∈ ws.take j then maskTo ts w i ||| 2 ^ i else maskTo ts w i

set_option maxRecDepth 100000 in
theorem round27b (E : Env) (fuel : Nat) (A R : Arena) {open_ : List Int} (hn : open_.Nodup) {ts : List (List Int)} {i j : Nat} (hi : i < 17) {ws : List Int} {s : AV} (hs : SlA 1 (intsA ws) s) (hm : ws.length ≤ 9223372036854775807) (l : AV) (n : Int) (hj : j < ws.length) :
    run E fuel [.code lp27x1] (st27x1 (.map A.length) (.int .i64 (i : Int)) l (.int .i64 n) (.int .i64 (i : Int)) s (.int .i64 (ws.length : Int)) (.int .i64 (j : Int))) (A ++ .map (kvsOf open_ (maskIn ts ws i j)) :: R) =
      some (.normal (st27x1 (.map A.length) (.int .i64 (i : Int)) l (.int .i64 n) (.int .i64 (i : Int)) s (.int .i64 (ws.length : Int)) (.int .i64 ((j + 1 : Nat) : Int))) (A ++ .map (kvsOf open_ (maskIn ts ws i (j + 1))) :: R)) := by
  have x1 := fun A => hs.int (A := A) _ _ (List.getElem?_eq_getElem hj) .i64
  have b1 : evBin .lss (.int .i64 (j : Int)) (.int .i64 (ws.length : Int)) = some (.bool true) := by simp [evBin]; omega
  have b2 := shl_nat i (by omega) .i64
  have b4 := add1_nat j (by omega)
  have htk : ws.take (j + 1) = ws.take j ++ [ws[j]] := List.take_succ_eq_append_getElem hj
  have hp : 2 ^ i < 2 ^ 17 := Nat.pow_lt_pow_right (by omega) hi
  obtain ⟨w, hw⟩ : ∃ w, w = ws[j] := ⟨_, rfl⟩
  rw [← hw] at x1 htk
  have hlt : maskIn ts ws i j w < 2 ^ 17 := by
    have := maskTo_lt ts w i
    unfold maskIn
    split
    · exact Nat.or_lt_two_pow (by omega) (by omega)
    · omega
  have b3 := or_nat (maskIn ts ws i j w) (2 ^ i) (by omega) (by omega)
  have heq : (fun x => if x = w then maskIn ts ws i j w ||| 2 ^ i else maskIn ts ws i j x) = maskIn ts ws i (j + 1) := by
    funext x
    by_cases hx : x = w
    · subst hx
      rw [if_pos rfl]
      unfold maskIn
      rw [htk]
      by_cases h : x ∈ ws.take j
      · simp [h, Nat.or_assoc]
      · simp [h]
    · rw [if_neg hx]
      unfold maskIn
      rw [htk]
      simp [hx]
  obtain ⟨q, hq⟩ : ∃ q, q = maskIn ts ws i j w ||| 2 ^ i := ⟨_, rfl⟩
  rw [← hq] at b3 heq
  obtain ⟨p, hpp⟩ : ∃ p, p = 2 ^ i := ⟨_, rfl⟩
  rw [← hpp] at b2 b3
  obtain ⟨j1, hj1⟩ : ∃ j1 : Nat, j1 = j + 1 := ⟨_, rfl⟩
  rw [← hj1] at b4 heq ⊢
  by_cases hin : w ∈ open_
  · have k1 := lookup_in (f := maskIn ts ws i j) hin hn true A R
    have k2 := update_in (f := maskIn ts ws i j) hin hn q A R
    rw [heq] at k2
    simp only [if_true] at k1
    simp [lp27x1, x1, b1, b2, b3, b4, k1, k2, -evBin, -evIndexSl, -evLookup, -evMapUpdate]
  · have k1 := lookup_out (f := maskIn ts ws i j) hin true A R
    simp only [if_true] at k1
    have hsame : kvsOf open_ (maskIn ts ws i j) = kvsOf open_ (maskIn ts ws i j1) := by
      unfold kvsOf
      apply List.map_congr_left
      intro x hx
      have hxw : x ≠ w := fun e => hin (e ▸ hx)
      rw [← heq]
      simp [hxw]
    rw [← hsame]
    simp [lp27x1, x1, b1, b4, k1, -evBin, -evIndexSl, -evLookup, -evMapUpdate]
end Go.Proofs.YtkdjebioapholaaDoor
/-
  Inspect: deciders, whole.
-/
namespace Go.Proofs.YtkdjebioapholaaDoor
open Go

theorem maskIn_zero (ts : List (List Int)) (ws : List Int) (i : Nat) : maskIn ts ws i 0 = fun w => maskTo ts w i := by
  funext w; simp [maskIn]
theorem maskIn_all (ts : List (List Int)) {i : Nat} (hi : i < ts.length) : maskIn ts ts[i] i ts[i].length = fun w => maskTo ts w (i + 1) := by
  funext w; simp [maskIn, maskTo, hi]

set_option maxRecDepth 100000 in
theorem round27a (E : Env) (fuel : Nat) (A : Arena) (l : AV) {a : AV} {open_ : List Int} (ha : SlA 1 (intsA open_) a) (hn : open_.Nodup) (hm : open_.length ≤ 100) {i : Nat} (hi : i < open_.length) :
    run E fuel [.code lp27x0] (st27x0 l (.map A.length) a (.int .i64 (open_.length : Int)) (.int .i64 (i : Int))) (A ++ [Ent.map (kvsOf (open_.take i) fun _ => 0)]) =
      some (.normal (st27x0 l (.map A.length) a (.int .i64 (open_.length : Int)) (.int .i64 ((i + 1 : Nat) : Int))) (A ++ [Ent.map (kvsOf (open_.take (i + 1)) fun _ => 0)])) := by
  have x1 := fun A => ha.int (A := A) _ _ (List.getElem?_eq_getElem hi) .i64
  have b1 : evBin .lss (.int .i64 (i : Int)) (.int .i64 (open_.length : Int)) = some (.bool true) := by simp [evBin]; omega
  have b4 := add1_nat i (by omega)
  have htk : open_.take (i + 1) = open_.take i ++ [open_[i]] := List.take_succ_eq_append_getElem hi
  have hout : open_[i] ∉ open_.take i := fun h => by
    obtain ⟨j, hj, he⟩ := List.mem_iff_getElem.1 h
    simp only [List.length_take] at hj
    rw [List.getElem_take] at he
    exact List.pairwise_iff_getElem.1 hn j i (by omega) hi (by omega) he
  have k2 := update_out hout A []
  rw [← htk] at k2
  obtain ⟨i1, hi1⟩ : ∃ i1 : Nat, i1 = i + 1 := ⟨_, rfl⟩
  rw [← hi1] at b4 k2 ⊢
  simp [lp27x0, x1, b1, b4, k2, -evBin, -evIndexSl, -evMapUpdate]

theorem set_last (R : Arena) (x y : Ent) : (R ++ [x]).set R.length y = R ++ [y] := by
  rw [List.set_append_right _ _ (Nat.le_refl _)]; simp

def rowsT (es : List AV) : Arena := es.map fun e => .row 1 false [e]

set_option maxRecDepth 100000 in
set_option maxHeartbeats 1000000 in
theorem round27c (E : Env) (A : Arena) {l : AV} {open_ : List Int} (hn : open_.Nodup) {ts : List (List Int)} {es : List AV} (hl : SlA 1 es l) (hlen : es.length = ts.length) (hes : ∀ i (h : i < es.length) (h' : i < ts.length), testOf es[i] = some ts[i]) (hg : GoodT ts) {i : Nat} (hi : i < ts.length) :
    run E 200 [.code lp27x2] (st27x2 (.map A.length) l (.int .i64 (ts.length : Int)) (.int .i64 (i : Int))) (A ++ Ent.map (kvsOf open_ fun w => maskTo ts w i) :: rowsT (es.take i)) =
      some (.normal (st27x2 (.map A.length) l (.int .i64 (ts.length : Int)) (.int .i64 ((i + 1 : Nat) : Int))) (A ++ Ent.map (kvsOf open_ fun w => maskTo ts w (i + 1)) :: rowsT (es.take (i + 1)))) := by
  have hie : i < es.length := by omega
  obtain ⟨s, he, hs⟩ := testOf_some (hes i hie hi)
  obtain ⟨hs1, hs2, hs3⟩ := intsOf_some hs
  have hgi := hg.2 _ (List.getElem_mem hi)
  have h16 := hg.1
  have hx : es[i]? = some (.agg [s]) := by rw [List.getElem?_eq_getElem hie, he]
  have hsol : s.solid = true := by rcases hs1 with ⟨rfl, _⟩ | rfl <;> rfl
  have hcl : cellsOf s = [s] := by rcases hs1 with ⟨rfl, _⟩ | rfl <;> rfl
  have hfl : flat1 s = true := by rcases hs1 with ⟨rfl, _⟩ | rfl <;> rfl
  have hsl := hs1.len
  simp only [List.length_map] at hsl
  have hsol1 : (AV.agg [s]).solid = true := by rcases hs1 with ⟨rfl, _⟩ | rfl <;> rfl
  have x1 := fun A => hl.index (A := A) hx hsol1 (by omega) .i64
  have b1 : evBin .lss (.int .i64 (i : Int)) (.int .i64 (ts.length : Int)) = some (.bool true) := by simp [evBin]; omega
  have b4 := add1_nat i (by omega)
  have htk : rowsT (es.take (i + 1)) = rowsT (es.take i) ++ [.row 1 false [.agg [s]]] := by
    rw [List.take_succ_eq_append_getElem hie, he]; simp [rowsT]
  rw [htk]
  obtain ⟨R, hR⟩ : ∃ R, R = rowsT (es.take i) := ⟨_, rfl⟩
  rw [← hR]
  have lp : iter (evC E 200 lp27x1) mask27x1 200 (st27x1 (.map A.length) (.int .i64 (i : Int)) l (.int .i64 (ts.length : Int)) (.int .i64 (i : Int)) s (.int .i64 (ts[i].length : Int)) (.int .i64 0)) (A ++ Ent.map (kvsOf open_ fun w => maskTo ts w i) :: (R ++ [.row 1 false [.agg [s]]])) =
      some (.exit 4 ((st27x1 (.map A.length) (.int .i64 (i : Int)) l (.int .i64 (ts.length : Int)) (.int .i64 (i : Int)) s (.int .i64 (ts[i].length : Int)) (.int .i64 (ts[i].length : Int))).set 23 (.bool false)) (A ++ Ent.map (kvsOf open_ fun w => maskTo ts w (i + 1)) :: (R ++ [.row 1 false [.agg [s]]]))) := by
    have := hgi.1
    have h0 := iter_up (E := E) (fuel := 200) (a := lp27x1) (mask := mask27x1) (fun j => st27x1 (.map A.length) (.int .i64 (i : Int)) l (.int .i64 (ts.length : Int)) (.int .i64 (i : Int)) s (.int .i64 (ts[i].length : Int)) (.int .i64 (j : Int)))
      (fun j => A ++ Ent.map (kvsOf open_ (maskIn ts ts[i] i j)) :: (R ++ [.row 1 false [.agg [s]]])) ts[i].length (o := .exit 4 ((st27x1 (.map A.length) (.int .i64 (i : Int)) l (.int .i64 (ts.length : Int)) (.int .i64 (i : Int)) s (.int .i64 (ts[i].length : Int)) (.int .i64 (ts[i].length : Int))).set 23 (.bool false)) (A ++ Ent.map (kvsOf open_ fun w => maskTo ts w (i + 1)) :: (R ++ [.row 1 false [.agg [s]]])))
      (fun _ => cl27x1) (fun _ _ h => by cases h) (fun j hj => round27b (i := i) (ts := ts) E 200 A (R ++ [.row 1 false [.agg [s]]]) hn (by omega) hs1 hs3 l _ hj) (by simp [lp27x1, maskIn_all ts hi]) (show ts[i].length < 200 by omega)
    rw [maskIn_zero] at h0
    exact h0
  obtain ⟨i1, hi1⟩ : ∃ i1 : Nat, i1 = i + 1 := ⟨_, rfl⟩
  rw [← hi1] at b4 lp ⊢
  obtain ⟨X, hX⟩ : ∃ X, X = A ++ Ent.map (kvsOf open_ fun w => maskTo ts w i) :: R := ⟨_, rfl⟩
  have hX2 : A ++ Ent.map (kvsOf open_ fun w => maskTo ts w i) :: (R ++ [Ent.row 1 false [.agg [s]]]) = X ++ [.row 1 false [.agg [s]]] := by rw [hX]; simp
  rw [hX2] at lp
  rw [← hX]
  simp [lp27x2, x1, b1, b4, hsl, hsol, hcl, hfl, set_last, go27x1 lp, -evBin, -evIndexSl, -evLenSl]

noncomputable def fs27 : List (FuncId × HModel) := [(36, pureH 4 M36), (17, pureH 4 M17)]
@[simp] theorem fs27_36 : lookM fs27 36 = some (pureH 4 M36) := rfl
@[simp] theorem fs27_17 : lookM fs27 17 = some (pureH 4 M17) := rfl
theorem sound27 : ∀ f M, lookM fs27 f = some M → FnSpecY Tryd.prog GI f M := lookM_cons (FnSpecY.of_pure spec36 4) (lookM_cons (FnSpecY.of_pure spec17 4) lookM_nil)

/-- the map of all masks -/
def kvsT (open_ : List Int) (ts : List (List Int)) : List (AV × AV) := kvsOf open_ fun w => maskTo ts w ts.length

open Classical in
set_option maxRecDepth 100000 in
theorem ev27 (A : Arena) {a l : AV} {open_ : List Int} {ts : List (List Int)} {es : List AV} (ha : intsOf a = some open_) (hl : testsOf l = some ts) (hes : srcElems 1 [] l = some es) :
    evFun (envOf GI fs27) 200 mf27 [a, l] A = some (if Good open_ ∧ GoodT ts then (.tup [.map A.length, .bool true], A ++ Ent.map (kvsT open_ ts) :: rowsT es) else (.tup [.nilM, .bool false], A)) := by
  obtain ⟨ha1, ha2, ha3⟩ := intsOf_some ha
  obtain ⟨es', k1, k2, k3, k4⟩ := listOf_sl hl
  obtain rfl : es' = es := by
    have := k1.src (A := [])
    rw [hes] at this
    injection this with this; exact this.symm
  have f1 := intsOf_frz ha
  have f2 := testsOf_frz hl
  have f3 := intsOf_noRef ha
  have f4 := testsOf_noRef hl
  have m1 : M36 [a] = some (.bool (decide (Good open_))) := by simp only [M36, ha, Option.map_some]
  have m2 : M17 [l] = some (.bool (decide (GoodT ts))) := by simp only [M17, hl, Option.map_some]
  have hla := ha1.len
  simp only [intsA, List.length_map] at hla
  have hll := (testsOf_len hl).1
  rw [evFun_run _ _ rfl]
  by_cases h1 : Good open_
  · rw [decide_eq_true h1] at m1
    by_cases h2 : GoodT ts
    · rw [decide_eq_true h2] at m2
      rw [if_pos ⟨h1, h2⟩]
      have hn := good_nodup h1.2
      have hol := h1.1
      have htl := h2.1
      have lpa : iter (evC (envOf GI fs27) 200 lp27x0) mask27x0 200 (st27x0 l (.map A.length) a (.int .i64 (open_.length : Int)) (.int .i64 0)) (A ++ [Ent.map []]) =
          some (.exit 0 ((st27x0 l (.map A.length) a (.int .i64 (open_.length : Int)) (.int .i64 (open_.length : Int))).set 15 (.bool false)) (A ++ [Ent.map (kvsOf open_ fun _ => 0)])) :=
        iter_up (fun i => st27x0 l (.map A.length) a (.int .i64 (open_.length : Int)) (.int .i64 (i : Int))) (fun i => A ++ [Ent.map (kvsOf (open_.take i) fun _ => 0)]) open_.length (fun _ => cl27x0) (fun _ _ h => by cases h) (fun i hi => round27a _ 200 A l ha1 hn hol hi) (by simp [lp27x0]) (by omega)
      have lpb : iter (evC (envOf GI fs27) 200 lp27x2) mask27x2 200 (st27x2 (.map A.length) l (.int .i64 (ts.length : Int)) (.int .i64 0)) (A ++ [Ent.map (kvsOf open_ fun _ => 0)]) =
          some (.exit 2 ((st27x2 (.map A.length) l (.int .i64 (ts.length : Int)) (.int .i64 (ts.length : Int))).set 19 (.bool false)) (A ++ Ent.map (kvsT open_ ts) :: rowsT es')) := by
        have := iter_up (E := envOf GI fs27) (fuel := 200) (a := lp27x2) (mask := mask27x2) (fun i => st27x2 (.map A.length) l (.int .i64 (ts.length : Int)) (.int .i64 (i : Int))) (fun i => A ++ Ent.map (kvsOf open_ fun w => maskTo ts w i) :: rowsT (es'.take i)) ts.length
          (o := .exit 2 ((st27x2 (.map A.length) l (.int .i64 (ts.length : Int)) (.int .i64 (ts.length : Int))).set 19 (.bool false)) (A ++ Ent.map (kvsT open_ ts) :: rowsT es'))
          (fun _ => cl27x2) (fun _ _ h => by cases h) (fun i hi => round27c _ A hn k1 k2 k3 h2 hi) (by simp [lp27x2, kvsT, ← k2]) (show ts.length < 200 by omega)
        exact this
      simp [mf27, f1, f2, f3, f4, m1, m2, hla, hll, go27x0 lpa, go27x2 lpb, -evLenSl]
    · rw [decide_eq_false h2] at m2
      rw [if_neg (fun h => h2 h.2)]
      simp [mf27, f1, f2, f3, f4, m1, m2, -evLenSl]
  · rw [decide_eq_false h1] at m1
    rw [if_neg (fun h => h1 h.1)]
    simp [mf27, f1, f2, f3, f4, m1, -evLenSl]

open Classical in
noncomputable def M27 : Model := fun args A => match args with
  | [a, l] => match intsOf a, testsOf l, srcElems 1 [] l with
    | some open_, some ts, some es => some (if Good open_ ∧ GoodT ts then (.tup [.map A.length, .bool true], A ++ Ent.map (kvsT open_ ts) :: rowsT es) else (.tup [.nilM, .bool false], A))
    | _, _, _ => none
  | _ => none
theorem spec27 : FnSpec Tryd.prog GI 27 M27 := by
  refine FnSpec.of_all (M' := fun _ => evFun (envOf GI fs27) 200 mf27) (fun _ => evFun_sound (envOf_sound sound27) rfl at27 comp27 PureIn.nil) ?_
  intro args A x h
  refine ⟨0, ?_⟩
  unfold M27 at h
  split at h
  · split at h
    · rename_i h1 h2 h3
      injection h with h; subst h
      exact ev27 A h1 h2 h3
    · cases h
  · cases h
theorem testsOf_src {l : AV} {ts : List (List Int)} (h : testsOf l = some ts) : ∃ es, srcElems 1 [] l = some es := by
  obtain ⟨es, k1, _⟩ := listOf_sl h
  exact ⟨es, k1.src⟩
/-- what deciders hands over -/
theorem M27_good {a l : AV} {open_ : List Int} {ts : List (List Int)} (ha : intsOf a = some open_) (hl : testsOf l = some ts) (h1 : Good open_) (h2 : GoodT ts) (A : Arena) : ∃ R, M27 [a, l] A = some (.tup [.map A.length, .bool true], A ++ Ent.map (kvsT open_ ts) :: R) := by
  obtain ⟨es, he⟩ := testsOf_src hl
  exact ⟨rowsT es, by simp only [M27, ha, hl, he]; rw [if_pos ⟨h1, h2⟩]⟩
theorem M27_bad {a l : AV} {open_ : List Int} {ts : List (List Int)} (ha : intsOf a = some open_) (hl : testsOf l = some ts) (h : ¬ (Good open_ ∧ GoodT ts)) (A : Arena) : M27 [a, l] A = some (.tup [.nilM, .bool false], A) := by
  obtain ⟨es, he⟩ := testsOf_src hl
  simp only [M27, ha, hl, he]; rw [if_neg h]
end Go.Proofs.YtkdjebioapholaaDoor
/-
  Inspect: Decides.
-/
namespace Go.Proofs.YtkdjebioapholaaDoor
open Go

theorem and_nat (a b : Nat) (ha : a < 18446744073709551616) (hb : b < 18446744073709551616) : andI .u64 (a : Int) (b : Int) = ((a &&& b : Nat) : Int) := by
  have h1 : (BitVec.ofInt 64 (a : Int)).toNat = a := by simp; omega
  have h2 : (BitVec.ofInt 64 (b : Int)).toNat = b := by simp; omega
  have h3 : a &&& b ≤ a := Nat.and_le_left
  unfold andI
  rw [show IntKind.u64.bits = 64 from rfl, BitVec.toNat_and, h1, h2, wrapU64 (by omega)]
theorem maskTo_bit (ts : List (List Int)) (w : Int) : ∀ n k, (maskTo ts w n).testBit k = decide (k < n ∧ w ∈ ts.getD k [])
  | 0, k => by simp [maskTo]
  | n + 1, k => by
    have ih := maskTo_bit ts w n k
    unfold maskTo
    by_cases hk : k = n
    · subst hk
      by_cases hw : w ∈ ts.getD k []
      · rw [if_pos hw, Nat.testBit_or, Nat.testBit_two_pow_self, Bool.or_true, decide_eq_true ⟨by omega, hw⟩]
      · rw [if_neg hw, ih]; simp [hw, -List.getD_eq_getElem?_getD]
    · have e : (k < n + 1 ∧ w ∈ ts.getD k []) ↔ (k < n ∧ w ∈ ts.getD k []) := by
        constructor <;> rintro ⟨h1, h2⟩ <;> exact ⟨by omega, h2⟩
      have e2 : decide (k < n + 1 ∧ w ∈ ts.getD k []) = decide (k < n ∧ w ∈ ts.getD k []) := by simp only [e]
      split
      · rw [Nat.testBit_or, ih, Nat.testBit_two_pow_of_ne (Ne.symm hk), Bool.or_false, e2]
      · rw [ih, e2]

/-- the bits of a choice -/
def chB (ch : List Int) : Nat → Nat
  | 0 => 0
  | i + 1 => if (ch.getD i 0).toNat < 17 then chB ch i ||| 2 ^ (ch.getD i 0).toNat else chB ch i
theorem chB_lt (ch : List Int) : ∀ i, chB ch i < 2 ^ 17
  | 0 => by simp [chB]
  | i + 1 => by
    have := chB_lt ch i
    unfold chB
    split
    · rename_i h
      exact Nat.or_lt_two_pow this (Nat.pow_lt_pow_right (by omega) h)
    · exact this
theorem chB_bit (ch : List Int) : ∀ i k, (chB ch i).testBit k = decide (k < 17 ∧ ∃ j, j < i ∧ (ch.getD j 0).toNat = k)
  | 0, k => by simp [chB]
  | i + 1, k => by
    have ih := chB_bit ch i k
    have key : (∃ j, j < i + 1 ∧ (ch.getD j 0).toNat = k) ↔ ((∃ j, j < i ∧ (ch.getD j 0).toNat = k) ∨ (ch.getD i 0).toNat = k) := by
      constructor
      · rintro ⟨j, h1, h2⟩
        by_cases hj : j = i
        · exact .inr (hj ▸ h2)
        · exact .inl ⟨j, by omega, h2⟩
      · rintro (⟨j, h1, h2⟩ | h)
        · exact ⟨j, by omega, h2⟩
        · exact ⟨i, by omega, h⟩
    unfold chB
    rw [Bool.eq_iff_iff]
    split
    · rename_i h
      rw [Nat.testBit_or, ih, Bool.or_eq_true, decide_eq_true_eq, decide_eq_true_eq, key]
      by_cases hk : (ch.getD i 0).toNat = k
      · subst hk
        rw [Nat.testBit_two_pow_self]
        simp [h, -List.getD_eq_getElem?_getD]
      · rw [Nat.testBit_two_pow_of_ne hk]
        simp [hk, -List.getD_eq_getElem?_getD]
    · rename_i h
      rw [ih, decide_eq_true_eq, decide_eq_true_eq, key]
      constructor
      · rintro ⟨h1, h2⟩; exact ⟨h1, .inl h2⟩
      · rintro ⟨h1, h2 | h2⟩
        · exact ⟨h1, h2⟩
        · omega
theorem and_ne {a b : Nat} : a &&& b ≠ 0 ↔ ∃ k, a.testBit k = true ∧ b.testBit k = true := by
  constructor
  · intro h
    obtain ⟨k, hk⟩ := Nat.exists_testBit_of_ne_zero h
    rw [Nat.testBit_and, Bool.and_eq_true] at hk
    exact ⟨k, hk⟩
  · rintro ⟨k, h1, h2⟩ h
    have : (a &&& b).testBit k = true := by rw [Nat.testBit_and, h1, h2]; rfl
    rw [h] at this
    simp at this

/-- a choice of some of n tests -/
def Chosen (n : Nat) (ch : List Int) : Prop := ∀ i (h : i < ch.length), 0 ≤ ch[i] ∧ ch[i] < n ∧ ∀ _ : 0 < i, ch[i - 1] < ch[i]
/-- a choice decides all open wafers -/
def Dec (open_ : List Int) (ts : List (List Int)) (ch : List Int) : Prop := Good open_ ∧ GoodT ts ∧ Chosen ts.length ch ∧ ∀ w ∈ open_, ∃ k ∈ ch, w ∈ ts.getD k.toNat []

def lastC (ch : List Int) (i : Nat) : Int := if i = 0 then -1 else ch.getD (i - 1) 0
theorem lastC_succ {xs : List Int} {i : Nat} (h : i < xs.length) : lastC xs (i + 1) = xs[i] := by
  simp [lastC, h]
theorem chosen_last (n : Nat) (xs : List Int) : (∀ i (h : i < xs.length), lastC xs i < xs[i] ∧ xs[i] < n) ↔ Chosen n xs := by
  constructor
  · intro h i hi
    have hpos : ∀ j (hj : j < xs.length), 0 ≤ xs[j] := by
      intro j
      induction j with
      | zero => intro hj; have := (h 0 hj).1; simp [lastC] at this; omega
      | succ j ih =>
        intro hj
        have h1 := (h (j + 1) hj).1
        rw [lastC_succ (by omega)] at h1
        have := ih (by omega)
        omega
    refine ⟨hpos i hi, (h i hi).2, fun h0 => ?_⟩
    have h1 := (h i hi).1
    obtain ⟨j, rfl⟩ : ∃ j, i = j + 1 := ⟨i - 1, by omega⟩
    rw [lastC_succ (by omega)] at h1
    exact h1
  · intro h i hi
    obtain ⟨h1, h2, h3⟩ := h i hi
    refine ⟨?_, h2⟩
    rcases Nat.eq_zero_or_pos i with rfl | h0
    · simp only [lastC, if_true]; omega
    · obtain ⟨j, rfl⟩ : ∃ j, i = j + 1 := ⟨i - 1, by omega⟩
      rw [lastC_succ (by omega)]
      exact h3 h0

set_option maxRecDepth 100000 in
theorem round20 (E : Env) (fuel : Nat) (A : Arena) (l by_ ok : AV) (n : Nat) (hn : n ≤ 17) (hl : evLenSl l = some (.int .i64 (n : Int))) {c : AV} {ch : List Int} (hc : SlA 1 (intsA ch) c) (hm : ch.length ≤ 9223372036854775807) {i : Nat} (hi : i < ch.length) (hlast : -1 ≤ lastC ch i) :
    run E fuel [.code lp20x0] (st20x0 l by_ ok (.int .i64 (lastC ch i)) (.int .u64 (chB ch i : Int)) c (.int .i64 (ch.length : Int)) (.int .i64 (i : Int))) A =
      if lastC ch i < ch[i] ∧ ch[i] < n then some (.normal (st20x0 l by_ ok (.int .i64 (lastC ch (i + 1))) (.int .u64 (chB ch (i + 1) : Int)) c (.int .i64 (ch.length : Int)) (.int .i64 ((i + 1 : Nat) : Int))) A)
      else some (.ret [.undef, l, .undef, .bool false, by_, ok, .int .i64 (lastC ch i), .int .u64 (chB ch i : Int), .int .i64 ch[i], c, .int .i64 (ch.length : Int), .int .i64 (i : Int), .bool true, .bool true] A) := by
  have x1 := hc.int (A := A) _ _ (List.getElem?_eq_getElem hi) .i64
  rw [lastC_succ hi]
  have hch1 : ch.getD i 0 = ch[i] := by simp [hi]
  have hb := chB_lt ch i
  obtain ⟨x, hx⟩ : ∃ x, x = ch[i] := ⟨_, rfl⟩
  obtain ⟨la, hla⟩ : ∃ l, l = lastC ch i := ⟨_, rfl⟩
  rw [← hla] at hlast ⊢
  have hstep : la < x → x < n → chB ch (i + 1) = chB ch i ||| 2 ^ x.toNat := fun h1 h2 => by
    show (if (ch.getD i 0).toNat < 17 then chB ch i ||| 2 ^ (ch.getD i 0).toNat else chB ch i) = _
    rw [hch1, ← hx, if_pos (by omega)]
  rw [← hx] at x1 ⊢
  obtain ⟨b, hbb⟩ : ∃ b, b = chB ch i := ⟨_, rfl⟩
  rw [← hbb] at hb hstep ⊢
  have b1 : evBin .lss (.int .i64 (i : Int)) (.int .i64 (ch.length : Int)) = some (.bool true) := by simp [evBin]; omega
  have b2 : evBin .leq (.int .i64 x) (.int .i64 la) = some (.bool (decide (x ≤ la))) := by simp [evBin]
  have b3 : evBin .geq (.int .i64 x) (.int .i64 (n : Int)) = some (.bool (decide ((n : Int) ≤ x))) := by simp [evBin]
  have b4 := add1_nat i (by omega)
  obtain ⟨i1, hi1⟩ : ∃ i1 : Nat, i1 = i + 1 := ⟨_, rfl⟩
  rw [← hi1] at b4 hstep ⊢
  by_cases h1 : x ≤ la
  · rw [if_neg (by omega)]
    rw [decide_eq_true h1] at b2
    simp [lp20x0, x1, b1, b2, -evBin, -evIndexSl, -evLenSl]
  · rw [decide_eq_false h1] at b2
    by_cases h2 : (n : Int) ≤ x
    · rw [if_neg (by omega)]
      rw [decide_eq_true h2] at b3
      simp [lp20x0, x1, hl, b1, b2, b3, -evBin, -evIndexSl, -evLenSl]
    · rw [if_pos (by omega)]
      rw [decide_eq_false h2] at b3
      obtain ⟨k, hk⟩ : ∃ k : Nat, x = k := ⟨x.toNat, by omega⟩
      subst hk
      have hp : 2 ^ k < 2 ^ 17 := Nat.pow_lt_pow_right (by omega) (by omega)
      have b5 := shl_nat k (by omega) .i64
      have b6 := or_nat b (2 ^ k) (by omega) (by omega)
      rw [hstep (by omega) (by omega), Int.toNat_natCast]
      obtain ⟨q, hq⟩ : ∃ q, q = b ||| 2 ^ k := ⟨_, rfl⟩
      rw [← hq] at b6 ⊢
      obtain ⟨p, hpp⟩ : ∃ p, p = 2 ^ k := ⟨_, rfl⟩
      rw [← hpp] at b5 b6
      simp [lp20x0, x1, hl, b1, b2, b3, b4, b5, b6, -evBin, -evIndexSl, -evLenSl]

theorem lastC_ge {n : Nat} {ch : List Int} : ∀ i, i ≤ ch.length → (∀ j (h : j < i) (h' : j < ch.length), lastC ch j < ch[j] ∧ ch[j] < n) → -1 ≤ lastC ch i
  | 0, _, _ => by simp [lastC]
  | i + 1, hi, h => by
    have ih := lastC_ge i (by omega) (fun j hj => h j (by omega))
    have := (h i (by omega) (by omega)).1
    rw [lastC_succ (by omega)]
    omega

noncomputable def fs20 : List (FuncId × HModel) := [(27, fun _ => M27), (29, fun _ => M29)]
@[simp] theorem fs20_27 : lookM fs20 27 = some (fun _ => M27) := rfl
@[simp] theorem fs20_29 : lookM fs20 29 = some (fun _ => M29) := rfl
theorem sound20 : ∀ f M, lookM fs20 f = some M → FnSpecY Tryd.prog GI f M := lookM_cons spec27.y (lookM_cons spec29.y lookM_nil)

/-- the mask of a wafer meets the bits of a choice just if a chosen test decides the wafer -/
theorem meets {ts : List (List Int)} {ch : List Int} (hc : Chosen ts.length ch) (h17 : ts.length ≤ 17) (w : Int) : (maskTo ts w ts.length &&& chB ch ch.length ≠ 0) ↔ ∃ k ∈ ch, w ∈ ts.getD k.toNat [] := by
  rw [and_ne]
  simp only [maskTo_bit, chB_bit, decide_eq_true_eq]
  constructor
  · rintro ⟨k, ⟨h1, h2⟩, h3, j, hj, he⟩
    refine ⟨ch[j], List.getElem_mem hj, ?_⟩
    rw [show ch.getD j 0 = ch[j] by simp [hj]] at he
    rw [he]; exact h2
  · rintro ⟨k, hk, hw⟩
    obtain ⟨j, hj, rfl⟩ := List.mem_iff_getElem.1 hk
    obtain ⟨h1, h2, _⟩ := hc j hj
    exact ⟨ch[j].toNat, ⟨by omega, hw⟩, by omega, j, hj, by simp [hj]⟩

theorem decided_all (open_ : List Int) (ts : List (List Int)) (b : Nat) (hb : b < 2 ^ 17) (h17 : ts.length ≤ 17) (R : Arena) : M29 [.map 0, .int .u64 (b : Int)] (.map (kvsT open_ ts) :: R) = some (.bool (decide (∀ w ∈ open_, maskTo ts w ts.length &&& b ≠ 0)), .map (kvsT open_ ts) :: R) := by
  have hall : (kvsT open_ ts).all (fun x => (u64Of x.2).isSome) = true := by
    simp [kvsT, kvsOf, u64Of, List.all_eq_true]
  have hm : ∀ w, maskTo ts w ts.length < 2 ^ 17 := fun w => Nat.lt_of_lt_of_le (maskTo_lt ts w _) (Nat.pow_le_pow_right (by omega) h17)
  simp only [M29, List.getElem?_cons_zero, hall, if_true]
  congr 2
  congr 1
  rw [Bool.eq_iff_iff]
  simp only [kvsT, kvsOf, List.all_eq_true, List.mem_map, forall_exists_index, and_imp, forall_apply_eq_imp_iff₂, u64Of, Option.getD_some, Bool.not_eq_true', decide_eq_false_iff_not, decide_eq_true_eq]
  constructor
  · intro h w hw
    have hmw := hm w
    have h1 : ¬ andI .u64 (maskTo ts w ts.length : Int) (b : Int) = 0 := of_decide_eq_false (h w hw)
    rw [and_nat _ _ (by omega) (by omega)] at h1
    omega
  · intro h w hw
    have h1 := h w hw
    have hmw := hm w
    refine decide_eq_false (show ¬ andI .u64 (maskTo ts w ts.length : Int) (b : Int) = 0 from ?_)
    rw [and_nat _ _ (by omega) (by omega)]
    omega

open Classical in
set_option maxRecDepth 100000 in
theorem ev20 {a l c : AV} {open_ : List Int} {ts : List (List Int)} {ch : List Int} (ha : intsOf a = some open_) (hl : testsOf l = some ts) (hc : intsOf c = some ch) (h17 : ts.length ≤ 17) :
    evP (envOf GI fs20) (ch.length + 1) mf20 1 [a, l, c] = some (.bool (decide (Dec open_ ts ch))) := by
  obtain ⟨hc1, hc2, hc3⟩ := intsOf_some hc
  have hll := (testsOf_len hl).1
  have hcl := hc1.len
  simp only [List.length_map] at hcl
  rw [evP_run _ _ rfl]
  -- the loop, whatever the map is
  have loop : ∀ (by_ ok : AV) (A : Arena), (∃ v, ¬ Chosen ts.length ch ∧ iter (evC (envOf GI fs20) (ch.length + 1) lp20x0) mask20x0 (ch.length + 1) (st20x0 l by_ ok (.int .i64 (-1)) (.int .u64 0) c (.int .i64 (ch.length : Int)) (.int .i64 0)) A = some (.ret v A) ∧ v[3]? = some (.bool false)) ∨
      (Chosen ts.length ch ∧ iter (evC (envOf GI fs20) (ch.length + 1) lp20x0) mask20x0 (ch.length + 1) (st20x0 l by_ ok (.int .i64 (-1)) (.int .u64 0) c (.int .i64 (ch.length : Int)) (.int .i64 0)) A = some (.exit 0 ((st20x0 l by_ ok (.int .i64 (lastC ch ch.length)) (.int .u64 (chB ch ch.length : Int)) c (.int .i64 (ch.length : Int)) (.int .i64 (ch.length : Int))).set 12 (.bool false)) A)) := by
    intro by_ ok A
    by_cases hb : ∃ i, ∃ h : i < ch.length, ¬ (lastC ch i < ch[i] ∧ ch[i] < ts.length)
    · obtain ⟨n, ⟨hn, hne⟩, hmin⟩ := least hb
      have hok : ∀ j (h : j < n) (h' : j < ch.length), lastC ch j < ch[j] ∧ ch[j] < ts.length := fun j h h' => Classical.not_not.1 fun hh => hmin j h ⟨h', hh⟩
      refine .inl ⟨[.undef, l, .undef, .bool false, by_, ok, .int .i64 (lastC ch n), .int .u64 (chB ch n : Int), .int .i64 ch[n], c, .int .i64 (ch.length : Int), .int .i64 (n : Int), .bool true, .bool true], fun hch => hne ((chosen_last _ _).2 hch n hn), iter_up (fun i => st20x0 l by_ ok (.int .i64 (lastC ch i)) (.int .u64 (chB ch i : Int)) c (.int .i64 (ch.length : Int)) (.int .i64 (i : Int))) (fun _ => A) n (fun _ => cl20x0) (fun _ _ h => by cases h) (fun i hi => ?_) ?_ (by omega), ?_⟩
      · rw [round20 _ _ _ l by_ ok _ h17 hll hc1 hc3 (show i < ch.length by omega) (lastC_ge i (by omega) fun j hj => hok j (by omega))]
        exact if_pos (hok i hi (by omega))
      · rw [round20 _ _ _ l by_ ok _ h17 hll hc1 hc3 hn (lastC_ge n (by omega) fun j hj => hok j (by omega))]
        exact if_neg hne
      · rfl
    · have hok : ∀ j (h' : j < ch.length), lastC ch j < ch[j] ∧ ch[j] < ts.length := fun j h' => Classical.not_not.1 fun hh => hb ⟨j, h', hh⟩
      refine .inr ⟨(chosen_last _ _).1 hok, iter_up (fun i => st20x0 l by_ ok (.int .i64 (lastC ch i)) (.int .u64 (chB ch i : Int)) c (.int .i64 (ch.length : Int)) (.int .i64 (i : Int))) (fun _ => A) ch.length (fun _ => cl20x0) (fun _ _ h => by cases h) (fun i hi => ?_) ?_ (by omega)⟩
      · rw [round20 _ _ _ l by_ ok _ h17 hll hc1 hc3 hi (lastC_ge i (by omega) fun j hj => hok j)]
        exact if_pos (hok i hi)
      · simp [lp20x0]
  by_cases hg : Good open_ ∧ GoodT ts
  · obtain ⟨R, m1⟩ := M27_good ha hl hg.1 hg.2 []
    simp only [List.length_nil, List.nil_append] at m1
    rcases loop (.map 0) (.bool true) (.map (kvsT open_ ts) :: R) with ⟨v, hch, lp, hv⟩ | ⟨hch, lp⟩
    · rw [decide_eq_false (show ¬ Dec open_ ts ch from fun h => hch h.2.2.1)]
      simp [mf20, m1, hcl, go20x0 lp, hv, -evLenSl]
    · have m2 := decided_all open_ ts _ (chB_lt ch ch.length) h17 R
      have e : decide (Dec open_ ts ch) = decide (∀ w ∈ open_, maskTo ts w ts.length &&& chB ch ch.length ≠ 0) := by
        rw [Bool.eq_iff_iff, decide_eq_true_eq, decide_eq_true_eq]
        constructor
        · intro h w hw
          exact (meets hch h17 w).2 (h.2.2.2 w hw)
        · intro h
          exact ⟨hg.1, hg.2, hch, fun w hw => (meets hch h17 w).1 (h w hw)⟩
      rw [← e] at m2
      obtain ⟨q, hq⟩ : ∃ q, q = chB ch ch.length := ⟨_, rfl⟩
      rw [← hq] at m2 lp
      simp [mf20, m1, m2, hcl, go20x0 lp, -evLenSl]
  · have m1 := M27_bad ha hl hg []
    rw [decide_eq_false (show ¬ Dec open_ ts ch from fun h => hg ⟨h.1, h.2.1⟩)]
    rcases loop .nilM (.bool false) [] with ⟨v, hch, lp, hv⟩ | ⟨hch, lp⟩
    · simp [mf20, m1, hcl, go20x0 lp, hv, -evLenSl]
    · simp [mf20, m1, hcl, go20x0 lp, -evLenSl]
open Classical in
noncomputable def M20 : PModel := fun args => match args with
  | [a, l, c] => match intsOf a, testsOf l, intsOf c with
    | some open_, some ts, some ch => if ts.length ≤ 17 then some (.bool (decide (Dec open_ ts ch))) else none
    | _, _, _ => none
  | _ => none
theorem spec20 : PureSpec Tryd.prog GI 20 M20 := by
  refine PureSpec.of_ev (E := envOf GI fs20) (envOf_sound sound20) rfl at20 comp20 1 ?_
  intro args r h
  unfold M20 at h
  split at h
  · split at h
    · rename_i h1 h2 h3
      simp only [Option.ite_none_right_eq_some, Option.some.injEq] at h
      obtain ⟨h4, rfl⟩ := h
      exact ⟨_, ev20 h1 h2 h3 h4⟩
    · cases h
  · cases h
end Go.Proofs.YtkdjebioapholaaDoor
/-
  A function's mark on the arena, in part let go. Program-independent.
-/
namespace Go.Proofs.YtkdjebioapholaaDoor
open Go
section
variable {P : Program} {G : Nat → Option (List AV)}

/-- the first row that a function makes is let go behind it -/
theorem FnSpecY.kill {f : FuncId} {M : HModel} (h : FnSpecY P G f M) : FnSpecY P G f (fun hd args A => (M hd args A).map fun x => (x.1, x.2.set A.length .dead)) :=
  ⟨h.1, fun ys hd hs args A r A' he w OK g vs hA hI hl => by
    simp only [Option.map_eq_some_iff, Prod.mk.injEq] at he
    obtain ⟨⟨r0, A0⟩, h1, rfl, rfl⟩ := he
    refine (h.2 ys hd hs args A r0 A0 h1 w OK g vs hA hI hl).mono ?_
    rintro e w' ⟨v, OK', g', rfl, k1, k2, k3⟩
    exact ⟨v, OK', g', rfl, k1, k2.kill _, k3⟩⟩
theorem FnSpecY.of_all {f : FuncId} {M' : Nat → HModel} {M : HModel} (h : ∀ fuel, FnSpecY P G f (M' fuel)) (hM : ∀ hd args A x, M hd args A = some x → ∃ fuel, M' fuel hd args A = some x) : FnSpecY P G f M := by
  refine ⟨(h 0).1, fun ys hd hs args A r A' he => ?_⟩
  obtain ⟨fuel, h1⟩ := hM hd args A _ he
  exact (h fuel).2 ys hd hs args A r A' h1
end
end Go.Proofs.YtkdjebioapholaaDoor
/-
  Functions whose result is of memory that they have made themselves. Program-independent.
-/
namespace Go.Proofs.YtkdjebioapholaaDoor
open Go

/-- made of numbers and of rows of this arena -/
def freshB (A : Arena) : Nat → AV → Bool
  | _, .bool _ => true
  | _, .int .. => true
  | _, .str _ => true
  | _, .nilS => true
  | _, .nilP => true
  | _, .nilM => true
  | _, .nilF => true
  | _, .nilI => true
  | n + 1, .agg cs => cs.all (freshB A n)
  | n + 1, .tup cs => cs.all (freshB A n)
  | n + 1, .iface _ v => freshB A n v
  | n + 1, .sl id off len => match A[id]? with
    | some (.row _ _ es) => ((es.drop off).take len).all (freshB A n)
    | _ => false
  | _, _ => false

section
variable {P : Program} {G : Nat → Option (List AV)}

theorem fresh_sound {w : World} {OK OK2 : Nat → Prop} {g : Ghost} {A : Arena} (hA : ARel w OK g A) (h2 : ∀ id inc, A[id]? ≠ some .dead → inc ∈ g id → OK2 inc.b) : ∀ (n : Nat) (a : AV) (v : Value), freshB A n a = true → VRel w OK g v a → VRel w OK2 Ghost.none v (frz A n a) := by
  intro n
  induction n with
  | zero =>
    intro a v hs h
    cases a <;> simp only [freshB, Bool.false_eq_true] at hs <;> simp only [frz] <;> first
      | (have e := h.inv_bool; rw [e]; exact .bool _ _)
      | (have e := h.inv_int; rw [e]; exact .int _ _ _)
      | (obtain ⟨s, e, hs⟩ := h.inv_str; rw [e]; exact .str _ _ _ hs)
      | (obtain ⟨p, e⟩ := h.inv_nilS; rw [e]; exact .nilS _ _)
      | (have e := h.inv_nilP; rw [e]; exact .nilP _)
      | (have e := h.inv_nilM; rw [e]; exact .nilM _)
      | (cases h; exact .nilF _)
      | (cases h; exact .nilI _)
  | succ n ih =>
    intro a v hs h
    cases a <;> simp only [freshB, Bool.false_eq_true] at hs <;> simp only [frz] <;> try first
      | (have e := h.inv_bool; rw [e]; exact .bool _ _)
      | (have e := h.inv_int; rw [e]; exact .int _ _ _)
      | (obtain ⟨s, e, hs⟩ := h.inv_str; rw [e]; exact .str _ _ _ hs)
      | (obtain ⟨p, e⟩ := h.inv_nilS; rw [e]; exact .nilS _ _)
      | (have e := h.inv_nilP; rw [e]; exact .nilP _)
      | (have e := h.inv_nilM; rw [e]; exact .nilM _)
      | (cases h; exact .nilF _)
      | (cases h; exact .nilI _)
    case sl id off len =>
      split at hs
      · rename_i s gr es hid
        simp only [hid]
        rw [List.all_eq_true] at hs
        obtain ⟨inc, cap, ao, hinc, rfl, hl, hn, hcap, ha⟩ := h.inv_sl
        obtain ⟨hlt', hrow⟩ := List.getElem?_eq_some_iff.1 hid
        have hent := hA.ent id hlt'
        rw [hrow] at hent
        obtain ⟨hesz, hne, hnc, c, T, fz, hh, hu, hcs, hel⟩ := hent.2 inc hinc
        have hlen : (((es.drop off).take len).map (frz A n)).length = len := by simp; omega
        obtain ⟨vals, hvals⟩ : ∃ vals : Nat → Value, ∀ i (hi : i < len), VRel w OK g (vals i) (es[off + i]'(by omega)) ∧ (vals i).cells.size = s ∧ okCells (vals i) ∧ ∀ j, j < s → c[inc.o + (off + i) * s + j]? = (vals i).cells[j]? :=
          ⟨fun i => if hi : i < len then (hel (off + i) (by omega) (by omega)).choose else undef, fun i hi => by simp only [hi, dif_pos]; exact (hel (off + i) (by omega) (by omega)).choose_spec⟩
        have hmem : ∀ i (hi : i < len), es[off + i]'(by omega) ∈ (es.drop off).take len := fun i hi => by
          refine List.mem_iff_getElem.2 ⟨i, by simp; omega, ?_⟩
          simp
        have := VRel.fs (w := w) (OK := OK2) Ghost.none inc.b ao cap s T c fz (((es.drop off).take len).map (frz A n)) vals (h2 id inc (by rw [hid]; simp) hinc) hh (by omega)
          (fun i hi => by simp only [List.getElem_map, List.getElem_take, List.getElem_drop]; exact ih _ _ (hs _ (hmem i (by omega))) (hvals i (by omega)).1)
          (fun i hi => ⟨(hvals i (by omega)).2.1, (hvals i (by omega)).2.2.1⟩)
          (fun i hi j hj => by
            rw [← (hvals i (by omega)).2.2.2 j hj, ha (by omega), hesz]
            congr 1; rw [Nat.add_mul]; omega)
        rwa [hlen] at this
      · cases hs
    case agg cs =>
      rw [List.all_eq_true] at hs
      obtain ⟨vs, vals, rfl, hl, hg, hv⟩ := h.inv_agg
      exact .agg _ vs _ (by simpa using hl) vals (fun i hi => hg i (by simpa using hi)) (fun i hi => by simp only [List.getElem_map]; exact ih _ _ (hs _ (List.getElem_mem _)) (hv i (by simpa using hi)))
    case tup cs =>
      rw [List.all_eq_true] at hs
      obtain ⟨vs, vals, rfl, hl, hg, hv⟩ := h.inv_tup
      exact .tup _ vs _ (by simpa using hl) vals (fun i hi => hg i (by simpa using hi)) (fun i hi => by simp only [List.getElem_map]; exact ih _ _ (hs _ (List.getElem_mem _)) (hv i (by simpa using hi)))
    case iface t x =>
      cases h with
      | iface _ t v a hv => exact .iface _ t v _ (ih _ _ hs hv)

/-- A function that leaves no mark, and whose result is of memory that it has made itself. -/
def PureSpecF (P : Program) (G : Nat → Option (List AV)) (f : FuncId) (M : PModel) : Prop :=
  Enters P f ∧ ∀ args r, M args = some r → ∀ (w : World) (OK : Nat → Prop) (vs : List Value), (∀ b, OK b → b < w.heap.size) → GRel G w OK → ListRel w OK Ghost.none vs args →
    Calls P f vs.toArray w fun e w' => ∃ v OK', e = .returned v ∧ VRel w' (fun b => OK' b ∧ w.heap.size ≤ b) Ghost.none v r ∧ (∀ b, OK' b → b < w'.heap.size) ∧ Ext w OK Ghost.none w' OK' Ghost.none

theorem PureSpecF.pure {f : FuncId} {M : PModel} (h : PureSpecF P G f M) : PureSpec P G f M := by
  refine ⟨h.1, fun args r he w OK vs hok hG hl => ?_⟩
  refine (h.2 args r he w OK vs hok hG hl).mono ?_
  rintro e w' ⟨v, OK', rfl, hv, hb, hx⟩
  exact ⟨v, OK', rfl, hv.mono (fun _ h => h.1) (fun _ _ => rfl) _ (Ghost.le_refl _), hb, hx⟩

/-- the model of such a function, of whatever arguments -/
def pureF (n : Nat) (M : PModel) : Model := fun args A => (M (args.map (frz A n))).map fun r => (r, A)
def pureFH (n : Nat) (M : PModel) : HModel := fun _ => pureF n M

theorem FnSpec.of_pureF {f : FuncId} {M : PModel} (h : PureSpecF P G f M) (n : Nat) : FnSpec P G f (pureF n M) := by
  refine ⟨h.1, ?_⟩
  intro args A r A' he w OK g vs hA hG hl
  unfold pureF at he
  rw [Option.map_eq_some_iff] at he
  obtain ⟨r0, hM, he⟩ := he
  injection he with e1 e2
  subst e1; subst e2
  have hok2 : ∀ b, (OK b ∨ ∃ id inc, inc ∈ g id ∧ inc.b = b) → b < w.heap.size := fun b hb => by
    rcases hb with hb | ⟨id, inc, hi, rfl⟩
    · exact hA.ok b hb
    · exact hA.low id inc hi
  have hl2 : ListRel w (fun b => OK b ∨ ∃ id inc, inc ∈ g id ∧ inc.b = b) Ghost.none vs (args.map (frz A n)) := hl.map fun v a _ hv => frz_sound hA (fun b hb => Or.inl hb) (fun id inc _ hi => Or.inr ⟨id, inc, hi, rfl⟩) n a v hv
  refine (h.2 _ _ hM w (fun b => OK b ∨ ∃ id inc, inc ∈ g id ∧ inc.b = b) vs hok2 (fun gl cs hg => (hG gl cs hg).mono (fun b hb => .inl hb) (fun _ _ => rfl) _ (Ghost.le_refl _)) hl2).mono ?_
  rintro e w' ⟨v, OK', rfl, hv, hok', hx⟩
  have hb : ∀ b, b < w.heap.size → w'.heap[b]? = w.heap[b]? := fun b hb => hx.blk b hb (fun _ _ (hi : _ ∈ []) => by cases hi)
  have hok3 : ∀ b, (OK b ∨ (OK' b ∧ w.heap.size ≤ b)) → b < w'.heap.size := fun b hb => by
    rcases hb with hb | hb
    · exact Nat.lt_of_lt_of_le (hA.ok b hb) hx.size
    · exact hok' b hb.1
  have hv2 : VRel w' (fun b => OK b ∨ (OK' b ∧ w.heap.size ≤ b)) Ghost.none v r0 := hv.mono (fun _ h => .inr h) (fun _ _ => rfl) _ (Ghost.le_refl _)
  exact ⟨v, fun b => OK b ∨ (OK' b ∧ w.heap.size ≤ b), g, rfl, hv2.none_to,
    hA.keep hx.size hb (fun b => OK b ∨ (OK' b ∧ w.heap.size ≤ b)) (fun _ h => .inl h) (fun _ h => h.elim .inl fun h => .inr h.2) hok3,
    hx.os, hx.tape, hx.output, hx.size, fun b hb' _ => hb b hb', g.le_refl, fun _ h => .inl h, fun id inc hi => .inl ⟨id, inc, hi, rfl⟩, fun _ h => h.elim .inl fun h => .inr h.2, hx.loops, fun _ _ _ _ => rfl⟩
theorem FnSpecY.of_pureF {f : FuncId} {M : PModel} (h : PureSpecF P G f M) (n : Nat) : FnSpecY P G f (pureFH n M) := (FnSpec.of_pureF h n).y

/-- a function, run in an arena of its own; its result is of memory that it has made itself -/
noncomputable def evF (E : Env) (fuel : Nat) (mf : MFun) (n : Nat) (args : List AV) : Option AV := (evFun E fuel mf args []).bind fun x => if freshB x.2 n x.1 = true then some (frz x.2 n x.1) else none
theorem evF_run {E : Env} {fuel : Nat} {n : Nat} (mf : MFun) (args : List AV) (h : args.length = mf.n) : evF E fuel mf n args = match run E fuel [.code mf.mc] (args ++ List.replicate (mf.len - mf.n) .undef) [] with
    | some (.normal σ A') => (evRes A' σ mf.res).bind fun l => if freshB A' n (pack l) = true then some (frz A' n (pack l)) else none
    | some (.ret σ A') => (evRes A' σ mf.res).bind fun l => if freshB A' n (pack l) = true then some (frz A' n (pack l)) else none
    | _ => none := by
  unfold evF
  rw [evFun_run mf args h]
  cases run E fuel [.code mf.mc] (args ++ List.replicate (mf.len - mf.n) .undef) [] with
  | none => rfl
  | some o => cases o with
    | normal σ A => cases h1 : evRes A σ mf.res with
      | none => simp [h1]
      | some l => simp only [h1, Option.map_some, Option.bind_some]
    | exit id σ A => rfl
    | ret σ A => cases h1 : evRes A σ mf.res with
      | none => simp [h1]
      | some l => simp only [h1, Option.map_some, Option.bind_some]
theorem PureSpecF.of_ev {E : Env} {f : FuncId} {fn : Func} {k : Nat} {vs : List Nat} {pu : List FuncId} {on : Bool} {hints : Hints} {mf : MFun} (hE : EnvSound P E) (hys : E.ys = []) (hf : P.funcs[f]? = some fn) (hc : compFun P fn k vs pu on hints = some mf) (n : Nat) {M : PModel}
    (hM : ∀ args r, M args = some r → ∃ fuel, evF E fuel mf n args = some r) (hpu : PureIn E pu := by first | exact PureIn.nil | (repeat (first | exact PureIn.nil | refine PureIn.cons (M := _) rfl ?_))) : PureSpecF P E.glob f M := by
  refine ⟨(evFun_sound (fuel := 0) hE hys hf hc hpu).1, ?_⟩
  intro args r he w OK vs hok hG hl
  obtain ⟨fuel, h⟩ := hM args r he
  unfold evF at h
  rw [Option.bind_eq_some_iff] at h
  obtain ⟨⟨r0, A'⟩, h1, h⟩ := h
  simp only [Option.ite_none_right_eq_some, Option.some.injEq] at h
  obtain ⟨hf2, rfl⟩ := h
  refine ((evFun_sound (fuel := fuel) hE hys hf hc hpu).2 _ _ _ _ h1 w OK Ghost.none vs (ARel.nil hok) hG hl).mono ?_
  rintro e w' ⟨v, OK', g', rfl, hv, hA, hx⟩
  have hfr : ∀ id inc, inc ∈ g' id → w.heap.size ≤ inc.b := fun id inc hi => by
    rcases hx.fresh id inc hi with ⟨_, _, h0, _⟩ | h1
    · cases h0
    · exact h1
  refine ⟨v, fun b => OK' b ∨ ∃ id inc, inc ∈ g' id ∧ inc.b = b, rfl, fresh_sound hA (fun id inc _ hi => ⟨.inr ⟨id, inc, hi, rfl⟩, hfr id inc hi⟩) n r0 v hf2 hv, ?_, ?_⟩
  · rintro b (hb | ⟨id, inc, hi, rfl⟩)
    · exact hA.ok b hb
    · exact hA.low id inc hi
  · refine ⟨hx.os, hx.tape, hx.output, hx.size, hx.blk, Ghost.le_refl _, fun b hb => .inl (hx.okle b hb), fun _ _ (hi : _ ∈ []) => (by cases hi), ?_, hx.loops, fun _ _ _ _ => rfl⟩
    rintro b (hb | ⟨id, inc, hi, rfl⟩)
    · exact hx.okf b hb
    · exact .inr (hfr id inc hi)
end

theorem fresh_oA {A : Arena} {esz : Nat} {es : List AV} (n : Nat) (h : ∀ B, es.all (freshB B n) = true) : freshB (aA A esz es) (n + 1) (oA A es) = true := by
  match es with
  | [] => rfl
  | [x] =>
    have := h (aA A esz [x])
    simpa [oA, aA, freshB] using this
  | x :: y :: r =>
    have := h (aA A esz (x :: y :: r))
    simp only [oA, aA, freshB]
    simp only [aA] at this
    rw [List.getElem?_append_right (Nat.le_refl _)]
    simpa using this
@[simp] theorem pureFH_eq (n : Nat) (M : PModel) (h : Handler) (args : List AV) (A : Arena) : pureFH n M h args A = (M (args.map (frz A n))).map fun r => (r, A) := rfl
end Go.Proofs.YtkdjebioapholaaDoor
/-
  Inspect: Bound.
-/
namespace Go.Proofs.YtkdjebioapholaaDoor
open Go

theorem aA_cons (x : Ent) (R : Arena) (esz : Nat) (es : List AV) : ∃ R', aA (x :: R) esz es = x :: R' := by
  match es with
  | [] => exact ⟨R, rfl⟩
  | [y] => exact ⟨R ++ [.row esz false [y]], rfl⟩
  | y :: z :: r => exact ⟨R ++ [.row esz true (y :: z :: r)], rfl⟩

/-- the bits used, and the wafers taken, behind the first i open wafers -/
def bndS (m : Int → Nat) (open_ : List Int) : Nat → Nat × List Int
  | 0 => (0, [])
  | i + 1 =>
    let r := bndS m open_ i
    let w := open_.getD i 0
    if m w ≠ 0 ∧ m w &&& r.1 = 0 then (r.1 ||| m w, r.2 ++ [w]) else r
theorem bndS_lt {m : Int → Nat} (hm : ∀ w, m w < 2 ^ 17) (open_ : List Int) : ∀ i, (bndS m open_ i).1 < 2 ^ 17 ∧ (bndS m open_ i).2.length ≤ i
  | 0 => by simp [bndS]
  | i + 1 => by
    have := bndS_lt hm open_ i
    simp only [bndS]
    split
    · refine ⟨Nat.or_lt_two_pow this.1 (hm _), ?_⟩
      simp; omega
    · exact ⟨this.1, by omega⟩

set_option maxRecDepth 100000 in
theorem round22 (E : Env) (fuel : Nat) {a by_ : AV} {open_ : List Int} (ha : SlA 1 (intsA open_) a) (hm : open_.length ≤ 140000000000) (m : Int → Nat) (hml : ∀ w, m w < 2 ^ 17) (A : Arena) {i : Nat} (hi : i < open_.length)
    (hlk : ∀ es, evLookup false (.int .u64 0) (aA A 1 es) by_ (.int .i64 open_[i]) = some (.int .u64 (m open_[i] : Int))) :
    run E fuel [.code lp22x0] (st22x0 (oA A (intsA (bndS m open_ i).2)) by_ (.int .u64 ((bndS m open_ i).1 : Int)) a (.int .i64 (open_.length : Int)) (.int .i64 (i : Int))) (aA A 1 (intsA (bndS m open_ i).2)) =
      some (.normal (st22x0 (oA A (intsA (bndS m open_ (i + 1)).2)) by_ (.int .u64 ((bndS m open_ (i + 1)).1 : Int)) a (.int .i64 (open_.length : Int)) (.int .i64 ((i + 1 : Nat) : Int))) (aA A 1 (intsA (bndS m open_ (i + 1)).2))) := by
  have x1 := fun A => ha.int (A := A) _ _ (List.getElem?_eq_getElem hi) .i64
  obtain ⟨hb1, hb2⟩ := bndS_lt hml open_ i
  have hstep : bndS m open_ (i + 1) = if m open_[i] ≠ 0 ∧ m open_[i] &&& (bndS m open_ i).1 = 0 then ((bndS m open_ i).1 ||| m open_[i], (bndS m open_ i).2 ++ [open_[i]]) else bndS m open_ i := by
    simp only [bndS, List.getD_eq_getElem?_getD, List.getElem?_eq_getElem hi, Option.getD_some]
  have hmw := hml open_[i]
  obtain ⟨w, hw⟩ : ∃ w, w = open_[i] := ⟨_, rfl⟩
  rw [← hw] at x1 hstep hmw hlk
  obtain ⟨mw, hmw'⟩ : ∃ mw, mw = m w := ⟨_, rfl⟩
  rw [← hmw'] at hstep hmw hlk
  rw [hstep]
  obtain ⟨out, hout⟩ : ∃ out, out = (bndS m open_ i).2 := ⟨_, rfl⟩
  obtain ⟨u, hu⟩ : ∃ u, u = (bndS m open_ i).1 := ⟨_, rfl⟩
  have hpair : bndS m open_ i = (u, out) := by rw [hu, hout]
  rw [hpair]
  rw [← hu] at hb1
  rw [← hout] at hb2
  simp only []
  have hlk0 := hlk (intsA out)
  have b1 : evBin .lss (.int .i64 (i : Int)) (.int .i64 (open_.length : Int)) = some (.bool true) := by simp [evBin]; omega
  have b2 : evBin .neq (.int .u64 (mw : Int)) (.int .u64 0) = some (.bool (decide (mw ≠ 0))) := by simp [evBin]
  have b3 : evBin .and (.int .u64 (mw : Int)) (.int .u64 (u : Int)) = some (.int .u64 ((mw &&& u : Nat) : Int)) := by
    simp only [evBin]; rw [if_pos trivial, and_nat _ _ (by omega) (by omega)]
  have b4 : evBin .eql (.int .u64 ((mw &&& u : Nat) : Int)) (.int .u64 0) = some (.bool (decide (mw &&& u = 0))) := (fun (q : Nat) => by simp [evBin] : ∀ q : Nat, evBin .eql (.int .u64 (q : Int)) (.int .u64 0) = some (.bool (decide (q = 0)))) _
  have b5 := or_nat u mw (by omega) (by omega)
  have b6 := add1_nat i (by omega)
  have ap := append1 (A := A) (esz := 1) (bytes := 8) (es := intsA out) (.int .i64 w) (by omega) (by omega) (by simp only [intsA, List.length_map]; omega)
  have hap : intsA out ++ [.int .i64 w] = intsA (out ++ [w]) := by simp [intsA]
  rw [hap] at ap
  obtain ⟨q, hq⟩ : ∃ q, q = mw &&& u := ⟨_, rfl⟩
  rw [← hq] at b3 b4 ⊢
  obtain ⟨z, hz⟩ : ∃ z, z = u ||| mw := ⟨_, rfl⟩
  rw [← hz] at b5 ⊢
  obtain ⟨i1, hi1⟩ : ∃ i1 : Nat, i1 = i + 1 := ⟨_, rfl⟩
  rw [← hi1] at b6 ⊢
  obtain ⟨o2, ho2⟩ : ∃ o2, o2 = out ++ [w] := ⟨_, rfl⟩
  rw [← ho2] at ap ⊢
  by_cases h1 : mw ≠ 0
  · rw [decide_eq_true h1] at b2
    by_cases h2 : q = 0
    · rw [if_pos ⟨h1, h2⟩]
      rw [decide_eq_true h2] at b4
      simp [lp22x0, x1, hlk0, b1, b2, b3, b4, b5, b6, ap, -evBin, -evIndexSl, -evLookup, -evLenSl]
    · rw [if_neg (fun h => h2 h.2)]
      rw [decide_eq_false h2] at b4
      simp [lp22x0, x1, hlk0, b1, b2, b3, b4, b6, -evBin, -evIndexSl, -evLookup, -evLenSl]
  · rw [if_neg (fun h => h1 h.1)]
    rw [decide_eq_false h1] at b2
    simp [lp22x0, x1, hlk0, b1, b2, b6, -evBin, -evIndexSl, -evLookup, -evLenSl]

/-- open wafers of which no test decides two -/
def bnd (open_ : List Int) (ts : List (List Int)) : List Int := (bndS (fun w => maskTo ts w ts.length) open_ open_.length).2
noncomputable def fs22 : List (FuncId × HModel) := [(27, fun _ => M27)]
@[simp] theorem fs22_27 : lookM fs22 27 = some (fun _ => M27) := rfl
theorem sound22 : ∀ f M, lookM fs22 f = some M → FnSpecY Tryd.prog GI f M := lookM_cons spec27.y lookM_nil

theorem bndS_zero (open_ : List Int) : ∀ i, bndS (fun _ => 0) open_ i = (0, [])
  | 0 => rfl
  | i + 1 => by simp [bndS, bndS_zero open_ i]

theorem all_fresh (B : Arena) (n : Nat) (xs : List Int) : (intsA xs).all (freshB B n) = true := by
  unfold intsA
  rw [List.all_eq_true]
  intro x hx
  obtain ⟨z, _, rfl⟩ := List.mem_map.1 hx
  cases n <;> rfl
open Classical in
set_option maxRecDepth 100000 in
theorem ev22 {a l : AV} {open_ : List Int} {ts : List (List Int)} (ha : intsOf a = some open_) (hl : testsOf l = some ts) (hlen : open_.length ≤ 140000000000) :
    evF (envOf GI fs22) (open_.length + 1) mf22 1 [a, l] = some (if Good open_ ∧ GoodT ts then slA 1 (intsA (bnd open_ ts)) else .nilS) := by
  obtain ⟨ha1, ha2, ha3⟩ := intsOf_some ha
  have hla := ha1.len
  simp only [List.length_map] at hla
  rw [evF_run _ _ rfl]
  have loop : ∀ (by_ : AV) (m : Int → Nat) (hm : ∀ w, m w < 2 ^ 17) (A : Arena) (hlk : ∀ i (h : i < open_.length) es, evLookup false (.int .u64 0) (aA A 1 es) by_ (.int .i64 open_[i]) = some (.int .u64 (m open_[i] : Int))),
      iter (evC (envOf GI fs22) (open_.length + 1) lp22x0) mask22x0 (open_.length + 1) (st22x0 .nilS by_ (.int .u64 0) a (.int .i64 (open_.length : Int)) (.int .i64 0)) A =
        some (.exit 0 ((st22x0 (oA A (intsA (bndS m open_ open_.length).2)) by_ (.int .u64 ((bndS m open_ open_.length).1 : Int)) a (.int .i64 (open_.length : Int)) (.int .i64 (open_.length : Int))).set 9 (.bool false)) (aA A 1 (intsA (bndS m open_ open_.length).2))) := by
    intro by_ m hm A hlk
    exact iter_up (fun i => st22x0 (oA A (intsA (bndS m open_ i).2)) by_ (.int .u64 ((bndS m open_ i).1 : Int)) a (.int .i64 (open_.length : Int)) (.int .i64 (i : Int))) (fun i => aA A 1 (intsA (bndS m open_ i).2)) open_.length (fun _ => cl22x0) (fun _ _ h => by cases h)
      (fun i hi => round22 _ _ ha1 hlen m hm A hi (hlk i hi)) (by simp [lp22x0]) (by omega)
  by_cases hg : Good open_ ∧ GoodT ts
  · obtain ⟨R, m1⟩ := M27_good ha hl hg.1 hg.2 []
    simp only [List.length_nil, List.nil_append] at m1
    rw [if_pos hg]
    have h16 := hg.2.1
    have hn := good_nodup hg.1.2
    have lp := loop (.map 0) (fun w => maskTo ts w ts.length) (fun w => Nat.lt_of_lt_of_le (maskTo_lt ts w _) (Nat.pow_le_pow_right (by omega) (by omega))) (.map (kvsT open_ ts) :: R) (fun i hi es => by
      obtain ⟨R', e⟩ := aA_cons (.map (kvsT open_ ts)) R 1 es
      rw [e]
      exact lookup_in (f := fun w => maskTo ts w ts.length) (List.getElem_mem hi) hn false [] R')
    have hb : (bndS (fun w => maskTo ts w ts.length) open_ open_.length).2 = bnd open_ ts := rfl
    rw [hb] at lp
    have hfz := frz_oA (A := .map (kvsT open_ ts) :: R) (esz := 1) (es := intsA (bnd open_ ts)) 0
    have hid : (intsA (bnd open_ ts)).map (frz (aA (.map (kvsT open_ ts) :: R) 1 (intsA (bnd open_ ts))) 0) = intsA (bnd open_ ts) := by
      unfold intsA; rw [List.map_map]; rfl
    rw [hid] at hfz
    have hfr := fresh_oA (A := .map (kvsT open_ ts) :: R) (esz := 1) (es := intsA (bnd open_ ts)) 0 fun B => all_fresh B 0 (bnd open_ ts)
    simp only [Nat.zero_add] at hfz hfr
    simp [mf22, m1, hla, go22x0 lp, hfz, hfr, -evLenSl]
  · have m1 := M27_bad ha hl hg []
    rw [if_neg hg]
    have lp := loop .nilM (fun _ => 0) (fun _ => by omega) [] (fun i hi es => by simp [evLookup])
    rw [bndS_zero] at lp
    have e1 : oA [] (intsA []) = .nilS := rfl
    have e2 : aA [] 1 (intsA []) = [] := rfl
    simp only [e1, e2] at lp
    simp [mf22, m1, hla, go22x0 lp, frz, freshB, -evLenSl]
open Classical in
noncomputable def M22 : PModel := fun args => match args with
  | [a, l] => match intsOf a, testsOf l with
    | some open_, some ts => if open_.length ≤ 140000000000 then some (if Good open_ ∧ GoodT ts then slA 1 (intsA (bnd open_ ts)) else .nilS) else none
    | _, _ => none
  | _ => none
theorem spec22F : PureSpecF Tryd.prog GI 22 M22 := by
  refine PureSpecF.of_ev (E := envOf GI fs22) (envOf_sound sound22) rfl at22 comp22 1 ?_
  intro args r h
  unfold M22 at h
  split at h
  · split at h
    · rename_i h1 h2
      simp only [Option.ite_none_right_eq_some, Option.some.injEq] at h
      obtain ⟨h4, rfl⟩ := h
      exact ⟨_, ev22 h1 h2 h4⟩
    · cases h
  · cases h
theorem spec22 : PureSpec Tryd.prog GI 22 M22 := spec22F.pure
end Go.Proofs.YtkdjebioapholaaDoor
/-
  Inspect: the reference's Decides.
-/
namespace Go.Proofs.YtkdjebioapholaaDoor
open Go

set_option maxRecDepth 100000 in
theorem round21a (E : Env) (fuel : Nat) (A : Arena) (a l : AV) {c : AV} {n : Nat} (hll : evLenSl l = some (.int .i64 (n : Int))) {xs : List Int} (ha : SlA 1 (intsA xs) c) (hm : xs.length ≤ 9223372036854775807) {i : Nat} (hi : i < xs.length) :
    run E fuel [.code lp21x0] (st21x0 a l c (.int .i64 (i : Int))) A =
      if 0 ≤ xs[i] ∧ xs[i] < n ∧ (∀ _ : 0 < i, xs[i - 1] < xs[i]) then some (.normal (st21x0 a l c (.int .i64 ((i + 1 : Nat) : Int))) A)
      else some (.ret [a, l, c, .bool false, .int .i64 (i : Int), .undef, .undef, .undef, .undef, .bool true, .bool true, .undef, .undef, .undef] A) := by
  have hl := ha.len
  simp only [intsA, List.length_map] at hl
  have x1 := ha.int (A := A) _ _ (List.getElem?_eq_getElem hi) .i64
  have x2 : ∀ _ : 0 < i, evIndexSl 1 A c (.int .i64 ((i - 1 : Nat) : Int)) = some (.fp [.int .i64 xs[i - 1]]) := fun h0 => ha.int (A := A) _ _ (List.getElem?_eq_getElem (show i - 1 < xs.length by omega)) .i64
  have b1 : evBin .lss (.int .i64 (i : Int)) (.int .i64 (xs.length : Int)) = some (.bool true) := by simp [evBin]; omega
  have b2 : evBin .lss (.int .i64 xs[i]) (.int .i64 0) = some (.bool (decide (xs[i] < 0))) := by simp [evBin]
  have b3 : evBin .geq (.int .i64 xs[i]) (.int .i64 (n : Int)) = some (.bool (decide ((n : Int) ≤ xs[i]))) := by simp [evBin]
  have b4 := add1_nat i (by omega)
  have b5 : evBin .gtr (.int .i64 (i : Int)) (.int .i64 0) = some (.bool (decide (0 < i))) := by simp [evBin]
  have b6 : ∀ _ : 0 < i, evBin .sub (.int .i64 (i : Int)) (.int .i64 1) = some (.int .i64 ((i - 1 : Nat) : Int)) := fun h0 => by
    have : IntKind.i64.wrap ((i : Int) - 1) = ((i - 1 : Nat) : Int) := by rw [wrapI (by unfold inI; omega)]; omega
    simp only [evBin]; rw [if_pos trivial, this]
  have b7 : ∀ _ : 0 < i, evBin .geq (.int .i64 xs[i - 1]) (.int .i64 xs[i]) = some (.bool (decide (xs[i] ≤ xs[i - 1]))) := fun h0 => by simp [evBin]
  obtain ⟨i1, hi1⟩ : ∃ i1 : Nat, i1 = i + 1 := ⟨_, rfl⟩
  rw [← hi1] at b4 ⊢
  by_cases h1 : xs[i] < 0
  · rw [if_neg (by omega)]
    rw [decide_eq_true h1] at b2
    simp [lp21x0, hl, x1, b1, b2, -evBin, -evIndexSl, -evLenSl]
  · rw [decide_eq_false h1] at b2
    by_cases h2 : (n : Int) ≤ xs[i]
    · rw [if_neg (by omega)]
      rw [decide_eq_true h2] at b3
      simp [lp21x0, hl, hll, x1, b1, b2, b3, -evBin, -evIndexSl, -evLenSl]
    · rw [decide_eq_false h2] at b3
      by_cases h3 : 0 < i
      · rw [decide_eq_true h3] at b5
        have b6 := b6 h3
        have b7 := b7 h3
        have x2 := x2 h3
        obtain ⟨y, hy⟩ : ∃ y, y = xs[i - 1] := ⟨_, rfl⟩
        obtain ⟨i0, hi0⟩ : ∃ i0, i0 = i - 1 := ⟨_, rfl⟩
        rw [← hy] at x2 b7
        rw [← hi0] at x2 b6
        by_cases h4 : xs[i] ≤ y
        · rw [if_neg (fun h => by have := h.2.2 h3; omega)]
          rw [decide_eq_true h4] at b7
          simp [lp21x0, hl, hll, x1, x2, b1, b2, b3, b5, b6, b7, -evBin, -evIndexSl, -evLenSl]
        · rw [if_pos ⟨by omega, by omega, fun _ => by omega⟩]
          rw [decide_eq_false h4] at b7
          simp [lp21x0, hl, hll, x1, x2, b1, b2, b3, b4, b5, b6, b7, -evBin, -evIndexSl, -evLenSl]
      · rw [decide_eq_false h3] at b5
        rw [if_pos ⟨by omega, by omega, fun h => absurd h h3⟩]
        simp [lp21x0, hl, hll, x1, b1, b2, b3, b4, b5, -evBin, -evIndexSl, -evLenSl]

noncomputable def fs21 : List (FuncId × HModel) := [(31, pureH 4 M36), (18, pureH 4 M17), (37, pureH 4 M37)]
@[simp] theorem fs21_31 : lookM fs21 31 = some (pureH 4 M36) := rfl
@[simp] theorem fs21_18 : lookM fs21 18 = some (pureH 4 M17) := rfl
@[simp] theorem fs21_37 : lookM fs21 37 = some (pureH 4 M37) := rfl
theorem sound21 : ∀ f M, lookM fs21 f = some M → FnSpecY Tryd.prog GI f M := lookM_cons (FnSpecY.of_pure spec31 4) (lookM_cons (FnSpecY.of_pure spec18 4) (lookM_cons (FnSpecY.of_pure spec37 4) lookM_nil))

open Classical in
noncomputable def decTo (ts : List (List Int)) (ch : List Int) (w : Int) (k : Nat) : Bool := decide (∃ x ∈ ch.take k, w ∈ ts.getD x.toNat [])

open Classical in
set_option maxRecDepth 100000 in
theorem round21b (fuel : Nat) (A : Arena) {a l c : AV} {open_ : List Int} {ts : List (List Int)} {ch : List Int} (ha : SlA 1 (intsA open_) a) (hl : testsOf l = some ts) (hc : SlA 1 (intsA ch) c) (hcm : ch.length ≤ 9223372036854775807) (hch : Chosen ts.length ch) {i k : Nat} (hi : i < open_.length) (hk : k < ch.length) :
    run (envOf GI fs21) fuel [.code lp21x1] (st21x1 a l c (.int .i64 (i : Int)) (.bool (decTo ts ch open_[i] k)) (.int .i64 (k : Int))) A =
      some (.normal (st21x1 a l c (.int .i64 (i : Int)) (.bool (decTo ts ch open_[i] (k + 1))) (.int .i64 ((k + 1 : Nat) : Int))) A) := by
  have hcl := hc.len
  simp only [intsA, List.length_map] at hcl
  obtain ⟨h1, h2, _⟩ := hch k hk
  obtain ⟨x, hx⟩ : ∃ x : Nat, ch[k] = x := ⟨ch[k].toNat, by omega⟩
  have hxl : x < ts.length := by omega
  have x1 := ha.int (A := A) _ _ (List.getElem?_eq_getElem hi) .i64
  have x2 := hc.int (A := A) _ _ (List.getElem?_eq_getElem hk) .i64
  rw [hx] at x2
  obtain ⟨s, hs, x3⟩ := testsOf_at hl hxl
  have x3 := x3 A .i64
  have hfz := intsOf_frz hs
  have hnr := intsOf_noRef hs
  have m1 : M37 [s, .int .i64 open_[i]] = some (.bool (decide (open_[i] ∈ ts[x]))) := by simp only [M37, hs, Option.map_some]
  have b1 : evBin .lss (.int .i64 (k : Int)) (.int .i64 (ch.length : Int)) = some (.bool true) := by simp [evBin]; omega
  have b4 := add1_nat k (by omega)
  have hstep : decTo ts ch open_[i] (k + 1) = (decTo ts ch open_[i] k || decide (open_[i] ∈ ts[x])) := by
    unfold decTo
    rw [List.take_succ_eq_append_getElem hk, hx]
    rw [Bool.eq_iff_iff, Bool.or_eq_true, decide_eq_true_eq, decide_eq_true_eq, decide_eq_true_eq]
    have e : ts.getD (x : Int).toNat [] = ts[x] := by simp [hxl]
    constructor
    · rintro ⟨y, hy, hw⟩
      rcases List.mem_append.1 hy with hy | hy
      · exact .inl ⟨y, hy, hw⟩
      · simp only [List.mem_singleton] at hy
        subst hy
        rw [e] at hw; exact .inr hw
    · rintro (⟨y, hy, hw⟩ | hw)
      · exact ⟨y, List.mem_append_left _ hy, hw⟩
      · exact ⟨(x : Int), List.mem_append_right _ (by simp), by rw [e]; exact hw⟩
  rw [hstep]
  obtain ⟨k1, hk1⟩ : ∃ k1 : Nat, k1 = k + 1 := ⟨_, rfl⟩
  rw [← hk1] at b4 ⊢
  cases hd : decTo ts ch open_[i] k with
  | true => simp [lp21x1, hcl, b1, b4, -evBin, -evIndexSl, -evLenSl]
  | false => simp [lp21x1, hcl, x1, x2, x3, m1, hfz, hnr, b1, b4, -evBin, -evIndexSl, -evLenSl]

open Classical in
set_option maxRecDepth 100000 in
theorem round21c (A : Arena) {a l c : AV} {open_ : List Int} {ts : List (List Int)} {ch : List Int} (fuel : Nat) (ha : SlA 1 (intsA open_) a) (hl : testsOf l = some ts) (hc : SlA 1 (intsA ch) c) (hcm : ch.length ≤ 9223372036854775807) (hf : ch.length < fuel) (hom : open_.length ≤ 9223372036854775807) (hch : Chosen ts.length ch) {i : Nat} (hi : i < open_.length) :
    run (envOf GI fs21) fuel [.code lp21x2] (st21x2 a l c (.int .i64 (i : Int))) A =
      if decTo ts ch open_[i] ch.length = true then some (.normal (st21x2 a l c (.int .i64 ((i + 1 : Nat) : Int))) A) else some (.ret [a, l, c, .bool false, .undef, .int .i64 (i : Int), .bool false, .undef, .undef, .undef, .undef, .undef, .undef, .bool true] A) := by
  have hol := ha.len
  simp only [intsA, List.length_map] at hol
  have hcl := hc.len
  simp only [intsA, List.length_map] at hcl
  have b1 : evBin .lss (.int .i64 (i : Int)) (.int .i64 (open_.length : Int)) = some (.bool true) := by simp [evBin]; omega
  have b4 := add1_nat i (by omega)
  have h0 : decTo ts ch open_[i] 0 = false := by unfold decTo; simp
  have lp := iter_up (E := envOf GI fs21) (fuel := fuel) (a := lp21x1) (mask := mask21x1) (fun k => st21x1 a l c (.int .i64 (i : Int)) (.bool (decTo ts ch open_[i] k)) (.int .i64 (k : Int))) (fun _ => A) ch.length (o := .exit 4 ((st21x1 a l c (.int .i64 (i : Int)) (.bool (decTo ts ch open_[i] ch.length)) (.int .i64 (ch.length : Int))).set 12 (.bool false)) A)
    (fun _ => cl21x1) (fun _ _ h => by cases h) (fun k hk => round21b fuel A ha hl hc hcm hch hi hk) (by simp [lp21x1, hcl, -evLenSl]) hf
  rw [h0] at lp
  have lp : iter (evC (envOf GI fs21) fuel lp21x1) mask21x1 fuel (st21x1 a l c (.int .i64 (i : Int)) (.bool false) (.int .i64 0)) A = _ := lp
  obtain ⟨i1, hi1⟩ : ∃ i1 : Nat, i1 = i + 1 := ⟨_, rfl⟩
  rw [← hi1] at b4 ⊢
  cases hd : decTo ts ch open_[i] ch.length with
  | true =>
    rw [hd] at lp
    simp [lp21x2, hol, b1, b4, go21x1 lp, -evBin, -evIndexSl, -evLenSl]
  | false =>
    rw [hd] at lp
    simp [lp21x2, hol, b1, b4, go21x1 lp, -evBin, -evIndexSl, -evLenSl]

open Classical in
set_option maxRecDepth 100000 in
theorem ev21 {a l c : AV} {open_ : List Int} {ts : List (List Int)} {ch : List Int} (ha : intsOf a = some open_) (hl : testsOf l = some ts) (hc : intsOf c = some ch) :
    evP (envOf GI fs21) (ch.length + open_.length + 1) mf21 1 [a, l, c] = some (.bool (decide (Dec open_ ts ch))) := by
  obtain ⟨ha1, ha2, ha3⟩ := intsOf_some ha
  obtain ⟨hc1, hc2, hc3⟩ := intsOf_some hc
  obtain ⟨hll, hlm⟩ := testsOf_len hl
  have hcl := hc1.len
  have hal := ha1.len
  simp only [List.length_map] at hcl hal
  have f1 := intsOf_frz ha
  have f2 := testsOf_frz hl
  have f3 := intsOf_noRef ha
  have f4 := testsOf_noRef hl
  have m1 : M36 [a] = some (.bool (decide (Good open_))) := by simp only [M36, ha, Option.map_some]
  have m2 : M17 [l] = some (.bool (decide (GoodT ts))) := by simp only [M17, hl, Option.map_some]
  rw [evP_run _ _ rfl]
  by_cases h1 : Good open_
  rotate_left
  · rw [decide_eq_false h1] at m1
    rw [decide_eq_false (show ¬ Dec open_ ts ch from fun h => h1 h.1)]
    simp [mf21, f1, f2, f3, f4, m1, -evLenSl]
  rw [decide_eq_true h1] at m1
  by_cases h2 : GoodT ts
  rotate_left
  · rw [decide_eq_false h2] at m2
    rw [decide_eq_false (show ¬ Dec open_ ts ch from fun h => h2 h.2.1)]
    simp [mf21, f1, f2, f3, f4, m1, m2, -evLenSl]
  rw [decide_eq_true h2] at m2
  rcases iter_search (E := envOf GI fs21) (fuel := ch.length + open_.length + 1) (a := lp21x0) (mask := mask21x0) (fun i => st21x0 a l c (.int .i64 (i : Int))) (fun _ => []) ch.length (fun i => ¬ ∀ hi : i < ch.length, 0 ≤ ch[i] ∧ ch[i] < ts.length ∧ (∀ _ : 0 < i, ch[i - 1] < ch[i]))
    (oF := fun i => .ret [a, l, c, .bool false, .int .i64 (i : Int), .undef, .undef, .undef, .undef, .bool true, .bool true, .undef, .undef, .undef] []) (oE := .exit 0 ((st21x0 a l c (.int .i64 (ch.length : Int))).set 9 (.bool false)) [])
    (fun _ => cl21x0) (fun _ _ _ h => by cases h) (fun _ _ h => by cases h)
    (fun i hi hp => by
      rw [round21a _ _ [] a l hll hc1 hc3 hi]
      exact if_pos (Classical.not_not.1 hp hi))
    (fun i hi hp => by
      rw [round21a _ _ [] a l hll hc1 hc3 hi]
      exact if_neg fun h => hp fun _ => h)
    (by simp [lp21x0, hcl, -evLenSl]) (show ch.length < ch.length + open_.length + 1 by omega) with ⟨i, hi, hp, _, lp⟩ | ⟨hp, lp⟩
  · have lp : iter (evC (envOf GI fs21) (ch.length + open_.length + 1) lp21x0) mask21x0 (ch.length + open_.length + 1) (st21x0 a l c (.int .i64 0)) [] = _ := lp
    rw [decide_eq_false (show ¬ Dec open_ ts ch from fun h => hp fun hi => h.2.2.1 i hi)]
    simp [mf21, f1, f2, f3, f4, m1, m2, go21x0 lp, -evLenSl]
  have lp : iter (evC (envOf GI fs21) (ch.length + open_.length + 1) lp21x0) mask21x0 (ch.length + open_.length + 1) (st21x0 a l c (.int .i64 0)) [] = _ := lp
  have hch : Chosen ts.length ch := fun i hi => Classical.not_not.1 (hp i hi) hi
  have hdt : ∀ w, decTo ts ch w ch.length = true ↔ ∃ k ∈ ch, w ∈ ts.getD k.toNat [] := fun w => by
    unfold decTo; rw [List.take_length, decide_eq_true_eq]
  rcases iter_search (E := envOf GI fs21) (fuel := ch.length + open_.length + 1) (a := lp21x2) (mask := mask21x2) (fun i => st21x2 a l c (.int .i64 (i : Int))) (fun _ => []) open_.length (fun i => ¬ ∀ hi : i < open_.length, decTo ts ch open_[i] ch.length = true)
    (oF := fun i => .ret [a, l, c, .bool false, .undef, .int .i64 (i : Int), .bool false, .undef, .undef, .undef, .undef, .undef, .undef, .bool true] []) (oE := .exit 2 ((st21x2 a l c (.int .i64 (open_.length : Int))).set 11 (.bool false)) [])
    (fun _ => cl21x2) (fun _ _ _ h => by cases h) (fun _ _ h => by cases h)
    (fun i hi hp => by
      rw [round21c [] _ ha1 hl hc1 hc3 (by omega) ha3 hch hi]
      exact if_pos (Classical.not_not.1 hp hi))
    (fun i hi hp => by
      rw [round21c [] _ ha1 hl hc1 hc3 (by omega) ha3 hch hi]
      exact if_neg fun h => hp fun _ => h)
    (by simp [lp21x2, hal, -evLenSl]) (show open_.length < ch.length + open_.length + 1 by omega) with ⟨i, hi, hp2, _, lp2⟩ | ⟨hp2, lp2⟩
  · have lp2 : iter (evC (envOf GI fs21) (ch.length + open_.length + 1) lp21x2) mask21x2 (ch.length + open_.length + 1) (st21x2 a l c (.int .i64 0)) [] = _ := lp2
    rw [decide_eq_false (show ¬ Dec open_ ts ch from fun h => hp2 fun hi => (hdt _).2 (h.2.2.2 _ (List.getElem_mem hi)))]
    simp [mf21, f1, f2, f3, f4, m1, m2, go21x0 lp, go21x2 lp2, -evLenSl]
  · have lp2 : iter (evC (envOf GI fs21) (ch.length + open_.length + 1) lp21x2) mask21x2 (ch.length + open_.length + 1) (st21x2 a l c (.int .i64 0)) [] = _ := lp2
    rw [decide_eq_true (show Dec open_ ts ch from ⟨h1, h2, hch, fun w hw => by
      obtain ⟨i, hi, rfl⟩ := List.mem_iff_getElem.1 hw
      exact (hdt _).1 (Classical.not_not.1 (hp2 i hi) hi)⟩)]
    simp [mf21, f1, f2, f3, f4, m1, m2, go21x0 lp, go21x2 lp2, -evLenSl]
open Classical in
noncomputable def M21 : PModel := fun args => match args with
  | [a, l, c] => match intsOf a, testsOf l, intsOf c with
    | some open_, some ts, some ch => some (.bool (decide (Dec open_ ts ch)))
    | _, _, _ => none
  | _ => none
theorem spec21 : PureSpec Tryd.prog GI 21 M21 := by
  refine PureSpec.of_ev (E := envOf GI fs21) (envOf_sound sound21) rfl at21 comp21 1 ?_
  intro args r h
  unfold M21 at h
  split at h
  · split at h
    · rename_i h1 h2 h3
      injection h with h; subst h
      exact ⟨_, ev21 h1 h2 h3⟩
    · cases h
  · cases h
end Go.Proofs.YtkdjebioapholaaDoor
/-
  Inspect: the lowest bit of a number; TrailingZeros.
-/
namespace Go.Proofs.YtkdjebioapholaaDoor
open Go

/-- a number that is not zero, by its lowest bit -/
theorem low_bit : ∀ (x : Nat), x ≠ 0 → ∃ k q, x = 2 ^ (k + 1) * q + 2 ^ k := by
  intro x
  induction x using Nat.strongRecOn with
  | ind x ih =>
    intro h
    by_cases hp : x % 2 = 1
    · exact ⟨0, x / 2, by simp; omega⟩
    · obtain ⟨k, q, hk⟩ := ih (x / 2) (by omega) (by omega)
      refine ⟨k + 1, q, ?_⟩
      have : x = 2 * (x / 2) := by omega
      rw [this, hk, Nat.mul_add, ← Nat.mul_assoc, ← Nat.pow_succ', ← Nat.pow_succ']
theorem bit_x (k q j : Nat) : (2 ^ (k + 1) * q + 2 ^ k).testBit j = if j < k + 1 then decide (j = k) else q.testBit (j - (k + 1)) := by
  rw [Nat.testBit_two_pow_mul_add q (Nat.pow_lt_pow_right (by omega) (by omega)) j]
  split
  · by_cases h : j = k
    · subst h; simp
    · rw [Nat.testBit_two_pow_of_ne (Ne.symm h)]; simp [h]
  · rfl
theorem bit_x1 (k q j : Nat) : (2 ^ (k + 1) * q + 2 ^ k - 1).testBit j = if j < k + 1 then decide (j < k) else q.testBit (j - (k + 1)) := by
  have hp : 0 < 2 ^ k := Nat.two_pow_pos k
  have hlt : 2 ^ k - 1 < 2 ^ (k + 1) := by
    have : 2 ^ k < 2 ^ (k + 1) := Nat.pow_lt_pow_right (by omega) (by omega)
    omega
  rw [Nat.add_sub_assoc hp, Nat.testBit_two_pow_mul_add q hlt j]
  split
  · rw [Nat.testBit_two_pow_sub_one]
  · rfl
/-- without its lowest bit -/
theorem and_pred (k q : Nat) : (2 ^ (k + 1) * q + 2 ^ k) &&& (2 ^ (k + 1) * q + 2 ^ k - 1) = 2 ^ (k + 1) * q := by
  apply Nat.eq_of_testBit_eq
  intro j
  rw [Nat.testBit_and, bit_x, bit_x1]
  have := Nat.testBit_two_pow_mul_add q (Nat.two_pow_pos (k + 1)) j
  rw [Nat.add_zero] at this
  rw [this]
  split
  · by_cases h : j = k
    · subst h; simp
    · simp [h]
  · simp
/-- the lowest bit alone -/
theorem and_neg (k q : Nat) (h : 2 ^ (k + 1) * q + 2 ^ k < 2 ^ 64) : (2 ^ (k + 1) * q + 2 ^ k) &&& (2 ^ 64 - (2 ^ (k + 1) * q + 2 ^ k)) = 2 ^ k := by
  have hp : 0 < 2 ^ k := Nat.two_pow_pos k
  obtain ⟨x, hx⟩ : ∃ x, x = 2 ^ (k + 1) * q + 2 ^ k := ⟨_, rfl⟩
  have hx1 := hx
  apply Nat.eq_of_testBit_eq
  intro j
  have e : 2 ^ 64 - (2 ^ (k + 1) * q + 2 ^ k) = 2 ^ 64 - ((2 ^ (k + 1) * q + 2 ^ k - 1) + 1) := by omega
  rw [Nat.testBit_and, e, Nat.testBit_two_pow_sub_succ (by omega), bit_x, bit_x1]
  by_cases h : j = k
  · subst h
    have hk : j < 64 := by
      rcases Nat.lt_or_ge j 64 with h1 | h1
      · exact h1
      · have := Nat.pow_le_pow_right (show 0 < 2 by omega) h1
        omega
    simp [hk]
  · rw [Nat.testBit_two_pow_of_ne (Ne.symm h)]
    split
    · simp [h]
    · cases q.testBit (j - (k + 1)) <;> simp
/-- a choice's number, read bit by bit -/
theorem bits_low (f : Nat → Int) (n k q : Nat) (hk : k < n) : bitsL f (2 ^ (k + 1) * q + 2 ^ k) n = f k :: bitsL f (2 ^ (k + 1) * q) n := by
  have key : ∀ x, bitsL f x n = ((List.range n).filter (fun j => x.testBit j)).map f := fun x => by
    unfold bitsL
    congr 1
    apply List.filter_congr
    intro j _
    rw [Nat.testBit_eq_decide_div_mod_eq]
  rw [key, key]
  obtain ⟨r, rfl⟩ : ∃ r, n = k + 1 + r := ⟨n - (k + 1), by omega⟩
  have h0 : ∀ j, (2 ^ (k + 1) * q).testBit j = if j < k + 1 then false else q.testBit (j - (k + 1)) := fun j => by
    have := Nat.testBit_two_pow_mul_add q (Nat.two_pow_pos (k + 1)) j
    rw [Nat.add_zero] at this
    rw [this]
    split <;> simp
  have hrange : List.range (k + 1 + r) = List.range k ++ [k] ++ (List.range r).map (k + 1 + ·) := by
    rw [List.range_add, List.range_succ]
  rw [hrange]
  simp only [List.filter_append, List.map_append, bit_x, h0]
  have e1 : (List.range k).filter (fun j => if j < k + 1 then decide (j = k) else q.testBit (j - (k + 1))) = [] := by
    rw [List.filter_eq_nil_iff]
    intro j hj
    have := List.mem_range.1 hj
    rw [if_pos (by omega)]; simp; omega
  have e2 : (List.range k).filter (fun j => if j < k + 1 then false else q.testBit (j - (k + 1))) = [] := by
    rw [List.filter_eq_nil_iff]
    intro j hj
    have := List.mem_range.1 hj
    rw [if_pos (by omega)]; simp
  have e3 : ((List.range r).map (k + 1 + ·)).filter (fun j => if j < k + 1 then decide (j = k) else q.testBit (j - (k + 1))) = ((List.range r).map (k + 1 + ·)).filter (fun j => if j < k + 1 then false else q.testBit (j - (k + 1))) := by
    apply List.filter_congr
    intro j hj
    obtain ⟨i, _, rfl⟩ := List.mem_map.1 hj
    rw [if_neg (by omega), if_neg (by omega)]
  rw [e1, e2, e3]
  simp
theorem bits_zero (f : Nat → Int) (n : Nat) : bitsL f 0 n = [] := by
  unfold bitsL
  simp

/-! ### TrailingZeros -/
theorem tab64_at : ∀ k : Fin 64, tab64[(2 ^ k.val * 285870213051353865 % 18446744073709551616) / 288230376151711744]? = some (k.val : Int) := by decide +kernel

theorem tab64_len : (tab64.map (AV.int .u8 ·)).length = 64 := rfl
open Classical in
/-- the number of zeros behind the lowest bit -/
noncomputable def tz (x : Nat) : Nat := if h : x ≠ 0 then (low_bit x h).choose else 64
theorem tz_eq (k q : Nat) : tz (2 ^ (k + 1) * q + 2 ^ k) = k := by
  have hp : 0 < 2 ^ k := Nat.two_pow_pos k
  have h : 2 ^ (k + 1) * q + 2 ^ k ≠ 0 := by omega
  unfold tz
  rw [dif_pos h]
  obtain ⟨q', hq'⟩ := (low_bit _ h).choose_spec
  obtain ⟨k', hk'⟩ : ∃ k', k' = (low_bit _ h).choose := ⟨_, rfl⟩
  rw [← hk'] at hq' ⊢
  have b1 := bit_x k q k
  have b2 := bit_x k q k'
  rw [hq', bit_x] at b1
  rw [hq', bit_x] at b2
  simp only [Nat.lt_succ_self, if_true, decide_true] at b1 b2
  rcases Nat.lt_trichotomy k k' with h1 | h1 | h1
  · rw [if_pos (by omega)] at b1
    simp at b1; omega
  · exact h1.symm
  · rw [if_pos (by omega)] at b2
    simp at b2; omega
theorem tz_lt (k q n : Nat) (h : 2 ^ (k + 1) * q + 2 ^ k < 2 ^ n) : k < n := by
  rcases Nat.lt_or_ge k n with h1 | h1
  · exact h1
  · have := Nat.pow_le_pow_right (show 0 < 2 by omega) h1
    omega

theorem u64_neg (x : Nat) (h0 : 0 < x) (hx : x < 18446744073709551616) : IntKind.u64.wrap (0 - (x : Int)) = ((18446744073709551616 - x : Nat) : Int) := by
  unfold IntKind.wrap; simp [IntKind.signed, IntKind.bits]; omega
theorem u64_mul (p c : Nat) : IntKind.u64.wrap ((p : Int) * (c : Int)) = ((p * c % 18446744073709551616 : Nat) : Int) := by
  unfold IntKind.wrap; simp [IntKind.signed, IntKind.bits]
end Go.Proofs.YtkdjebioapholaaDoor
/-
  Inspect: TrailingZeros, run.
-/
namespace Go.Proofs.YtkdjebioapholaaDoor
open Go

theorem pow58 (m : Nat) : m / 2 ^ 58 = m / 288230376151711744 := rfl
theorem shr58 (m : Nat) : evBin .shr (.int .u64 (m : Int)) (.int .u64 58) = some (.int .u64 ((m / 288230376151711744 : Nat) : Int)) := by
  rw [← pow58]
  exact shr_nat m 58 .u64 .u64 (by decide)
theorem tabT (i k : Nat) (htab : tab64[i]? = some (k : Int)) : ∃ T : List AV, GI 1 = some T ∧ T.length = 64 ∧ T[i]? = some (.int .u8 (k : Int)) ∧ i < 64 := by
  have hi : i < tab64.length := (List.getElem?_eq_some_iff.1 htab).1
  exact ⟨tab64.map (AV.int .u8 ·), rfl, rfl, by rw [List.getElem?_map, htab]; rfl, hi⟩
def mfC (C : Int) : MFun := ⟨1, 3, .seq (.region [⟨some 1, .mv (.cst (.int .i64 0)), none⟩]) (.seq (.seq (.region [⟨none, .mv (.var 0), none⟩, ⟨some 2, .bin .eql (.tmp 0) (.cst (.int .u64 0)), none⟩]) (.cond (.var 2) (.seq (.region [⟨some 1, .mv (.cst (.int .i64 64)), none⟩]) .ret) .skip)) (.seq (.region [⟨none, .mv (.var 0), none⟩, ⟨none, .mv (.var 0), none⟩, ⟨none, .un .neg (.tmp 1), none⟩, ⟨none, .bin .and (.tmp 0) (.tmp 2), none⟩, ⟨none, .bin .mul (.tmp 3) (.cst (.int .u64 C)), none⟩, ⟨none, .bin .shr (.tmp 4) (.cst (.int .u64 58)), none⟩, ⟨none, .indexArr 64 1 (.glob 1) (.tmp 5), none⟩, ⟨none, .load false 1 (.tmp 6), none⟩, ⟨none, .convInt .i64 (.tmp 7), none⟩, ⟨some 1, .mv (.tmp 8), none⟩]) .ret)), [.tmp 1]⟩
set_option maxRecDepth 100000 in
theorem ev41core (C : Int) (x n p m i k : Nat) (T : List AV) (h0 : x ≠ 0) (b1 : evUn .neg (.int .u64 (x : Int)) = some (.int .u64 (n : Int))) (b2 : evBin .and (.int .u64 (x : Int)) (.int .u64 (n : Int)) = some (.int .u64 (p : Int)))
    (b3 : evBin .mul (.int .u64 (p : Int)) (.int .u64 C) = some (.int .u64 (m : Int))) (b4 : evBin .shr (.int .u64 (m : Int)) (.int .u64 58) = some (.int .u64 (i : Int)))
    (hG : GI 1 = some T) (hTl : T.length = 64) (hTi : T[i]? = some (.int .u8 (k : Int))) (hi : i < 64) (hk : k < 64) : evP (envOf GI []) 0 (mfC C) 1 [.int .u64 (x : Int)] = some (.int .i64 (k : Int)) := by
  have b0 : evBin .eql (.int .u64 (x : Int)) (.int .u64 0) = some (.bool false) := by simp [evBin]; omega
  have w : IntKind.i64.wrap (k : Int) = k := wrapI (by unfold inI; omega)
  have hidx : ∀ A, evIndexArr 64 1 A (.fp T) (.int .u64 (i : Int)) = some (.fp (T.drop i)) := fun A => by
    simp only [evIndexArr, Int.toNat_natCast, Nat.mul_one]
    rw [if_pos ⟨by omega, by omega, by omega⟩]
  have hld : ∀ A, evLoad false 1 A (.fp (T.drop i)) = some (.int .u8 (k : Int)) := fun A => by
    simp only [evLoad, Bool.false_eq_true, if_false]
    rw [List.getElem?_drop, Nat.add_zero, hTi]
  have hcv : evConvInt .i64 (.int .u8 (k : Int)) = some (.int .i64 (k : Int)) := by
    simp only [evConvInt, w]
  rw [evP_run _ _ rfl]
  simp [mfC, b0, b1, b2, b3, b4, hG, hidx, hld, hcv, -evBin, -evUn, -evLoad, -evConvInt]

theorem p64 : (2 : Nat) ^ 64 = 18446744073709551616 := rfl
theorem ev41 (x : Nat) (h0 : x ≠ 0) (hx : x < 18446744073709551616) : evP (envOf GI []) 0 mf41 1 [.int .u64 (x : Int)] = some (.int .i64 (tz x : Int)) := by
  obtain ⟨k, q, hkq⟩ := low_bit x h0
  have hx' : 2 ^ (k + 1) * q + 2 ^ k < 2 ^ 64 := by rw [← hkq, p64]; exact hx
  have hk : k < 64 := tz_lt k q 64 hx'
  have htz : tz x = k := by rw [hkq]; exact tz_eq k q
  have hand := and_neg k q hx'
  rw [← hkq, p64] at hand
  obtain ⟨T, hG, hTl, hTi, hi⟩ := tabT _ _ (tab64_at ⟨k, hk⟩)
  rw [htz]
  have hp : 2 ^ k < 2 ^ 64 := Nat.pow_lt_pow_right (by omega) hk
  rw [p64] at hp
  have b1 : evUn .neg (.int .u64 (x : Int)) = some (.int .u64 ((18446744073709551616 - x : Nat) : Int)) := by
    simp only [evUn, u64_neg x (by omega) hx]
  have b2 : evBin .and (.int .u64 (x : Int)) (.int .u64 ((18446744073709551616 - x : Nat) : Int)) = some (.int .u64 ((2 ^ k : Nat) : Int)) := by
    simp only [evBin]; rw [if_pos trivial, and_nat _ _ hx (by omega), hand]
  have b3 : evBin .mul (.int .u64 ((2 ^ k : Nat) : Int)) (.int .u64 ((285870213051353865 : Nat) : Int)) = some (.int .u64 ((2 ^ k * 285870213051353865 % 18446744073709551616 : Nat) : Int)) := by
    simp only [evBin]; rw [if_pos trivial, u64_mul]
  exact ev41core ((285870213051353865 : Nat) : Int) x _ _ _ _ k T h0 b1 b2 b3 (shr58 _) hG hTl hTi hi hk
noncomputable def M30 : PModel := fun args => match args with
  | [.int .u64 x] => if 0 < x ∧ x < 18446744073709551616 then some (.int .i64 (tz x.toNat : Int)) else none
  | _ => none
theorem M30_eq (x : Nat) (h0 : x ≠ 0) (hx : x < 18446744073709551616) : M30 [.int .u64 (x : Int)] = some (.int .i64 (tz x : Int)) := by
  simp only [M30, Int.toNat_natCast]; exact if_pos ⟨by omega, by omega⟩
theorem spec41 : PureSpec Tryd.prog GI 41 M30 := by
  refine PureSpec.of_ev (E := envOf GI []) (envOf_sound lookM_nil) rfl at41 comp41 1 ?_
  intro args r h
  unfold M30 at h
  split at h
  · rename_i x
    simp only [Option.ite_none_right_eq_some, Option.some.injEq] at h
    obtain ⟨⟨h1, h2⟩, rfl⟩ := h
    obtain ⟨n, rfl⟩ : ∃ n : Nat, x = n := ⟨x.toNat, by omega⟩
    exact ⟨0, ev41 n (by omega) (by omega)⟩
  · cases h
noncomputable def fs30 : List (FuncId × HModel) := [(41, pureH 4 M30)]
@[simp] theorem fs30_41 : lookM fs30 41 = some (pureH 4 M30) := rfl
theorem sound30 : ∀ f M, lookM fs30 f = some M → FnSpecY Tryd.prog GI f M := lookM_cons (FnSpecY.of_pure spec41 4) lookM_nil
theorem spec30 : PureSpec Tryd.prog GI 30 M30 := by
  refine PureSpec.of_ev (E := envOf GI fs30) (envOf_sound sound30) rfl at30 comp30 1 ?_
  intro args r h
  have h' := h
  unfold M30 at h
  split at h
  · rename_i x
    simp only [Option.ite_none_right_eq_some, Option.some.injEq] at h
    obtain ⟨⟨h1, h2⟩, rfl⟩ := h
    refine ⟨0, ?_⟩
    have hcst : ∀ (a b : MC) (k : List KC) (σ : List AV) (A : Arena), run (envOf GI fs30) 0 (.code (.cond (.cst (.bool false)) a b) :: k) σ A = run (envOf GI fs30) 0 (.code b :: k) σ A := fun a b k σ A => run_cond_f _ a b rfl
    rw [evP_run _ _ rfl]
    simp [mf30, h', hcst]
  · cases h
end Go.Proofs.YtkdjebioapholaaDoor
/-
  Inspect: few.
-/
namespace Go.Proofs.YtkdjebioapholaaDoor
open Go

def cutS : AV → AV
  | .fs s es => .fs s (es.take 20)
  | x => x
def cutT : AV → AV
  | .agg [s] => .agg [cutS s]
  | x => x
theorem cutS_sl {s : AV} {xs : List Int} (h : intsOf s = some xs) : intsOf (cutS s) = some (xs.take 20) ∧ ∀ A, evSliceSl 1 A none (some (.int .i64 ((min xs.length 20 : Nat) : Int))) s = some (cutS s) := by
  obtain ⟨h1, h2, h3⟩ := intsOf_some h
  have hr : ∀ z ∈ xs.take 20, inI z := fun z hz => h2 z (List.mem_of_mem_take hz)
  have hl : (xs.take 20).length ≤ 9223372036854775807 := by simp; omega
  rcases h1 with ⟨rfl, h4⟩ | rfl
  · have : xs = [] := by simpa using h4
    subst this
    exact ⟨rfl, fun A => rfl⟩
  · refine ⟨intsOf_of (.inr ?_) hl hr, fun A => ?_⟩
    · simp [cutS, List.map_take]
    · have e : min xs.length 20 ≤ (xs.map (AV.int .i64)).length := by simp; omega
      have e2 : (xs.map (AV.int .i64)).take (min xs.length 20) = (xs.map (AV.int .i64)).take 20 := by
        rw [List.take_eq_take_iff]; simp; omega
      obtain ⟨n, hn⟩ : ∃ n, n = min xs.length 20 := ⟨_, rfl⟩
      rw [← hn] at e e2 ⊢
      simp only [List.length_map] at e
      simp [evSliceSl, e, cutS, e2]

theorem buildF_one (s : AV) (h1 : s = .nilS ∨ ∃ es, s = .fs 1 es) : evBuildF 1 [.agg [s]] = some (.fs 1 [.agg [s]]) := by
  rcases h1 with rfl | ⟨es, rfl⟩ <;> simp [evBuildF]

def fewA (es : List AV) (i : Nat) : List AV := (es.take i).map cutT

set_option maxRecDepth 100000 in
theorem round12 (E : Env) (fuel : Nat) {l : AV} {ts : List (List Int)} {es : List AV} (hl : SlA 1 es l) (hlen : es.length = ts.length) (hes : ∀ i (h : i < es.length) (h' : i < ts.length), testOf es[i] = some ts[i]) {i : Nat} (hi : i < ts.length) (h11 : i < 11) :
    run E fuel [.code lp12x0] (st12x0 l (oA [] (fewA es i)) (.int .i64 (i : Int))) (aA [] 1 (fewA es i)) =
      some (.normal (st12x0 l (oA [] (fewA es (i + 1))) (.int .i64 ((i + 1 : Nat) : Int))) (aA [] 1 (fewA es (i + 1)))) := by
  have hie : i < es.length := by omega
  obtain ⟨s, he, hs⟩ := testOf_some (hes i hie hi)
  obtain ⟨hs1, hs2, hs3⟩ := intsOf_some hs
  have hx : es[i]? = some (.agg [s]) := by rw [List.getElem?_eq_getElem hie, he]
  have hsol1 : (AV.agg [s]).solid = true := by rcases hs1 with ⟨rfl, _⟩ | rfl <;> rfl
  have hsl := hs1.len
  simp only [List.length_map] at hsl
  have hll := hl.len
  have x1 : ∀ A, evIndexSl 1 A l (.int .i64 (i : Int)) = some (.fp [s]) := fun A => hl.index (A := A) hx hsol1 (by omega) .i64
  obtain ⟨_, x2⟩ := cutS_sl hs
  have b1 : evBin .lss (.int .i64 (i : Int)) (.int .i64 (es.length : Int)) = some (.bool true) := by simp [evBin]; omega
  have b2 : evBin .lss (.int .i64 (i : Int)) (.int .i64 11) = some (.bool true) := by simp [evBin]; omega
  have b4 := add1_nat i (by omega)
  have mn : evMinL false (.int .i64 (ts[i].length : Int)) [.int .i64 20] = some (.int .i64 ((min ts[i].length 20 : Nat) : Int)) := by
    have := min2_nat ts[i].length 20 .i64 .i64
    simp only [evMinL]
    rw [show (20 : Int) = ((20 : Nat) : Int) from rfl, this]
  have hform : cutS s = .nilS ∨ ∃ es, cutS s = .fs 1 es := by
    rcases hs1 with ⟨rfl, _⟩ | rfl
    · exact .inl rfl
    · exact .inr ⟨_, rfl⟩
  have bf := buildF_one (cutS s) hform
  have hcl : cellsOf (cutS s) = [cutS s] := by rcases hform with h | ⟨es, h⟩ <;> rw [h] <;> rfl
  have hso : (cutS s).solid = true := by rcases hform with h | ⟨es, h⟩ <;> rw [h] <;> rfl
  have hfl : flat1 (cutS s) = true := by rcases hform with h | ⟨es, h⟩ <;> rw [h] <;> rfl
  have hstep : fewA es i ++ [.agg [cutS s]] = fewA es (i + 1) := by
    unfold fewA; rw [List.take_succ_eq_append_getElem hie, he]; simp [cutT]
  have ap := append1 (A := []) (esz := 1) (bytes := 24) (es := fewA es i) (.agg [cutS s]) (by omega) (by omega) (by simp [fewA]; omega)
  rw [hstep] at ap
  obtain ⟨n, hn⟩ : ∃ n, n = min ts[i].length 20 := ⟨_, rfl⟩
  rw [← hn] at mn x2
  obtain ⟨i1, hi1⟩ : ∃ i1 : Nat, i1 = i + 1 := ⟨_, rfl⟩
  rw [← hi1] at b4 ap ⊢
  simp [lp12x0, hll, x1, x2, hsl, mn, bf, hcl, hso, hfl, b1, b2, b4, ap, -evBin, -evIndexSl, -evLenSl, -evMinL, -evSliceSl, -evBuildF, -AV.solid, -cellsOf, -flat1]

def fewT (ts : List (List Int)) : List (List Int) := (ts.take 11).map (·.take 20)
set_option maxRecDepth 100000 in
theorem ev12 (E : Env) {l : AV} {ts : List (List Int)} {es : List AV} (hl : SlA 1 es l) (hlen : es.length = ts.length) (hes : ∀ i (h : i < es.length) (h' : i < ts.length), testOf es[i] = some ts[i]) : evP E 20 mf12 3 [l] = some (slA 1 ((es.take 11).map cutT)) := by
  have hll := hl.len
  have e : (es.take 11).map cutT = fewA es (min es.length 11) := by
    unfold fewA; congr 1
    rw [List.take_eq_take_iff]; omega
  rw [e]
  have lp : ∃ v, iter (evC E 20 lp12x0) mask12x0 20 (st12x0 l .nilS (.int .i64 0)) [] = some (.exit 0 ((st12x0 l (oA [] (fewA es (min es.length 11))) (.int .i64 ((min es.length 11 : Nat) : Int))).set 4 v) (aA [] 1 (fewA es (min es.length 11)))) := by
    refine ⟨.bool false, iter_up (fun i => st12x0 l (oA [] (fewA es i)) (.int .i64 (i : Int))) (fun i => aA [] 1 (fewA es i)) (min es.length 11) (fun _ => cl12x0) (fun _ _ h => by cases h) (fun i hi => round12 E 20 hl hlen hes (by omega) (by omega)) ?_ (by omega)⟩
    obtain ⟨n, hn⟩ : ∃ n, n = min es.length 11 := ⟨_, rfl⟩
    rw [← hn]
    by_cases hx : n < es.length
    · have : n = 11 := by omega
      have b1 : evBin .lss (.int .i64 (n : Int)) (.int .i64 (es.length : Int)) = some (.bool true) := by simp [evBin]; omega
      have b2 : evBin .lss (.int .i64 (n : Int)) (.int .i64 11) = some (.bool false) := by simp [evBin]; omega
      simp [lp12x0, hll, b1, b2, -evBin, -evLenSl]
    · have b1 : evBin .lss (.int .i64 (n : Int)) (.int .i64 (es.length : Int)) = some (.bool false) := by simp [evBin]; omega
      simp [lp12x0, hll, b1, -evBin, -evLenSl]
  obtain ⟨v, lp⟩ := lp
  obtain ⟨n, hn⟩ : ∃ n, n = min es.length 11 := ⟨_, rfl⟩
  rw [← hn] at lp ⊢
  have hfz := frz_oA (A := []) (esz := 1) (es := fewA es n) 2
  have hid : (fewA es n).map (frz (aA [] 1 (fewA es n)) 2) = fewA es n := by
    conv => rhs; rw [← List.map_id (fewA es n)]
    apply List.map_congr_left
    intro x hx
    unfold fewA at hx
    obtain ⟨y, hy, rfl⟩ := List.mem_map.1 hx
    obtain ⟨i, hi, rfl⟩ := List.mem_iff_getElem.1 (List.mem_of_mem_take hy)
    obtain ⟨s, he, hs⟩ := testOf_some (hes i hi (by omega))
    rw [he]
    rcases (intsOf_some hs).1 with ⟨rfl, _⟩ | rfl <;> rfl
  rw [hid] at hfz
  rw [evP_run _ _ rfl]
  simp [mf12, go12x0 lp, hfz]
noncomputable def M12 : PModel := fun args => match args with
  | [l] => match testsOf l, srcElems 1 [] l with
    | some _, some es => some (slA 1 ((es.take 11).map cutT))
    | _, _ => none
  | _ => none
theorem spec12 : PureSpec Tryd.prog GI 12 M12 := by
  refine PureSpec.of_ev (E := envOf GI []) (envOf_sound lookM_nil) rfl at12 comp12 3 ?_
  intro args r h
  unfold M12 at h
  split at h
  · split at h
    · rename_i h1 h2
      injection h with h; subst h
      obtain ⟨es, k1, k2, k3, k4⟩ := listOf_sl h1
      have := k1.src (A := [])
      rw [h2] at this
      injection this with this; subst this
      exact ⟨20, ev12 _ k1 k2 k3⟩
    · cases h
  · cases h
theorem M12_eq {l : AV} {ts : List (List Int)} (h : testsOf l = some ts) : ∃ r, M12 [l] = some r ∧ testsOf r = some (fewT ts) := by
  obtain ⟨es, k1, k2, k3, k4⟩ := listOf_sl h
  refine ⟨slA 1 ((es.take 11).map cutT), by simp only [M12, h, k1.src], ?_⟩
  have hm : ∀ {es : List AV} {ts : List (List Int)}, es.length = ts.length → (∀ i (h : i < es.length) (h' : i < ts.length), testOf es[i] = some ts[i]) → allOf testOf (es.map cutT) = some (ts.map (·.take 20)) := by
    intro es
    induction es with
    | nil => intro ts h1 _; cases ts with
      | nil => rfl
      | cons => cases h1
    | cons x r ih =>
      intro ts h1 h2
      cases ts with
      | nil => cases h1
      | cons t ts =>
        obtain ⟨s, he, hs⟩ := testOf_some (h2 0 (by simp) (by simp))
        simp only [List.getElem_cons_zero] at he hs
        have hx : testOf (cutT x) = some (t.take 20) := by rw [he]; exact (cutS_sl hs).1
        have hr := ih (ts := ts) (by simpa using h1) (fun i a b => h2 (i + 1) (by simpa using a) (by simpa using b))
        simp only [List.map_cons, allOf, hx, hr]
  have h2 := hm (es := es.take 11) (ts := ts.take 11) (by simp [k2]) (fun i a b => by
    simp only [List.getElem_take]
    exact k3 i _ _)
  have hlen : ((es.take 11).map cutT).length ≤ 9223372036854775807 := by simp; omega
  unfold testsOf fewT
  cases hc : (es.take 11).map cutT with
  | nil =>
    rw [hc] at h2
    injection h2 with h2
    rw [← h2]; rfl
  | cons x r =>
    rw [hc] at h2 hlen
    simp only [slA, listOf]
    rw [if_pos hlen]; exact h2
end Go.Proofs.YtkdjebioapholaaDoor
/-
  Inspect: choices: the recursion.
-/
namespace Go.Proofs.YtkdjebioapholaaDoor
open Go

/-- the choices of 'left' more tests, from the i-th on; c: how many first ones there are -/
def combs : Nat → Nat → Nat → Nat → List Nat
  | 0, set, _, _ => [set]
  | _ + 1, _, _, 0 => []
  | l + 1, set, i, c + 1 => combs l (set ||| 2 ^ i) (i + 1) (c + 1) ++ combs (l + 1) set (i + 1) c
termination_by l _ _ c => (l, c)

noncomputable def H39 : Nat → HModel
  | 0 => fun h => evFun (envY GI [] h) 40 mf39
  | k + 1 => fun h => evFun (envY GI [(39, H39 k)] h) 40 mf39
theorem spec39 : ∀ k, FnSpecY Tryd.prog GI 39 (H39 k)
  | 0 => evFun_soundY lookM_nil at39 comp39
  | k + 1 => evFun_soundY (lookM_cons (spec39 k) lookM_nil) at39 comp39

/-- what a yield does: a choice that decides ends the loop -/
structure Yl (h : Handler) (yv : AV) (D : Nat → Bool) (A : Arena) (B : Nat → Arena) : Prop where
  isY : ∃ L, yv = .func (.yield L) [] []
  no : ∀ s, s < 2 ^ 17 → D s = false → h yv [.int .u64 (s : Int)] A = some (.bool true, A)
  yes : ∀ s, s < 2 ^ 17 → D s = true → h yv [.int .u64 (s : Int)] A = some (.bool false, B s)

def endOf (D : Nat → Bool) (A : Arena) (B : Nat → Arena) (l : List Nat) : AV × Arena := match l.find? D with
  | none => (.bool true, A)
  | some s => (.bool false, B s)
theorem endOf_none {D : Nat → Bool} {A : Arena} {B : Nat → Arena} {l l' : List Nat} (h : l.find? D = none) : endOf D A B (l ++ l') = endOf D A B l' := by
  unfold endOf
  rw [List.find?_append, h]; rfl
theorem endOf_some {D : Nat → Bool} {A : Arena} {B : Nat → Arena} {l l' : List Nat} {s : Nat} (h : l.find? D = some s) : endOf D A B (l ++ l') = (.bool false, B s) := by
  unfold endOf
  rw [List.find?_append, h]; rfl

set_option maxRecDepth 100000 in
theorem base39 {h : Handler} {yv : AV} {D : Nat → Bool} {A : Arena} {B : Nat → Arena} (hy : Yl h yv D A B) {yp np fp : Nat} (h1 : A[yp]? = some (.row 1 false [yv])) (first set : Nat) (hs : set < 2 ^ 17) :
    H39 0 h [.int .i64 (first : Int), .int .i64 0, .int .u64 (set : Int), .ptr yp 0 0, .ptr np 0 0, .ptr fp 0 0] A = some (endOf D A B (combs 0 set first 0)) := by
  obtain ⟨L, rfl⟩ := hy.isY
  unfold H39 endOf
  rw [evFun_run _ _ rfl]
  simp only [combs]
  cases hd : D set with
  | false =>
    have := hy.no set hs hd
    simp [mf39, h1, this, hd]
  | true =>
    have := hy.yes set hs hd
    simp [mf39, h1, this, hd]

def self39 (yp np fp : Nat) : AV := .func (.func 39) [] [.ptr yp 0 0, .ptr np 0 0, .ptr fp 0 0]
set_option maxRecDepth 100000 in
/-- a round: a test, and the choices with it -/
theorem round39 {h : Handler} {fs : List (FuncId × HModel)} {H : HModel} (hH : lookM fs 39 = some H) {A : Arena} {yp np fp n : Nat} (hn : A[np]? = some (.row 1 false [.int .i64 (n : Int)])) (hf : A[fp]? = some (.row 1 false [self39 yp np fp])) (hn17 : n ≤ 17) (l set i : Nat) (hi : i + (l + 1) ≤ n) (hs : set < 2 ^ 17) (r : Bool) (A' : Arena) (hA' : r = true → A' = A)
    (hr : H h [.int .i64 ((i + 1 : Nat) : Int), .int .i64 (l : Int), .int .u64 ((set ||| 2 ^ i : Nat) : Int), .ptr yp 0 0, .ptr np 0 0, .ptr fp 0 0] A = some (.bool r, A')) :
    ∃ σ, σ[6]? = some (.bool false) ∧ run (envY GI fs h) 40 [.code lp39x0] (st39x0 (.int .i64 ((l + 1 : Nat) : Int)) (.int .u64 (set : Int)) (.ptr np 0 0) (.ptr fp 0 0) (.int .i64 (i : Int))) A =
      if r = true then some (.normal (st39x0 (.int .i64 ((l + 1 : Nat) : Int)) (.int .u64 (set : Int)) (.ptr np 0 0) (.ptr fp 0 0) (.int .i64 ((i + 1 : Nat) : Int))) A) else some (.ret σ A') := by
  have hp : 2 ^ i < 2 ^ 17 := Nat.pow_lt_pow_right (by omega) (by omega)
  have b1 : evBin .add (.int .i64 (i : Int)) (.int .i64 ((l + 1 : Nat) : Int)) = some (.int .i64 ((i + (l + 1) : Nat) : Int)) := by
    simp only [evBin]; rw [if_pos trivial, wrapI (by unfold inI; omega)]; congr 2
  have b2 : evBin .leq (.int .i64 ((i + (l + 1) : Nat) : Int)) (.int .i64 (n : Int)) = some (.bool true) := by
    simp only [evBin]; rw [if_pos trivial, decide_eq_true (by omega)]
  have b3 := add1_nat i (by omega)
  have b4 : evBin .sub (.int .i64 ((l + 1 : Nat) : Int)) (.int .i64 1) = some (.int .i64 (l : Int)) := by
    simp only [evBin]; rw [if_pos trivial, wrapI (by unfold inI; omega)]; congr 2; omega
  have b5 := shl_nat i (by omega) .i64
  have b6 := or_nat set (2 ^ i) (by omega) (by omega)
  obtain ⟨q, hq⟩ : ∃ q, q = set ||| 2 ^ i := ⟨_, rfl⟩
  rw [← hq] at b6 hr
  obtain ⟨p, hpp⟩ : ∃ p, p = 2 ^ i := ⟨_, rfl⟩
  rw [← hpp] at b5 b6
  obtain ⟨l1, hl1⟩ : ∃ l1, l1 = l + 1 := ⟨_, rfl⟩
  rw [← hl1] at b1 b2 b4 ⊢
  obtain ⟨i1, hi1⟩ : ∃ i1, i1 = i + 1 := ⟨_, rfl⟩
  rw [← hi1] at b3 hr ⊢
  obtain ⟨il, hil⟩ : ∃ il, il = i + l1 := ⟨_, rfl⟩
  rw [← hil] at b1 b2
  refine ⟨[.undef, .int .i64 (l1 : Int), .int .u64 (set : Int), .undef, .ptr np 0 0, .ptr fp 0 0, .bool false, .int .i64 (i : Int), .undef, .bool true, .bool true], rfl, ?_⟩
  cases r with
  | true =>
    obtain rfl := hA' rfl
    simp [lp39x0, hn, hf, self39, hH, hr, b1, b2, b3, b4, b5, b6, -evBin]
  | false =>
    simp [lp39x0, hn, hf, self39, hH, hr, b1, b2, b3, b4, b5, b6, -evBin]

set_option maxRecDepth 100000 in
theorem ev39 {h : Handler} {yv : AV} {D : Nat → Bool} {A : Arena} {B : Nat → Arena} (hy : Yl h yv D A B) {yp np fp n : Nat} (h1 : A[yp]? = some (.row 1 false [yv])) (hn : A[np]? = some (.row 1 false [.int .i64 (n : Int)])) (hf : A[fp]? = some (.row 1 false [self39 yp np fp])) (hn17 : n ≤ 17) :
    ∀ (l first set : Nat), set < 2 ^ 17 → first ≤ 17 → l ≤ 17 → H39 l h [.int .i64 (first : Int), .int .i64 (l : Int), .int .u64 (set : Int), .ptr yp 0 0, .ptr np 0 0, .ptr fp 0 0] A = some (endOf D A B (combs l set first (n + 1 - l - first))) := by
  intro l
  induction l with
  | zero =>
    intro first set hs _ _
    have := base39 hy (np := np) (fp := fp) h1 first set hs
    simp only [combs] at this ⊢
    exact this
  | succ l ih =>
    intro first set hs hfi hl
    have loop : ∀ (c i m : Nat), c = n + 1 - (l + 1) - i → i ≤ 18 → c < m →
        (endOf D A B (combs (l + 1) set i c) = (.bool true, A) ∧ ∃ j, iter (evC (envY GI [(39, H39 l)] h) 40 lp39x0) mask39x0 m (st39x0 (.int .i64 ((l + 1 : Nat) : Int)) (.int .u64 (set : Int)) (.ptr np 0 0) (.ptr fp 0 0) (.int .i64 (i : Int))) A = some (.exit 0 ((st39x0 (.int .i64 ((l + 1 : Nat) : Int)) (.int .u64 (set : Int)) (.ptr np 0 0) (.ptr fp 0 0) j).set 9 (.bool false)) A)) ∨
        ∃ σ A', σ[6]? = some (.bool false) ∧ endOf D A B (combs (l + 1) set i c) = (.bool false, A') ∧ iter (evC (envY GI [(39, H39 l)] h) 40 lp39x0) mask39x0 m (st39x0 (.int .i64 ((l + 1 : Nat) : Int)) (.int .u64 (set : Int)) (.ptr np 0 0) (.ptr fp 0 0) (.int .i64 (i : Int))) A = some (.ret σ A') := by
      intro c
      induction c with
      | zero =>
        intro i m hc hi hm
        obtain ⟨m, rfl⟩ : ∃ j, m = j + 1 := ⟨m - 1, by omega⟩
        refine .inl ⟨by simp [combs, endOf], .int .i64 (i : Int), ?_⟩
        have b1 : evBin .add (.int .i64 (i : Int)) (.int .i64 ((l + 1 : Nat) : Int)) = some (.int .i64 ((i + (l + 1) : Nat) : Int)) := by
          simp only [evBin]; rw [if_pos trivial, wrapI (by unfold inI; omega)]; congr 2
        have b2 : evBin .leq (.int .i64 ((i + (l + 1) : Nat) : Int)) (.int .i64 (n : Int)) = some (.bool false) := by
          simp only [evBin]; rw [if_pos trivial, decide_eq_false (by omega)]
        obtain ⟨l1, hl1⟩ : ∃ l1, l1 = l + 1 := ⟨_, rfl⟩
        rw [← hl1] at b1 b2 ⊢
        obtain ⟨il, hil⟩ : ∃ il, il = i + l1 := ⟨_, rfl⟩
        rw [← hil] at b1 b2
        rw [iter_succ, cl39x0]
        simp [lp39x0, hn, b1, b2, -evBin]
      | succ c ihc =>
        intro i m hc hi hm
        obtain ⟨m, rfl⟩ : ∃ j, m = j + 1 := ⟨m - 1, by omega⟩
        have hp : 2 ^ i < 2 ^ 17 := Nat.pow_lt_pow_right (by omega) (by omega)
        have hsub := ih (i + 1) (set ||| 2 ^ i) (Nat.or_lt_two_pow hs hp) (by omega) (by omega)
        rw [show n + 1 - l - (i + 1) = c + 1 by omega] at hsub
        rw [iter_succ, cl39x0, show combs (l + 1) set i (c + 1) = combs l (set ||| 2 ^ i) (i + 1) (c + 1) ++ combs (l + 1) set (i + 1) c by rw [combs]]
        cases hfd : (combs l (set ||| 2 ^ i) (i + 1) (c + 1)).find? D with
        | none =>
          have he : endOf D A B (combs l (set ||| 2 ^ i) (i + 1) (c + 1)) = (.bool true, A) := by unfold endOf; rw [hfd]
          rw [he] at hsub
          obtain ⟨σ, _, hrun⟩ := round39 (fs := [(39, H39 l)]) rfl hn hf hn17 l set i (by omega) hs true A (fun _ => rfl) hsub
          rw [if_pos rfl] at hrun
          rw [hrun, endOf_none hfd]
          exact ihc (i + 1) m (by omega) (by omega) (by omega)
        | some s =>
          have he : endOf D A B (combs l (set ||| 2 ^ i) (i + 1) (c + 1)) = (.bool false, B s) := by unfold endOf; rw [hfd]
          rw [he] at hsub
          obtain ⟨σ, h6, hrun⟩ := round39 (fs := [(39, H39 l)]) rfl hn hf hn17 l set i (by omega) hs false (B s) (fun h => by cases h) hsub
          rw [if_neg (by simp)] at hrun
          rw [hrun, endOf_some hfd]
          exact .inr ⟨σ, B s, h6, rfl, rfl⟩
    have b0 : evBin .eql (.int .i64 ((l + 1 : Nat) : Int)) (.int .i64 0) = some (.bool false) := by simp only [evBin]; rw [if_pos trivial]; simp; omega
    rcases loop (n + 1 - (l + 1) - first) first 40 rfl (by omega) (by omega) with ⟨he, j, lp⟩ | ⟨σ, A', h6, he, lp⟩
    · rw [he]
      unfold H39
      rw [evFun_run _ _ rfl]
      obtain ⟨l1, hl1⟩ : ∃ l1, l1 = l + 1 := ⟨_, rfl⟩
      rw [← hl1] at b0 lp ⊢
      simp [mf39, b0, go39x0 lp, -evBin]
    · rw [he]
      unfold H39
      rw [evFun_run _ _ rfl]
      obtain ⟨l1, hl1⟩ : ∃ l1, l1 = l + 1 := ⟨_, rfl⟩
      rw [← hl1] at b0 lp ⊢
      simp [mf39, b0, go39x0 lp, h6, -evBin]
end Go.Proofs.YtkdjebioapholaaDoor
/-
  Inspect: choices.
-/
namespace Go.Proofs.YtkdjebioapholaaDoor
open Go

noncomputable def H39A : HModel := fun h args A => match args with
  | _ :: .int _ l :: _ => H39 l.toNat h args A
  | _ => none
theorem spec39A : FnSpecY Tryd.prog GI 39 H39A := FnSpecY.of_all spec39 fun hd args A x he => by
  unfold H39A at he
  split at he
  · exact ⟨_, he⟩
  · cases he
noncomputable def fs38 : List (FuncId × HModel) := [(39, H39A)]
noncomputable def H38 : HModel := fun hd args A => (evFun (envY GI fs38 hd) 0 mf38 args A).map fun x => (x.1, x.2.set A.length .dead)
theorem spec38 : FnSpecY Tryd.prog GI 38 H38 := (evFun_soundY (lookM_cons spec39A lookM_nil) at38 comp38).kill
noncomputable def H28 : HModel := fun hd => evFun (envY GI [] hd) 0 mf28
theorem spec28 : FnSpecY Tryd.prog GI 28 H28 := evFun_soundY lookM_nil at28 comp28
theorem ev28 (h : Handler) (n size : Int) (A : Arena) : H28 h [.int .i64 n, .int .i64 size] A = some (.func (.func 38) [] [.ptr A.length 0 0, .ptr (A.length + 1) 0 0], A ++ [.row 1 false [.int .i64 n], .row 1 false [.int .i64 size]]) := by
  unfold H28
  rw [evFun_run _ _ rfl]
  simp [mf28]

/-- the arena while the choices are made -/
def A38 (A : Arena) (yv : AV) (np : Nat) : Arena := A ++ [.row 1 false [yv], .row 1 false [self39 A.length np (A.length + 1)]]
set_option maxRecDepth 100000 in
theorem ev38 {h : Handler} {yv : AV} {D : Nat → Bool} {A : Arena} {B : Nat → Arena} {np sp n size : Nat} (hy : Yl h yv D (A38 A yv np) B) (hn : A[np]? = some (.row 1 false [.int .i64 (n : Int)])) (hs : A[sp]? = some (.row 1 false [.int .i64 (size : Int)])) (hn17 : n ≤ 17) (hs17 : size ≤ 17) :
    H38 h [yv, .ptr np 0 0, .ptr sp 0 0] A = some (.tup [], (endOf D (A38 A yv np) B (combs size 0 0 (n + 1 - size))).2.set A.length .dead) := by
  have hnl : np < A.length := (List.getElem?_eq_some_iff.1 hn).1
  have hsl : sp < A.length := (List.getElem?_eq_some_iff.1 hs).1
  have e1 : (A38 A yv np)[A.length]? = some (.row 1 false [yv]) := by
    unfold A38; rw [List.getElem?_append_right (Nat.le_refl _)]; simp
  have e2 : (A38 A yv np)[np]? = some (.row 1 false [.int .i64 (n : Int)]) := by
    unfold A38; rw [List.getElem?_append_left hnl]; exact hn
  have e3 : (A38 A yv np)[A.length + 1]? = some (.row 1 false [self39 A.length np (A.length + 1)]) := by
    unfold A38; rw [List.getElem?_append_right (by omega)]; simp
  have hm := ev39 hy e1 e2 e3 hn17 size 0 0 (by omega) (by omega) hs17
  rw [Nat.sub_zero] at hm
  have hH : H39A h [.int .i64 0, .int .i64 (size : Int), .int .u64 0, .ptr A.length 0 0, .ptr np 0 0, .ptr (A.length + 1) 0 0] (A38 A yv np) = some (endOf D (A38 A yv np) B (combs size 0 0 (n + 1 - size))) := by
    unfold H39A
    simp only [Int.toNat_natCast]
    exact hm
  obtain ⟨L, hyv⟩ := hy.isY
  obtain ⟨r, hr⟩ : ∃ r, r = endOf D (A38 A yv np) B (combs size 0 0 (n + 1 - size)) := ⟨_, rfl⟩
  rw [← hr] at hH ⊢
  unfold A38 self39 at hH
  have l1 : fs38 = fs38 := rfl
  have hlk : lookM fs38 39 = some H39A := rfl
  unfold H38
  rw [evFun_run _ _ rfl]
  subst hyv
  have g1 : (A ++ [Ent.row 1 false [.func (.yield L) [] []], .row 1 false [.nilF]])[A.length + 1]? = some (.row 1 false [.nilF]) := by rw [List.getElem?_append_right (by omega)]; simp
  have g2 : (A ++ [Ent.row 1 false [.func (.yield L) [] []], .row 1 false [.nilF]]).set (A.length + 1) (.row 1 false [self39 A.length np (A.length + 1)]) = A ++ [.row 1 false [.func (.yield L) [] []], .row 1 false [self39 A.length np (A.length + 1)]] := by
    rw [List.set_append_right _ _ (by omega)]; simp
  have g3 : (A ++ [Ent.row 1 false [.func (.yield L) [] []], .row 1 false [self39 A.length np (A.length + 1)]])[sp]? = some (.row 1 false [.int .i64 (size : Int)]) := by rw [List.getElem?_append_left hsl]; exact hs
  have g4 : (A ++ [Ent.row 1 false [.func (.yield L) [] []], .row 1 false [self39 A.length np (A.length + 1)]])[A.length + 1]? = some (.row 1 false [self39 A.length np (A.length + 1)]) := by rw [List.getElem?_append_right (by omega)]; simp
  unfold self39 at g2 g3 g4
  simp [mf38, g1, g2, g3, g4, hlk, hH]
end Go.Proofs.YtkdjebioapholaaDoor
/-
  Inspect: Fewest: the list of a set.
-/
namespace Go.Proofs.YtkdjebioapholaaDoor
open Go

/-- the tests of a set -/
def setL (x : Nat) : List Int := bitsL (fun k => (k : Int)) x 17
theorem setL_zero : setL 0 = [] := bits_zero _ _
theorem setL_low (k q : Nat) (h : 2 ^ (k + 1) * q + 2 ^ k < 2 ^ 17) : setL (2 ^ (k + 1) * q + 2 ^ k) = (k : Int) :: setL (2 ^ (k + 1) * q) := bits_low _ 17 k q (tz_lt k q 17 h)

/-- a list that was made with room -/
def aM (A : Arena) (es : List AV) : Arena := match es with | [] => A ++ [.row 1 false []] | _ :: _ => A ++ [.row 1 true es]
theorem appendM {A : Arena} {es : List AV} (x : AV) (hs : (es.length + 1) * 8 ≤ 140737488355328) : evAppend 1 8 (aM A es) (.sl A.length 0 es.length) (.fs 1 [x]) = some (.sl A.length 0 (es ++ [x]).length, aM A (es ++ [x])) := by
  cases es with
  | nil => simp [aM, evAppend]
  | cons y r =>
    simp only [List.length_cons] at hs
    simp [aM, evAppend, hs]

noncomputable def fs15 : List (FuncId × HModel) := [(27, fun _ => M27), (28, H28), (38, H38), (29, fun _ => M29), (30, pureH 4 M30)]
@[simp] theorem fs15_27 : lookM fs15 27 = some (fun _ => M27) := rfl
@[simp] theorem fs15_28 : lookM fs15 28 = some (H28) := rfl
@[simp] theorem fs15_38 : lookM fs15 38 = some (H38) := rfl
@[simp] theorem fs15_29 : lookM fs15 29 = some (fun _ => M29) := rfl
@[simp] theorem fs15_30 : lookM fs15 30 = some (pureH 4 M30) := rfl
theorem sound15 : ∀ f M, lookM fs15 f = some M → FnSpecY Tryd.prog GI f M := lookM_cons spec27.y (lookM_cons spec28 (lookM_cons spec38 (lookM_cons spec29.y (lookM_cons (FnSpecY.of_pure spec30 4) lookM_nil))))

set_option maxRecDepth 100000 in
theorem loop15 (h0 : Handler) (fuel : Nat) (A : Arena) (v2 v3 : AV) : ∀ (x : Nat) (es : List AV), x < 2 ^ 17 → es.length + (setL x).length ≤ 1000 → ∀ m, (setL x).length < m → ∃ v,
    iter (evC (envY GI fs15 h0) fuel lp15x0) mask15x0 m (st15x0 v2 v3 (.int .u64 (x : Int)) (.sl A.length 0 es.length)) (aM A es) =
      some (.exit 4 ((st15x0 v2 v3 (.int .u64 0) (.sl A.length 0 (es ++ intsA (setL x)).length)).set 16 v) (aM A (es ++ intsA (setL x)))) := by
  intro x
  induction x using Nat.strongRecOn with
  | ind x ih =>
    intro es hx hle m hm
    obtain ⟨m, rfl⟩ : ∃ j, m = j + 1 := ⟨m - 1, by omega⟩
    by_cases h : x = 0
    · subst h
      refine ⟨.bool false, ?_⟩
      rw [iter_succ, cl15x0, setL_zero]
      simp [lp15x0, intsA]
    · obtain ⟨k, q, hkq⟩ := low_bit x h
      have hk : k < 17 := tz_lt k q 17 (hkq ▸ hx)
      have hp : 0 < 2 ^ k := Nat.two_pow_pos k
      have hlow : setL x = (k : Int) :: setL (2 ^ (k + 1) * q) := by rw [hkq]; exact setL_low k q (hkq ▸ hx)
      have htz : tz x = k := by rw [hkq]; exact tz_eq k q
      have hand : x &&& (x - 1) = 2 ^ (k + 1) * q := by rw [hkq]; exact and_pred k q
      obtain ⟨y, hy⟩ : ∃ y, y = 2 ^ (k + 1) * q := ⟨_, rfl⟩
      rw [← hy] at hlow hand
      have hyx : y < x := by omega
      rw [hlow] at hle hm ⊢
      simp only [List.length_cons] at hle hm
      have ap := appendM (A := A) (es := es) (.int .i64 (k : Int)) (by omega)
      obtain ⟨v, hih⟩ := ih y hyx (es ++ [.int .i64 (k : Int)]) (by omega) (by simp; omega) m (by omega)
      refine ⟨v, ?_⟩
      have e : es ++ [.int .i64 (k : Int)] ++ intsA (setL y) = es ++ intsA ((k : Int) :: setL y) := by simp [intsA]
      rw [e] at hih
      rw [iter_succ, cl15x0]
      have b1 : evBin .neq (.int .u64 (x : Int)) (.int .u64 0) = some (.bool true) := by simp [evBin]; omega
      have m1 := M30_eq x h (by omega)
      rw [htz] at m1
      have b2 : evBin .sub (.int .u64 (x : Int)) (.int .u64 1) = some (.int .u64 ((x - 1 : Nat) : Int)) := by
        simp only [evBin]; rw [if_pos trivial, wrapU64 (by omega)]; congr 2; omega
      have b3 : evBin .and (.int .u64 (x : Int)) (.int .u64 ((x - 1 : Nat) : Int)) = some (.int .u64 (y : Int)) := by
        simp only [evBin]; rw [if_pos trivial, and_nat _ _ (by omega) (by omega), hand]
      obtain ⟨x1, hx1⟩ : ∃ x1, x1 = x - 1 := ⟨_, rfl⟩
      rw [← hx1] at b2 b3
      obtain ⟨es', hes'⟩ : ∃ es', es' = es ++ [.int .i64 (k : Int)] := ⟨_, rfl⟩
      rw [← hes'] at ap hih
      have hrun : run (envY GI fs15 h0) fuel [.code lp15x0] (st15x0 v2 v3 (.int .u64 (x : Int)) (.sl A.length 0 es.length)) (aM A es) = some (.normal (st15x0 v2 v3 (.int .u64 (y : Int)) (.sl A.length 0 es'.length)) (aM A es')) := by
        simp [lp15x0, b1, b2, b3, m1, ap, -evBin]
      rw [hrun]
      exact hih
end Go.Proofs.YtkdjebioapholaaDoor
/-
  Inspect: Fewest: what is done with a choice.
-/
namespace Go.Proofs.YtkdjebioapholaaDoor
open Go

theorem setL_len (x : Nat) : (setL x).length ≤ 17 := bitsL_len _ _ _

/-- the arena behind a choice that decides -/
def found15 (X : Arena) (p2 p3 : Nat) (s : Nat) : Arena := ((aM X (intsA (setL s))).set p2 (.row 1 false [.sl X.length 0 (intsA (setL s)).length])).set p3 (.row 1 false [.bool true])

section
variable (h0 : Handler) (X : Arena) (p2 p3 p4 p6 : Nat) (mid s size : Nat) (e2 e3 : AV) (hs : s < 2 ^ 17) (hsz : size ≤ 17) (h4 : X[p4]? = some (.row 1 false [.map mid])) (h6 : X[p6]? = some (.row 1 false [.int .i64 (size : Int)])) (h2 : X[p2]? = some (.row 1 false [e2])) (h3 : X[p3]? = some (.row 1 false [e3])) (h23 : p2 ≠ p3)
  (v0 v1 v5 v8 v9 v10 v11 v12 v13 v14 v15 v16 : AV)
include h4 in
set_option maxRecDepth 100000 in
theorem body15_no (hd : M29 [.map mid, .int .u64 (s : Int)] X = some (.bool false, X)) :
    ∃ σ, run (envY GI fs15 h0) 40 [.code lp15x2] [v0, v1, .ptr p2 0 0, .ptr p3 0 0, .ptr p4 0 0, v5, .ptr p6 0 0, .int .u64 (s : Int), v8, v9, v10, v11, v12, v13, v14, v15, v16] X = some (.normal σ X) := by
  have hlk : lookM fs15 29 = some (fun _ => M29) := rfl
  simp [lp15x2, h4, hlk, hd]
include hs hsz h4 h6 h2 h3 h23 in
set_option maxRecDepth 100000 in
theorem body15_yes (hd : M29 [.map mid, .int .u64 (s : Int)] X = some (.bool true, X)) :
    ∃ σ, run (envY GI fs15 h0) 40 [.code lp15x2] [v0, v1, .ptr p2 0 0, .ptr p3 0 0, .ptr p4 0 0, v5, .ptr p6 0 0, .int .u64 (s : Int), v8, v9, v10, v11, v12, v13, v14, v15, v16] X = some (.ret σ (found15 X p2 p3 s)) := by
  have hlk : lookM fs15 29 = some (fun _ => M29) := rfl
  have hl := setL_len s
  obtain ⟨v, lp⟩ := loop15 h0 40 X (.ptr p2 0 0) (.ptr p3 0 0) s [] hs (by simp; omega) 40 (by omega)
  have e0 : aM X [] = X ++ [.row 1 false []] := rfl
  simp only [List.nil_append, e0, List.length_nil] at lp
  have l2 : p2 < X.length := (List.getElem?_eq_some_iff.1 h2).1
  have l3 : p3 < X.length := (List.getElem?_eq_some_iff.1 h3).1
  obtain ⟨Z, hZ⟩ : ∃ Z, Z = aM X (intsA (setL s)) := ⟨_, rfl⟩
  have hold : ∀ id, id < X.length → Z[id]? = X[id]? := fun id hid => by
    rw [hZ]
    cases intsA (setL s) <;> simp only [aM] <;> rw [List.getElem?_append_left hid]
  have z2 := (hold p2 l2).trans h2
  have z3 := (hold p3 l3).trans h3
  have mk : evMake 1 8 (.int .i64 0) X (.int .i64 0) (.int .i64 (size : Int)) = some (.sl X.length 0 0, X ++ [.row 1 false []]) := by
    simp [evMake]; omega
  unfold found15
  rw [← hZ] at lp ⊢
  simp [lp15x2, h4, h6, hlk, hd, mk, go15x0 lp, z2, z3, h23, -evMake]
end
end Go.Proofs.YtkdjebioapholaaDoor
/-
  Inspect: Fewest: the yield.
-/
namespace Go.Proofs.YtkdjebioapholaaDoor
open Go

theorem set_back {A : Arena} {n : Nat} {e : Ent} (h : A[n]? = some e) (x : Ent) : (A.set n x).set n e = A := by
  rw [List.set_set]
  apply List.ext_getElem?
  intro i
  by_cases hi : n = i
  · subst hi; rw [List.getElem?_set_self (List.getElem?_eq_some_iff.1 h).1, h]
  · rw [List.getElem?_set_ne hi]

set_option maxRecDepth 100000 in
theorem yl15 (h0 : Handler) (L n0 : Nat) (r : Loop) (A : Arena) (p2 p3 p4 p6 mid size : Nat) (e2 e3 : AV) (kvs : List (AV × AV)) (D : Nat → Bool) (hsz : size ≤ 17) (hn0 : A[n0]? = some (.loop r 0)) (hm : A[mid]? = some (.map kvs)) (h4 : A[p4]? = some (.row 1 false [.map mid])) (h6 : A[p6]? = some (.row 1 false [.int .i64 (size : Int)])) (h2 : A[p2]? = some (.row 1 false [e2])) (h3 : A[p3]? = some (.row 1 false [e3])) (h23 : p2 ≠ p3)
    (hD : ∀ s : Nat, s < 2 ^ 17 → ∀ X : Arena, X[mid]? = some (.map kvs) → M29 [.map mid, .int .u64 (s : Int)] X = some (.bool (D s), X)) (v0 v1 v5 v7 v8 v9 v10 v11 v12 v13 v14 v15 v16 : AV) :
    Yl (yieldH n0 L r [v0, v1, .ptr p2 0 0, .ptr p3 0 0, .ptr p4 0 0, v5, .ptr p6 0 0, v7, v8, v9, v10, v11, v12, v13, v14, v15, v16] [14] (evC (envY GI fs15 h0) 40 lp15x1) (evC (envY GI fs15 h0) 40 lp15x2) h0) (.func (.yield L) [] []) D A (fun s => (found15 (A.set n0 .dead) p2 p3 s).set n0 (.loop r 1)) := by
  have ne : ∀ {p : Nat} {e : Ent}, A[p]? = some e → (∀ k, e ≠ .loop r k) → (A.set n0 .dead)[p]? = some e := fun {p} {e} hp he => by
    rw [List.getElem?_set_ne]; exact hp
    rintro rfl
    rw [hn0] at hp
    injection hp with hp
    exact he 0 hp.symm
  have g4 := ne h4 (by simp)
  have g6 := ne h6 (by simp)
  have g2 := ne h2 (by simp)
  have g3 := ne h3 (by simp)
  have gm := ne hm (by simp)
  refine ⟨⟨L, rfl⟩, fun s hs hd => ?_, fun s hs hd => ?_⟩
  · have h := hD s hs _ gm
    rw [hd] at h
    obtain ⟨σ, hb⟩ := body15_no h0 (A.set n0 .dead) p2 p3 p4 p6 mid s g4 v0 v1 v5 v8 v9 v10 v11 v12 v13 (.int .u64 (s : Int)) v15 v16 h
    unfold yieldH
    simp [hn0, setAll, evC_run, lp15x1, hb, set_back hn0]
  · have h := hD s hs _ gm
    rw [hd] at h
    obtain ⟨σ, hb⟩ := body15_yes h0 (A.set n0 .dead) p2 p3 p4 p6 mid s size e2 e3 hs hsz g4 g6 g2 g3 h23 v0 v1 v5 v8 v9 v10 v11 v12 v13 (.int .u64 (s : Int)) v15 v16 h
    unfold yieldH
    simp [hn0, setAll, evC_run, lp15x1, hb]
end Go.Proofs.YtkdjebioapholaaDoor
/-
  Inspect: Fewest: a size.
-/
namespace Go.Proofs.YtkdjebioapholaaDoor
open Go

theorem aM_set (Y : Arena) (es : List AV) (i : Nat) (e : Ent) (hi : i < Y.length) : (aM Y es).set i e = aM (Y.set i e) es := by
  cases es <;> simp only [aM] <;> rw [List.set_append_left _ _ hi]
theorem found_set (Y : Arena) (p2 p3 s i : Nat) (e : Ent) (hi : i < Y.length) (h2 : i ≠ p2) (h3 : i ≠ p3) : (found15 Y p2 p3 s).set i e = found15 (Y.set i e) p2 p3 s := by
  unfold found15
  rw [List.set_comm _ _ (Ne.symm h3), List.set_comm _ _ (Ne.symm h2), aM_set Y _ i e hi]
  simp

/-- a row of one integer -/
abbrev rI (z : Nat) : Ent := .row 1 false [.int .i64 (z : Int)]
def X3 (X : Arena) (k n : Nat) : Arena := X ++ [rI k, rI n, rI k]
/-- what a size leaves -/
def X6 (X : Arena) (k n : Nat) : Arena := X ++ [rI k, rI n, rI k, .dead, .dead, .row 1 false [self39 (X.length + 4) (X.length + 1) (X.length + 5)]]

def end15 (D : Nat → Bool) (X : Arena) (k n p2 p3 : Nat) (σ : List AV) : Out := match (combs k 0 0 (n + 1 - k)).find? D with
  | none => .normal σ (X6 X k n)
  | some s => .ret σ (found15 (X6 X k n) p2 p3 s)

set_option maxRecDepth 100000 in
theorem range15 (X : Arena) (k n p2 p3 p4 mid : Nat) (e2 e3 : AV) (kvs : List (AV × AV)) (D : Nat → Bool) (hk : k ≤ 17) (hn : n ≤ 17) (hm : X[mid]? = some (.map kvs)) (h4 : X[p4]? = some (.row 1 false [.map mid])) (h2 : X[p2]? = some (.row 1 false [e2])) (h3 : X[p3]? = some (.row 1 false [e3])) (h23 : p2 ≠ p3)
    (hD : ∀ s : Nat, s < 2 ^ 17 → ∀ X : Arena, X[mid]? = some (.map kvs) → M29 [.map mid, .int .u64 (s : Int)] X = some (.bool (D s), X)) (v0 v1 v5 v7 v8 v9 v10 v11 v12 v14 v15 v16 : AV) (K : List KC) :
    run (envOf GI fs15) 40 (.code (.rangeFunc (.var 13) [14] lp15x1 lp15x2) :: K) [v0, v1, .ptr p2 0 0, .ptr p3 0 0, .ptr p4 0 0, v5, .ptr X.length 0 0, v7, v8, v9, v10, v11, v12, .func (.func 38) [] [.ptr (X.length + 1) 0 0, .ptr (X.length + 2) 0 0], v14, v15, v16] (X3 X k n) =
      after (envOf GI fs15) 40 K (end15 D X k n p2 p3 [v0, v1, .ptr p2 0 0, .ptr p3 0 0, .ptr p4 0 0, v5, .ptr X.length 0 0, v7, v8, v9, v10, v11, v12, .func (.func 38) [] [.ptr (X.length + 1) 0 0, .ptr (X.length + 2) 0 0], v14, v15, v16]) := by
  refine run_rangeFunc _ _ _ _ _ fun L r => ?_
  have hl3 : (X3 X k n).length = X.length + 3 := by simp [X3]
  have hmem : ∀ {p : Nat} {e : Ent}, X[p]? = some e → p < X.length := fun h => (List.getElem?_eq_some_iff.1 h).1
  have old : ∀ {p : Nat} {e : Ent} (T : Arena), X[p]? = some e → (X ++ T)[p]? = some e := fun {p} {e} T h => by rw [List.getElem?_append_left (hmem h)]; exact h
  obtain ⟨A, hA⟩ : ∃ A, A = X3 X k n ++ [Ent.loop r 0] := ⟨_, rfl⟩
  have hA' : A = X ++ [rI k, rI n, rI k, .loop r 0] := by rw [hA]; simp [X3]
  have hAl : A.length = X.length + 4 := by rw [hA']; simp
  have nth : ∀ (T : Arena) (i : Nat) (e : Ent), T[i]? = some e → (X ++ T)[X.length + i]? = some e := fun T i e h => by
    rw [List.getElem?_append_right (by omega), Nat.add_sub_cancel_left]; exact h
  have hy := yl15 (fun _ _ _ => none) L (X.length + 3) r (A38 A (.func (.yield L) [] []) (X.length + 1)) p2 p3 p4 X.length mid k e2 e3 kvs D hk
    (by unfold A38; rw [hA', List.append_assoc]; exact nth _ 3 _ rfl) (by unfold A38; rw [hA', List.append_assoc]; exact old _ hm) (by unfold A38; rw [hA', List.append_assoc]; exact old _ h4) (by unfold A38; rw [hA', List.append_assoc]; exact nth _ 0 _ rfl) (by unfold A38; rw [hA', List.append_assoc]; exact old _ h2) (by unfold A38; rw [hA', List.append_assoc]; exact old _ h3) h23 hD
    v0 v1 v5 v7 v8 v9 v10 v11 v12 (.func (.func 38) [] [.ptr (X.length + 1) 0 0, .ptr (X.length + 2) 0 0]) v14 v15 v16
  have hc := ev38 (np := X.length + 1) (sp := X.length + 2) (n := n) (size := k) hy (by rw [hA']; exact nth _ 1 _ rfl) (by rw [hA']; exact nth _ 2 _ rfl) hn hk
  have hset : ∀ (T : Arena) (i : Nat) (e : Ent), (X ++ T).set (X.length + i) e = X ++ T.set i e := fun T i e => by
    rw [List.set_append_right _ _ (by omega), Nat.add_sub_cancel_left]
  have h38 : A38 A (.func (.yield L) [] []) (X.length + 1) = X ++ [rI k, rI n, rI k, .loop r 0, .row 1 false [.func (.yield L) [] []], .row 1 false [self39 (X.length + 4) (X.length + 1) (X.length + 5)]] := by
    unfold A38; rw [hAl, hA', List.append_assoc]; rfl
  have hcall : callM fs15 (yieldH (X.length + 3) L r [v0, v1, .ptr p2 0 0, .ptr p3 0 0, .ptr p4 0 0, v5, .ptr X.length 0 0, v7, v8, v9, v10, v11, v12, .func (.func 38) [] [.ptr (X.length + 1) 0 0, .ptr (X.length + 2) 0 0], v14, v15, v16] [14] (evC (envY GI fs15 fun _ _ _ => none) 40 lp15x1) (evC (envY GI fs15 fun _ _ _ => none) 40 lp15x2) fun _ _ _ => none)
      (.func (.func 38) [] [.ptr (X.length + 1) 0 0, .ptr (X.length + 2) 0 0]) [.func (.yield L) [] []] A = _ := hc
  rw [← hA, hl3]
  show (match callM fs15 _ (.func (.func 38) [] [.ptr (X.length + 1) 0 0, .ptr (X.length + 2) 0 0]) [.func (.yield L) [] []] A with
    | some (_, A') => afterR (X.length + 3) _ A'
    | none => none) = _
  erw [hcall]
  simp only [endOf, end15, hAl]
  cases (combs k 0 0 (n + 1 - k)).find? D with
  | none =>
    simp only [h38, hset]
    have e1 := nth [rI k, rI n, rI k, .loop r 0, .dead, .row 1 false [self39 (X.length + 4) (X.length + 1) (X.length + 5)]] 3 _ rfl
    simp only [List.set_cons_succ, List.set_cons_zero]
    simp only [afterR, e1, if_true, hset]
    rfl
  | some s =>
    have hd : ∀ (Y : Arena) (e e' : Ent) (hY : Y.length = X.length + 6), ((found15 Y p2 p3 s).set (X.length + 3) e).set (X.length + 4) e' = found15 ((Y.set (X.length + 3) e).set (X.length + 4) e') p2 p3 s := fun Y e e' hY => by
      have := hmem h2
      have := hmem h3
      rw [found_set Y _ _ _ _ _ (by omega) (by omega) (by omega), found_set _ _ _ _ _ _ (by simp; omega) (by omega) (by omega)]
    have hd1 : ∀ (Y : Arena) (e : Ent) (hY : Y.length = X.length + 6), (found15 Y p2 p3 s).set (X.length + 3) e = found15 (Y.set (X.length + 3) e) p2 p3 s := fun Y e hY => by
      have := hmem h2
      have := hmem h3
      rw [found_set Y _ _ _ _ _ (by omega) (by omega) (by omega)]
    simp only [h38]
    rw [hd _ _ _ (by simp)]
    simp only [hset, List.set_cons_succ, List.set_cons_zero]
    have e1 : (found15 (X ++ [rI k, rI n, rI k, .loop r 1, .dead, .row 1 false [self39 (X.length + 4) (X.length + 1) (X.length + 5)]]) p2 p3 s)[X.length + 3]? = some (.loop r 1) := by
      have := hmem h2
      have := hmem h3
      unfold found15
      rw [List.getElem?_set_ne (by omega), List.getElem?_set_ne (by omega)]
      have e2 := nth [rI k, rI n, rI k, .loop r 1, .dead, .row 1 false [self39 (X.length + 4) (X.length + 1) (X.length + 5)]] 3 _ rfl
      cases intsA (setL s) <;> simp only [aM] <;> rw [List.getElem?_append_left (by simp)] <;> exact e2
    simp only [afterR, e1]
    rw [hd1 _ _ (by simp), hset]
    rfl
end Go.Proofs.YtkdjebioapholaaDoor
/-
  Inspect: Fewest, run.
-/
namespace Go.Proofs.YtkdjebioapholaaDoor
open Go

/-- what stays over the sizes -/
structure Base (X : Arena) (p2 p3 p4 mid : Nat) (e2 e3 : AV) (kvs : List (AV × AV)) : Prop where
  hm : X[mid]? = some (.map kvs)
  h4 : X[p4]? = some (.row 1 false [.map mid])
  h2 : X[p2]? = some (.row 1 false [e2])
  h3 : X[p3]? = some (.row 1 false [e3])
  h23 : p2 ≠ p3
theorem Base.app {X : Arena} {p2 p3 p4 mid : Nat} {e2 e3 : AV} {kvs : List (AV × AV)} (h : Base X p2 p3 p4 mid e2 e3 kvs) (T : Arena) : Base (X ++ T) p2 p3 p4 mid e2 e3 kvs := by
  have old : ∀ {p : Nat} {e : Ent}, X[p]? = some e → (X ++ T)[p]? = some e := fun {p} {e} h => by rw [List.getElem?_append_left (List.getElem?_eq_some_iff.1 h).1]; exact h
  exact ⟨old h.hm, old h.h4, old h.h2, old h.h3, h.h23⟩

set_option maxRecDepth 100000 in
theorem round15 {X : Arena} {p2 p3 p4 mid : Nat} {e2 e3 : AV} {kvs : List (AV × AV)} (hb : Base X p2 p3 p4 mid e2 e3 kvs) (D : Nat → Bool) (k n : Nat) (hk : k ≤ n) (hn : n ≤ 17) {l : AV} (hl : evLenSl l = some (.int .i64 (n : Int)))
    (hD : ∀ s : Nat, s < 2 ^ 17 → ∀ X : Arena, X[mid]? = some (.map kvs) → M29 [.map mid, .int .u64 (s : Int)] X = some (.bool (D s), X)) :
    (((combs k 0 0 (n + 1 - k)).find? D = none ∧ run (envOf GI fs15) 40 [.code lp15x3] (st15x3 l (.ptr p2 0 0) (.ptr p3 0 0) (.ptr p4 0 0) (.int .i64 ((n + 1 : Nat) : Int)) (.int .i64 (k : Int))) X = some (.normal (st15x3 l (.ptr p2 0 0) (.ptr p3 0 0) (.ptr p4 0 0) (.int .i64 ((n + 1 : Nat) : Int)) (.int .i64 ((k + 1 : Nat) : Int))) (X6 X k n))) ∨
    ∃ s σ, (combs k 0 0 (n + 1 - k)).find? D = some s ∧ σ[2]? = some (.ptr p2 0 0) ∧ σ[3]? = some (.ptr p3 0 0) ∧ run (envOf GI fs15) 40 [.code lp15x3] (st15x3 l (.ptr p2 0 0) (.ptr p3 0 0) (.ptr p4 0 0) (.int .i64 ((n + 1 : Nat) : Int)) (.int .i64 (k : Int))) X = some (.ret σ (found15 (X6 X k n) p2 p3 s))) := by
  have b1 : evBin .lss (.int .i64 (k : Int)) (.int .i64 ((n + 1 : Nat) : Int)) = some (.bool true) := by simp only [evBin]; rw [if_pos trivial, decide_eq_true (by omega)]
  have b2 := add1_nat k (by omega)
  have h28 : ∀ h, H28 h [.int .i64 (n : Int), .int .i64 (k : Int)] (X ++ [rI k]) = some (.func (.func 38) [] [.ptr (X.length + 1) 0 0, .ptr (X.length + 2) 0 0], X3 X k n) := fun h => by
    rw [ev28]
    simp [X3]
  have hlk : lookM fs15 28 = some H28 := rfl
  have hr := fun v0 v1 v5 v7 v8 v9 v10 v11 v12 v14 v15 v16 K => range15 X k n p2 p3 p4 mid e2 e3 kvs D (by omega) hn hb.hm hb.h4 hb.h2 hb.h3 hb.h23 hD v0 v1 v5 v7 v8 v9 v10 v11 v12 v14 v15 v16 K
  have hset : (X ++ [Ent.row 1 false [.int .i64 0]]).set X.length (rI k) = X ++ [rI k] := by
    rw [List.set_append_right _ _ (Nat.le_refl _)]; simp
  obtain ⟨n1, hn1⟩ : ∃ n1, n1 = n + 1 := ⟨_, rfl⟩
  obtain ⟨k1, hk1⟩ : ∃ k1, k1 = k + 1 := ⟨_, rfl⟩
  rw [← hn1] at b1 ⊢
  rw [← hk1] at b2 ⊢
  cases hfd : (combs k 0 0 (n1 - k)).find? D with
  | none =>
    rw [hn1] at hfd
    refine .inl ⟨rfl, ?_⟩
    simp only [end15, hfd, after_normal] at hr
    simp [lp15x3, hl, b1, b2, h28, hlk, hset, hr, -evBin, -evLenSl]
  | some s =>
    rw [hn1] at hfd
    simp only [end15, hfd, after_ret] at hr
    refine .inr ⟨s, ?_⟩
    simp [lp15x3, hl, b1, b2, h28, hlk, hset, hr, -evBin, -evLenSl]
end Go.Proofs.YtkdjebioapholaaDoor
/-
  Inspect: Fewest, whole.
-/
namespace Go.Proofs.YtkdjebioapholaaDoor
open Go

open Classical in
/-- whether a set of tests decides all open wafers -/
noncomputable def decS (open_ : List Int) (ts : List (List Int)) (s : Nat) : Bool := decide (∀ w ∈ open_, maskTo ts w ts.length &&& s ≠ 0)
theorem decided_at (open_ : List Int) (ts : List (List Int)) (h17 : ts.length ≤ 17) {mid : Nat} (s : Nat) (hs : s < 2 ^ 17) (X : Arena) (hX : X[mid]? = some (.map (kvsT open_ ts))) : M29 [.map mid, .int .u64 (s : Int)] X = some (.bool (decS open_ ts s), X) := by
  have hall : (kvsT open_ ts).all (fun x => (u64Of x.2).isSome) = true := by
    simp [kvsT, kvsOf, u64Of, List.all_eq_true]
  have hm : ∀ w, maskTo ts w ts.length < 2 ^ 17 := fun w => Nat.lt_of_lt_of_le (maskTo_lt ts w _) (Nat.pow_le_pow_right (by omega) h17)
  simp only [M29, hX, hall, if_true, decS]
  congr 2
  congr 1
  rw [Bool.eq_iff_iff]
  simp only [kvsT, kvsOf, List.all_eq_true, List.mem_map, forall_exists_index, and_imp, forall_apply_eq_imp_iff₂, u64Of, Option.getD_some, Bool.not_eq_true', decide_eq_false_iff_not, decide_eq_true_eq]
  constructor
  · intro h w hw
    have hmw := hm w
    have h1 : ¬ andI .u64 (maskTo ts w ts.length : Int) (s : Int) = 0 := of_decide_eq_false (h w hw)
    rw [and_nat _ _ (by omega) (by omega)] at h1
    omega
  · intro h w hw
    have h1 := h w hw
    have hmw := hm w
    refine decide_eq_false (show ¬ andI .u64 (maskTo ts w ts.length : Int) (s : Int) = 0 from ?_)
    rw [and_nat _ _ (by omega) (by omega)]
    omega

/-- the choices of k tests and of more, c sizes of them -/
def chFrom (n : Nat) : Nat → Nat → List Nat
  | _, 0 => []
  | k, c + 1 => combs k 0 0 (n + 1 - k) ++ chFrom n (k + 1) c
/-- all choices -/
def allCh (n : Nat) : List Nat := chFrom n 0 (n + 1)
noncomputable def fewestS (open_ : List Int) (ts : List (List Int)) : Option Nat := (allCh ts.length).find? (decS open_ ts)

theorem loop15s {p2 p3 p4 mid : Nat} {e2 e3 : AV} {kvs : List (AV × AV)} (D : Nat → Bool) (n : Nat) (hn : n ≤ 17) {l : AV} (hl : evLenSl l = some (.int .i64 (n : Int)))
    (hD : ∀ s : Nat, s < 2 ^ 17 → ∀ X : Arena, X[mid]? = some (.map kvs) → M29 [.map mid, .int .u64 (s : Int)] X = some (.bool (D s), X)) : ∀ (c k m : Nat) (X : Arena), c + k = n + 1 → c < m → Base X p2 p3 p4 mid e2 e3 kvs →
    ((chFrom n k c).find? D = none ∧ ∃ X', Base X' p2 p3 p4 mid e2 e3 kvs ∧ iter (evC (envOf GI fs15) 40 lp15x3) mask15x3 m (st15x3 l (.ptr p2 0 0) (.ptr p3 0 0) (.ptr p4 0 0) (.int .i64 ((n + 1 : Nat) : Int)) (.int .i64 (k : Int))) X = some (.exit 0 ((st15x3 l (.ptr p2 0 0) (.ptr p3 0 0) (.ptr p4 0 0) (.int .i64 ((n + 1 : Nat) : Int)) (.int .i64 ((n + 1 : Nat) : Int))).set 12 (.bool false)) X')) ∨
    ∃ s σ X', (chFrom n k c).find? D = some s ∧ Base X' p2 p3 p4 mid e2 e3 kvs ∧ σ[2]? = some (.ptr p2 0 0) ∧ σ[3]? = some (.ptr p3 0 0) ∧ iter (evC (envOf GI fs15) 40 lp15x3) mask15x3 m (st15x3 l (.ptr p2 0 0) (.ptr p3 0 0) (.ptr p4 0 0) (.int .i64 ((n + 1 : Nat) : Int)) (.int .i64 (k : Int))) X = some (.ret σ (found15 X' p2 p3 s)) := by
  intro c
  induction c with
  | zero =>
    intro k m X hk hm hb
    obtain ⟨m, rfl⟩ : ∃ j, m = j + 1 := ⟨m - 1, by omega⟩
    obtain rfl : k = n + 1 := by omega
    refine .inl ⟨rfl, X, hb, ?_⟩
    have b1 : evBin .lss (.int .i64 ((n + 1 : Nat) : Int)) (.int .i64 ((n + 1 : Nat) : Int)) = some (.bool false) := by simp only [evBin]; rw [if_pos trivial, decide_eq_false (by omega)]
    obtain ⟨n1, hn1⟩ : ∃ n1, n1 = n + 1 := ⟨_, rfl⟩
    rw [← hn1] at b1 ⊢
    rw [iter_succ, cl15x3]
    simp [lp15x3, b1, -evBin]
  | succ c ih =>
    intro k m X hk hm hb
    obtain ⟨m, rfl⟩ : ∃ j, m = j + 1 := ⟨m - 1, by omega⟩
    have hb' : Base (X6 X k n) p2 p3 p4 mid e2 e3 kvs := hb.app _
    rw [iter_succ, cl15x3]
    rcases round15 hb D k n (by omega) hn hl hD with ⟨hf, hr⟩ | ⟨s, σ, hf, h2, h3, hr⟩
    · rw [hr]
      have e : (chFrom n k (c + 1)).find? D = (chFrom n (k + 1) c).find? D := by
        simp only [chFrom]; rw [List.find?_append, hf]; rfl
      rw [e]
      exact ih (k + 1) m _ (by omega) (by omega) hb'
    · rw [hr]
      have e : (chFrom n k (c + 1)).find? D = some s := by
        simp only [chFrom]; rw [List.find?_append, hf]; rfl
      exact .inr ⟨s, σ, _, e, hb', h2, h3, rfl⟩

theorem frz_found (X : Arena) (p2 p3 : Nat) (s : Nat) (n : Nat) (h2 : p2 < X.length) (h3 : p3 < X.length) : frz (found15 X p2 p3 s) (n + 1) (.sl X.length 0 (intsA (setL s)).length) = .fs 1 (intsA (setL s)) := by
  have e : ∃ b, (found15 X p2 p3 s)[X.length]? = some (.row 1 b (intsA (setL s))) := by
    unfold found15
    rw [List.getElem?_set_ne (by omega), List.getElem?_set_ne (by omega)]
    cases intsA (setL s) with
    | nil => exact ⟨false, by simp [aM]⟩
    | cons x r => exact ⟨true, by simp [aM]⟩
  obtain ⟨b, e⟩ := e
  have hid : ∀ A, (intsA (setL s)).map (frz A n) = intsA (setL s) := fun A => by
    unfold intsA; rw [List.map_map]; apply List.map_congr_left; intro x _; cases n <;> rfl
  simp [frz, e, hid]

theorem fresh_found (X : Arena) (p2 p3 : Nat) (s : Nat) (n : Nat) (h2 : p2 < X.length) (h3 : p3 < X.length) : freshB (found15 X p2 p3 s) (n + 1) (.sl X.length 0 (intsA (setL s)).length) = true := by
  have e : ∃ b, (found15 X p2 p3 s)[X.length]? = some (.row 1 b (intsA (setL s))) := by
    unfold found15
    rw [List.getElem?_set_ne (by omega), List.getElem?_set_ne (by omega)]
    cases intsA (setL s) with
    | nil => exact ⟨false, by simp [aM]⟩
    | cons x r => exact ⟨true, by simp [aM]⟩
  obtain ⟨b, e⟩ := e
  simp only [freshB, e]
  simp only [List.drop_zero, List.take_length]
  unfold intsA
  rw [List.all_eq_true]
  intro x hx
  obtain ⟨z, _, rfl⟩ := List.mem_map.1 hx
  cases n <;> rfl
theorem found_at (X : Arena) (s : Nat) (h3 : 1 < X.length) : (found15 X 0 1 s)[0]? = some (.row 1 false [.sl X.length 0 (intsA (setL s)).length]) ∧ (found15 X 0 1 s)[1]? = some (.row 1 false [.bool true]) := by
  have hl : 1 < (aM X (intsA (setL s))).length := by cases intsA (setL s) <;> simp [aM] <;> omega
  unfold found15
  constructor
  · rw [List.getElem?_set_ne (by omega), List.getElem?_set_self (by omega)]
  · rw [List.getElem?_set_self (by simpa using hl)]
theorem set_same {A : Arena} {n : Nat} {e : Ent} (h : A[n]? = some e) : A.set n e = A := by
  have := set_back h e
  rw [List.set_set] at this
  exact this

open Classical in
set_option maxRecDepth 100000 in
theorem ev15 {a l : AV} {open_ : List Int} {ts : List (List Int)} (ha : intsOf a = some open_) (hl : testsOf l = some ts) :
    evF (envOf GI fs15) 40 mf15 2 [a, l] = some (if Good open_ ∧ GoodT ts then (match fewestS open_ ts with
      | some s => .tup [.fs 1 (intsA (setL s)), .bool true]
      | none => .tup [.nilS, .bool false]) else .tup [.nilS, .bool false]) := by
  have hll := (testsOf_len hl).1
  have f1 := intsOf_frz ha
  have f2 := testsOf_frz hl
  rw [evF_run _ _ rfl]
  by_cases hg : Good open_ ∧ GoodT ts
  · rw [if_pos hg]
    have h17 : ts.length ≤ 17 := by have := hg.2.1; omega
    obtain ⟨R, m1⟩ := M27_good ha hl hg.1 hg.2 [.row 1 false [.nilS], .row 1 false [.bool false]]
    simp only [List.length_cons, List.length_nil, List.cons_append, List.nil_append] at m1
    have hb : Base (.row 1 false [.nilS] :: .row 1 false [.bool false] :: .map (kvsT open_ ts) :: (R ++ [.row 1 false [.map 2]])) 0 1 (R.length + 3) 2 .nilS (.bool false) (kvsT open_ ts) := by
      refine ⟨rfl, ?_, rfl, rfl, by omega⟩
      simp
    have lp := loop15s (decS open_ ts) ts.length h17 hll (fun s hs X hX => decided_at open_ ts h17 s hs X hX) (ts.length + 1) 0 40 _ (by omega) (by omega) hb
    have e1 : (chFrom ts.length 0 (ts.length + 1)).find? (decS open_ ts) = fewestS open_ ts := rfl
    rw [e1] at lp
    have b1 := add1_nat ts.length (by omega)
    obtain ⟨n1, hn1⟩ : ∃ n1, n1 = ts.length + 1 := ⟨_, rfl⟩
    rw [← hn1] at b1 lp
    rcases lp with ⟨hf, X', hb', lp⟩ | ⟨s, σ, X', hf, hb', h2, h3, lp⟩
    · rw [hf]
      have lp : iter (evC (envOf GI fs15) 40 lp15x3) mask15x3 40 (st15x3 l (.ptr 0 0 0) (.ptr 1 0 0) (.ptr (R.length + 3) 0 0) (.int .i64 (n1 : Int)) (.int .i64 0)) _ = _ := lp
      have g2 := hb'.h2
      have g3 := hb'.h3
      have s2 := set_same g2
      have s3 := set_same g3
      simp [mf15, m1, hll, b1, go15x3 lp, g2, g3, s2, s3, frz, freshB, -evBin, -evLenSl]
    · rw [hf]
      have lp : iter (evC (envOf GI fs15) 40 lp15x3) mask15x3 40 (st15x3 l (.ptr 0 0 0) (.ptr 1 0 0) (.ptr (R.length + 3) 0 0) (.int .i64 (n1 : Int)) (.int .i64 0)) _ = _ := lp
      have l2 : 0 < X'.length := (List.getElem?_eq_some_iff.1 hb'.h2).1
      have l3 : 1 < X'.length := (List.getElem?_eq_some_iff.1 hb'.h3).1
      have hfz := frz_found X' 0 1 s 0 l2 l3
      obtain ⟨g2, g3⟩ := found_at X' s l3
      obtain ⟨Z, hZ⟩ : ∃ Z, Z = found15 X' 0 1 s := ⟨_, rfl⟩
      rw [← hZ] at lp g2 g3 hfz
      obtain ⟨ln, hln⟩ : ∃ ln, ln = (intsA (setL s)).length := ⟨_, rfl⟩
      rw [← hln] at g2 hfz
      have hfr := fresh_found X' 0 1 s 0 l2 l3
      rw [← hZ, ← hln] at hfr
      simp only [freshB, frz] at hfr hfz
      simp [mf15, m1, hll, b1, go15x3 lp, h2, h3, g2, g3, frz, freshB, -evBin, -evLenSl]
      exact ⟨by simpa using hfr, by simpa [List.map_take] using hfz⟩
  · rw [if_neg hg]
    have m1 := M27_bad ha hl hg [.row 1 false [.nilS], .row 1 false [.bool false]]
    simp [mf15, m1, hll, frz, freshB, -evLenSl]
end Go.Proofs.YtkdjebioapholaaDoor
/-
  Inspect: all choices, in their order, as lists.
-/
namespace Go.Proofs.YtkdjebioapholaaDoor
open Go

/-! ### the lists of sets -/
theorem bit_or (x i k : Nat) : ((x ||| 2 ^ i) / 2 ^ k % 2 = 1) ↔ (x / 2 ^ k % 2 = 1 ∨ i = k) := by
  have h1 : ∀ y : Nat, (y / 2 ^ k % 2 = 1) ↔ y.testBit k = true := fun y => by rw [Nat.testBit_eq_decide_div_mod_eq, decide_eq_true_eq]
  rw [h1, h1, Nat.testBit_or, Nat.testBit_two_pow, Bool.or_eq_true, decide_eq_true_eq]
theorem bit_high {x k : Nat} (h : x < 2 ^ k) : ¬ x / 2 ^ k % 2 = 1 := by
  rw [Nat.div_eq_of_lt h]; omega
theorem bitsL_congr {f : Nat → Int} {x y : Nat} : ∀ n, (∀ k, k < n → (x / 2 ^ k % 2 = 1 ↔ y / 2 ^ k % 2 = 1)) → bitsL f x n = bitsL f y n
  | 0, _ => rfl
  | n + 1, h => by
    have ih := bitsL_congr (f := f) n (fun k hk => h k (by omega))
    by_cases hx : x / 2 ^ n % 2 = 1
    · rw [bitsL_t hx, bitsL_t ((h n (by omega)).1 hx), ih]
    · rw [bitsL_f hx, bitsL_f (fun hy => hx ((h n (by omega)).2 hy)), ih]
theorem bitsL_stop {f : Nat → Int} {x i : Nat} (h : x < 2 ^ i) : ∀ k, bitsL f x (i + k) = bitsL f x i
  | 0 => rfl
  | k + 1 => by
    have h2 : 2 ^ i ≤ 2 ^ (i + k) := Nat.pow_le_pow_right (by omega) (by omega)
    rw [← Nat.add_assoc, bitsL_f (bit_high (by omega)), bitsL_stop h k]
theorem setL_or {x i : Nat} (h : x < 2 ^ i) (hi : i < 17) : setL (x ||| 2 ^ i) = setL x ++ [(i : Int)] := by
  have hp : 2 ^ i < 2 ^ (i + 1) := Nat.pow_lt_pow_right (by omega) (by omega)
  have h1 : x ||| 2 ^ i < 2 ^ (i + 1) := Nat.or_lt_two_pow (by omega) hp
  have e1 := bitsL_stop (f := fun k => (k : Int)) h1 (17 - (i + 1))
  have e2 := bitsL_stop (f := fun k => (k : Int)) h (17 - i)
  rw [show i + 1 + (17 - (i + 1)) = 17 by omega] at e1
  rw [show i + (17 - i) = 17 by omega] at e2
  unfold setL
  rw [e1, e2, bitsL_t ((bit_or x i i).2 (.inr rfl))]
  congr 1
  refine bitsL_congr i fun k hk => ?_
  rw [bit_or]
  constructor
  · rintro (h | h)
    · exact h
    · omega
  · exact .inl

def combsL : Nat → Nat → Nat → List (List Int)
  | 0, _, _ => [[]]
  | _ + 1, _, 0 => []
  | l + 1, i, c + 1 => (combsL l (i + 1) (c + 1)).map ((i : Int) :: ·) ++ combsL (l + 1) (i + 1) c
termination_by l _ c => (l, c)

theorem combs_setL : ∀ (l c i set : Nat), set < 2 ^ i → i + l + c ≤ 18 → (combs l set i c).map setL = (combsL l i c).map (setL set ++ ·) := by
  intro l
  induction l with
  | zero => intro c i set _ _; simp [combs, combsL]
  | succ l ihl =>
    intro c
    induction c with
    | zero => intro i set _ _; simp [combs, combsL]
    | succ c ihc =>
      intro i set hs hi
      have hp : 2 ^ i < 2 ^ (i + 1) := Nat.pow_lt_pow_right (by omega) (by omega)
      rw [combs, combsL, List.map_append, List.map_append, ihl (c + 1) (i + 1) _ (Nat.or_lt_two_pow (by omega) hp) (by omega), ihc (i + 1) set (by omega) (by omega), setL_or hs (by omega), List.map_map]
      congr 1
      apply List.map_congr_left
      intro x _
      simp

def chFromL (n : Nat) : Nat → Nat → List (List Int)
  | _, 0 => []
  | k, c + 1 => combsL k 0 (n + 1 - k) ++ chFromL n (k + 1) c
def allL (n : Nat) : List (List Int) := chFromL n 0 (n + 1)
theorem chFrom_setL (n : Nat) (hn : n ≤ 17) : ∀ (c k : Nat), k + c ≤ n + 1 → (chFrom n k c).map setL = chFromL n k c
  | 0, _, _ => rfl
  | c + 1, k, h => by
    rw [chFrom, chFromL, List.map_append, chFrom_setL n hn c (k + 1) (by omega), combs_setL k _ 0 0 (by simp) (by omega)]
    congr 1
    rw [setL_zero]; simp

/-! ### their order -/
def AscFrom (i n : Int) : List Int → Prop
  | [] => True
  | x :: r => i ≤ x ∧ x < n ∧ AscFrom (x + 1) n r
/-- a choice comes ahead of another one of as many tests -/
def lexL : List Int → List Int → Prop
  | x :: xs, y :: ys => x < y ∨ x = y ∧ lexL xs ys
  | _, _ => False
def ahead (a b : List Int) : Prop := a.length < b.length ∨ a.length = b.length ∧ lexL a b

theorem AscFrom.mono {n : Int} : ∀ {l : List Int} {i j : Int}, AscFrom i n l → j ≤ i → AscFrom j n l
  | [], _, _, _, _ => trivial
  | _ :: _, _, _, ⟨h1, h2, h3⟩, h => ⟨by omega, h2, h3⟩
theorem AscFrom.len {n : Int} : ∀ {l : List Int} {i : Int}, AscFrom i n l → i ≤ n → i + l.length ≤ n
  | [], _, _, h => by simpa using h
  | x :: r, i, ⟨h1, h2, h3⟩, _ => by
    have := h3.len (by omega)
    simp only [List.length_cons]
    omega

theorem combsL_mem : ∀ (l c i : Nat) (L : List Int), L ∈ combsL l i c ↔ L.length = l ∧ AscFrom i (((i + l + c : Nat) : Int) - 1) L := by
  intro l
  induction l with
  | zero =>
    intro c i L
    simp only [combsL, List.mem_singleton, List.length_eq_zero_iff]
    constructor
    · rintro rfl; exact ⟨rfl, trivial⟩
    · exact fun h => h.1
  | succ l ihl =>
    intro c
    induction c with
    | zero =>
      intro i L
      simp only [combsL, List.not_mem_nil, false_iff]
      rintro ⟨h1, h2⟩
      cases L with
      | nil => cases h1
      | cons x r =>
        have := h2.len (by simp only [AscFrom] at h2; omega)
        rw [h1] at this
        omega
    | succ c ihc =>
      intro i L
      rw [combsL, List.mem_append, List.mem_map, ihc]
      constructor
      · rintro (⟨M, hM, rfl⟩ | ⟨h1, h2⟩)
        · obtain ⟨h1, h2⟩ := (ihl _ _ _).1 hM
          refine ⟨by simp [h1], Int.le_refl _, by omega, ?_⟩
          have e : (((i + 1 + l + (c + 1) : Nat) : Int) - 1) = (((i + (l + 1) + (c + 1) : Nat) : Int) - 1) := by omega
          rw [e] at h2
          have e2 : ((i + 1 : Nat) : Int) = (i : Int) + 1 := by omega
          rw [e2] at h2
          exact h2
        · refine ⟨h1, ?_⟩
          have e : (((i + 1 + (l + 1) + c : Nat) : Int) - 1) = (((i + (l + 1) + (c + 1) : Nat) : Int) - 1) := by omega
          rw [e] at h2
          exact h2.mono (by omega)
      · rintro ⟨h1, h2⟩
        cases L with
        | nil => cases h1
        | cons x r =>
          obtain ⟨h3, h4, h5⟩ := h2
          by_cases hx : x = i
          · subst hx
            refine .inl ⟨r, (ihl _ _ _).2 ⟨by simpa using h1, ?_⟩, rfl⟩
            have e : (((i + 1 + l + (c + 1) : Nat) : Int) - 1) = (((i + (l + 1) + (c + 1) : Nat) : Int) - 1) := by omega
            rw [e]
            exact h5.mono (by omega)
          · refine .inr ⟨h1, ?_⟩
            have e : (((i + 1 + (l + 1) + c : Nat) : Int) - 1) = (((i + (l + 1) + (c + 1) : Nat) : Int) - 1) := by omega
            rw [e]
            exact ⟨by omega, h4, h5⟩
theorem combsL_pw : ∀ (l c i : Nat), (combsL l i c).Pairwise lexL := by
  intro l
  induction l with
  | zero => intro c i; simp [combsL]
  | succ l ihl =>
    intro c
    induction c with
    | zero => intro i; simp [combsL]
    | succ c ihc =>
      intro i
      rw [combsL, List.pairwise_append]
      refine ⟨?_, ihc _, ?_⟩
      · rw [List.pairwise_map]
        exact (ihl _ _).imp fun h => .inr ⟨rfl, h⟩
      · intro a ha b hb
        obtain ⟨M, hM, rfl⟩ := List.mem_map.1 ha
        obtain ⟨h1, h2⟩ := (combsL_mem _ _ _ _).1 hb
        cases b with
        | nil => cases h1
        | cons y r =>
          have := h2.1
          exact .inl (by omega)
theorem chFromL_mem (n : Nat) : ∀ (c k : Nat) (L : List Int), k + c ≤ n + 1 → (L ∈ chFromL n k c ↔ (k ≤ L.length ∧ L.length < k + c) ∧ AscFrom 0 n L)
  | 0, k, L, _ => by
    simp only [chFromL, List.not_mem_nil, false_iff]
    rintro ⟨⟨h1, h2⟩, _⟩
    omega
  | c + 1, k, L, h => by
    rw [chFromL, List.mem_append, combsL_mem, chFromL_mem n c (k + 1) L (by omega)]
    have e : (((0 + k + (n + 1 - k) : Nat) : Int) - 1) = n := by omega
    rw [e]
    constructor
    · rintro (⟨h1, h2⟩ | ⟨h1, h2⟩)
      · exact ⟨by omega, h2⟩
      · exact ⟨by omega, h2⟩
    · rintro ⟨h1, h2⟩
      by_cases hk : L.length = k
      · exact .inl ⟨hk, h2⟩
      · exact .inr ⟨by omega, h2⟩
theorem chFromL_pw (n : Nat) : ∀ (c k : Nat), k + c ≤ n + 1 → (chFromL n k c).Pairwise ahead
  | 0, _, _ => List.Pairwise.nil
  | c + 1, k, h => by
    rw [chFromL, List.pairwise_append]
    refine ⟨?_, chFromL_pw n c (k + 1) (by omega), ?_⟩
    · refine (combsL_pw k (n + 1 - k) 0).imp_of_mem fun {a b} ha hb hab => ?_
      have h1 := ((combsL_mem _ _ _ _).1 ha).1
      have h2 := ((combsL_mem _ _ _ _).1 hb).1
      exact .inr ⟨by omega, hab⟩
    · intro a ha b hb
      have h1 := ((combsL_mem _ _ _ _).1 ha).1
      have h2 := ((chFromL_mem n c (k + 1) b (by omega)).1 hb).1
      exact .inl (by omega)
theorem allL_mem (n : Nat) (L : List Int) : L ∈ allL n ↔ AscFrom 0 n L := by
  unfold allL
  rw [chFromL_mem n _ _ _ (by omega)]
  constructor
  · exact fun h => h.2
  · intro h
    have := h.len (by omega)
    exact ⟨by omega, h⟩
theorem allL_pw (n : Nat) : (allL n).Pairwise ahead := chFromL_pw n _ _ (by omega)

theorem asc_index {n : Int} : ∀ (l : List Int) (i : Int), AscFrom i n l ↔ ∀ j (h : j < l.length), i ≤ l[j] ∧ l[j] < n ∧ (0 < j → l[j - 1] < l[j])
  | [], i => ⟨fun _ j h => absurd h (by simp), fun _ => trivial⟩
  | x :: r, i => by
    rw [AscFrom, asc_index r (x + 1)]
    constructor
    · rintro ⟨h1, h2, h3⟩ j hj
      cases j with
      | zero => exact ⟨h1, h2, fun h => by cases h⟩
      | succ j =>
        simp only [List.length_cons] at hj
        have h4 := h3 j (by omega)
        refine ⟨by simp only [List.getElem_cons_succ]; omega, by simpa using h4.2.1, fun _ => ?_⟩
        simp only [Nat.add_sub_cancel, List.getElem_cons_succ]
        cases j with
        | zero => simp only [List.getElem_cons_zero]; omega
        | succ j =>
          simp only [List.getElem_cons_succ]
          have := h4.2.2 (by omega)
          simpa using this
    · intro h
      have h0 := h 0 (by simp)
      refine ⟨h0.1, h0.2.1, ?_⟩
      -- all are behind the first
      have hx : ∀ j (hj : j < r.length), x < r[j] := by
        intro j
        induction j with
        | zero =>
          intro hj
          have := (h 1 (by simp; omega)).2.2 (by omega)
          simpa using this
        | succ j ih =>
          intro hj
          have := (h (j + 1 + 1) (by simp; omega)).2.2 (by omega)
          have h2 := ih (by omega)
          simp only [Nat.add_sub_cancel, List.getElem_cons_succ] at this
          omega
      intro j hj
      have h1 := h (j + 1) (by simp; omega)
      simp only [List.getElem_cons_succ, Nat.add_sub_cancel] at h1
      have h2 := hx j hj
      refine ⟨by omega, h1.2.1, fun hj0 => ?_⟩
      have h3 := h1.2.2 (by omega)
      obtain ⟨q, rfl⟩ : ∃ q, j = q + 1 := ⟨j - 1, by omega⟩
      simpa using h3
theorem chosen_asc (n : Nat) (ch : List Int) : Chosen n ch ↔ AscFrom 0 n ch := by
  rw [asc_index]; exact Iff.rfl

theorem lex_irr : ∀ {a b : List Int}, lexL a b → lexL b a → False
  | [], [], h, _ => h
  | [], _ :: _, h, _ => h
  | _ :: _, [], h, _ => h
  | x :: a, y :: b, h1, h2 => by
    rcases h1 with h1 | ⟨rfl, h1⟩
    · rcases h2 with h2 | ⟨rfl, _⟩ <;> omega
    · rcases h2 with h2 | ⟨_, h2⟩
      · omega
      · exact lex_irr h1 h2
theorem ahead_irr {a b : List Int} (h1 : ahead a b) (h2 : ahead b a) : False := by
  rcases h1 with h1 | ⟨e, h1⟩
  · rcases h2 with h2 | ⟨e, _⟩ <;> omega
  · rcases h2 with h2 | ⟨_, h2⟩
    · omega
    · exact lex_irr h1 h2
theorem lex_tri : ∀ {a b : List Int}, a.length = b.length → lexL a b ∨ a = b ∨ lexL b a
  | [], [], _ => .inr (.inl rfl)
  | [], _ :: _, h => by cases h
  | _ :: _, [], h => by cases h
  | x :: a, y :: b, h => by
    by_cases h1 : x < y
    · exact .inl (.inl h1)
    · by_cases h2 : y < x
      · exact .inr (.inr (.inl h2))
      · obtain rfl : x = y := by omega
        rcases lex_tri (a := a) (b := b) (by simpa using h) with h | rfl | h
        · exact .inl (.inr ⟨rfl, h⟩)
        · exact .inr (.inl rfl)
        · exact .inr (.inr (.inr ⟨rfl, h⟩))
theorem ahead_tri (a b : List Int) : ahead a b ∨ a = b ∨ ahead b a := by
  by_cases h1 : a.length < b.length
  · exact .inl (.inl h1)
  · by_cases h2 : b.length < a.length
    · exact .inr (.inr (.inl h2))
    · rcases lex_tri (a := a) (b := b) (by omega) with h | h | h
      · exact .inl (.inr ⟨by omega, h⟩)
      · exact .inr (.inl h)
      · exact .inr (.inr (.inr ⟨by omega, h⟩))

/-! ### what is returned -/
open Classical in
noncomputable def decL (open_ : List Int) (ts : List (List Int)) (ch : List Int) : Bool := decide (∀ w ∈ open_, ∃ k ∈ ch, w ∈ ts.getD k.toNat [])
noncomputable def fewest (open_ : List Int) (ts : List (List Int)) : Option (List Int) := (allL ts.length).find? (decL open_ ts)
theorem bitsL_mem {f : Nat → Int} {x n : Nat} {z : Int} : z ∈ bitsL f x n ↔ ∃ k, k < n ∧ x / 2 ^ k % 2 = 1 ∧ z = f k := by
  unfold bitsL
  simp only [List.mem_map, List.mem_filter, List.mem_range, decide_eq_true_eq]
  constructor
  · rintro ⟨k, ⟨h1, h2⟩, rfl⟩; exact ⟨k, h1, h2, rfl⟩
  · rintro ⟨k, h1, h2, rfl⟩; exact ⟨k, ⟨h1, h2⟩, rfl⟩
theorem decS_decL (open_ : List Int) (ts : List (List Int)) (h17 : ts.length ≤ 17) (s : Nat) : decS open_ ts s = decL open_ ts (setL s) := by
  unfold decS decL
  rw [Bool.eq_iff_iff, decide_eq_true_eq, decide_eq_true_eq]
  have key : ∀ w, (maskTo ts w ts.length &&& s ≠ 0) ↔ ∃ k ∈ setL s, w ∈ ts.getD k.toNat [] := fun w => by
    rw [and_ne]
    simp only [maskTo_bit, decide_eq_true_eq, setL, bitsL_mem]
    constructor
    · rintro ⟨k, ⟨h1, h2⟩, h3⟩
      refine ⟨(k : Int), ⟨k, by omega, ?_, rfl⟩, by simpa using h2⟩
      rw [Nat.testBit_eq_decide_div_mod_eq, decide_eq_true_eq] at h3; exact h3
    · rintro ⟨z, ⟨k, h1, h2, rfl⟩, h3⟩
      rw [Int.toNat_natCast] at h3
      have h4 : k < ts.length := by
        apply Classical.byContradiction
        intro h
        rw [List.getD_eq_getElem?_getD, List.getElem?_eq_none (by omega)] at h3
        simp at h3
      refine ⟨k, ⟨h4, h3⟩, ?_⟩
      rw [Nat.testBit_eq_decide_div_mod_eq, decide_eq_true_eq]; exact h2
  exact ⟨fun h w hw => (key w).1 (h w hw), fun h w hw => (key w).2 (h w hw)⟩
theorem fewest_set (open_ : List Int) (ts : List (List Int)) (h17 : ts.length ≤ 17) : (fewestS open_ ts).map setL = fewest open_ ts := by
  unfold fewest allL fewestS allCh
  rw [← chFrom_setL ts.length h17 _ _ (by omega), List.find?_map]
  congr 2
  funext s
  exact decS_decL open_ ts h17 s
theorem fewest_some {open_ : List Int} {ts : List (List Int)} {ch : List Int} (h : fewest open_ ts = some ch) : Chosen ts.length ch ∧ decL open_ ts ch = true ∧ ∀ ch', Chosen ts.length ch' → decL open_ ts ch' = true → ch' = ch ∨ ahead ch ch' := by
  obtain ⟨h1, l1, l2, h2, h3⟩ := List.find?_eq_some_iff_append.1 h
  refine ⟨?_, h1, fun ch' hc hd => ?_⟩
  · rw [chosen_asc, ← allL_mem, h2]; simp
  · rw [chosen_asc, ← allL_mem, h2] at hc
    have hp := allL_pw ts.length
    rw [h2, List.pairwise_append] at hp
    rcases List.mem_append.1 hc with h | h
    · have := h3 _ h
      rw [hd] at this
      cases this
    · rcases List.mem_cons.1 h with h | h
      · exact .inl h
      · exact .inr ((List.pairwise_cons.1 hp.2.1).1 _ h)
theorem fewest_none {open_ : List Int} {ts : List (List Int)} (h : fewest open_ ts = none) (ch' : List Int) (hc : Chosen ts.length ch') : decL open_ ts ch' = false := by
  rw [chosen_asc, ← allL_mem] at hc
  have := List.find?_eq_none.1 h _ hc
  simpa using this
theorem fewest_eq {open_ : List Int} {ts : List (List Int)} {ch : List Int} (h1 : Chosen ts.length ch) (h2 : decL open_ ts ch = true) (h3 : ∀ ch', Chosen ts.length ch' → decL open_ ts ch' = true → ch' = ch ∨ ahead ch ch') : fewest open_ ts = some ch := by
  cases h : fewest open_ ts with
  | none => rw [fewest_none h ch h1] at h2; cases h2
  | some c =>
    obtain ⟨k1, k2, k3⟩ := fewest_some h
    rcases k3 ch h1 h2 with e | e
    · rw [e]
    · rcases h3 c k1 k2 with e2 | e2
      · rw [e2]
      · exact (ahead_irr e e2).elim
end Go.Proofs.YtkdjebioapholaaDoor
/-
  Inspect: Fewest (its contract); the reference's before, and masks.
-/
namespace Go.Proofs.YtkdjebioapholaaDoor
open Go

open Classical in
noncomputable def fewR (open_ : List Int) (ts : List (List Int)) : AV := if Good open_ ∧ GoodT ts then (match fewest open_ ts with
  | some ch => .tup [.fs 1 (intsA ch), .bool true]
  | none => .tup [.nilS, .bool false]) else .tup [.nilS, .bool false]
noncomputable def M15 : PModel := fun args => match args with
  | [a, l] => match intsOf a, testsOf l with
    | some open_, some ts => some (fewR open_ ts)
    | _, _ => none
  | _ => none
theorem spec15F : PureSpecF Tryd.prog GI 15 M15 := by
  refine PureSpecF.of_ev (E := envOf GI fs15) (envOf_sound sound15) rfl at15 comp15 2 ?_
  intro args r h
  unfold M15 at h
  split at h
  · split at h
    · rename_i open_ ts h1 h2
      injection h with h; subst h
      refine ⟨40, ?_⟩
      rw [ev15 h1 h2]
      congr 1
      unfold fewR
      by_cases hg : Good open_ ∧ GoodT ts
      · rw [if_pos hg, if_pos hg, ← fewest_set open_ ts (by have := hg.2.1; omega)]
        cases fewestS open_ ts <;> rfl
      · rw [if_neg hg, if_neg hg]
    · cases h
  · cases h

theorem spec15 : PureSpec Tryd.prog GI 15 M15 := spec15F.pure

/-! ### before -/
theorem lex_eq : ∀ {a b : List Int} {i : Nat} (h1 : i < a.length) (h2 : i < b.length), (∀ j (hj : j < i), a[j] = b[j]) → a[i] ≠ b[i] → (lexL a b ↔ a[i] < b[i])
  | [], _, _, h1, _, _, _ => by cases h1
  | _ :: _, [], _, _, h2, _, _ => by cases h2
  | x :: a, y :: b, 0, _, _, _, hn => by
    simp only [List.getElem_cons_zero] at hn ⊢
    constructor
    · rintro (h | ⟨h, _⟩)
      · exact h
      · exact absurd h hn
    · exact .inl
  | x :: a, y :: b, i + 1, h1, h2, hj, hn => by
    have h0 : x = y := hj 0 (by omega)
    have ih := lex_eq (a := a) (b := b) (i := i) (by simpa using h1) (by simpa using h2) (fun j hj' => by simpa using hj (j + 1) (by omega)) (by simpa using hn)
    simp only [List.getElem_cons_succ]
    rw [← ih]
    constructor
    · rintro (h | ⟨_, h⟩)
      · omega
      · exact h
    · exact fun h => .inr ⟨h0, h⟩

open Classical in
set_option maxRecDepth 100000 in
theorem ev33 (E : Env) {a b : AV} {xs ys : List Int} (ha : SlA 1 (intsA xs) a) (hb : SlA 1 (intsA ys) b) (hm : xs.length ≤ 9223372036854775807) (hm2 : ys.length ≤ 9223372036854775807) : evP E (xs.length + 1) mf33 1 [a, b] = some (.bool (decide (ahead xs ys))) := by
  have hl := ha.len
  have hl2 := hb.len
  simp only [intsA, List.length_map] at hl hl2
  have b0 : evBin .neq (.int .i64 (xs.length : Int)) (.int .i64 (ys.length : Int)) = some (.bool (decide (xs.length ≠ ys.length))) := by simp [evBin]; omega
  have b1 := lt_nat xs.length ys.length .i64
  rw [evP_run _ _ rfl]
  by_cases hxy : xs.length = ys.length
  rotate_left
  · rw [decide_eq_true hxy] at b0
    have e : decide (ahead xs ys) = decide (xs.length < ys.length) := by
      rw [Bool.eq_iff_iff, decide_eq_true_eq, decide_eq_true_eq]
      exact ⟨fun h => h.elim id fun h => absurd h.1 hxy, .inl⟩
    rw [e]
    simp [mf33, hl, hl2, b0, b1, -evBin, -evLenSl]
  rw [decide_eq_false (by omega)] at b0
  have round : ∀ (A : Arena) (i : Nat) (hi : i < xs.length), run E (xs.length + 1) [.code lp33x0] (st33x0 a b (.int .i64 (i : Int))) A =
      if xs[i] = ys[i] then some (.normal (st33x0 a b (.int .i64 ((i + 1 : Nat) : Int))) A) else some (.ret [a, b, .bool (decide (xs[i] < ys[i])), .int .i64 (i : Int), .undef, .bool true, .bool true] A) := fun A i hi => by
    have x1 := ha.int (A := A) _ _ (List.getElem?_eq_getElem hi) .i64
    have x2 := hb.int (A := A) _ _ (List.getElem?_eq_getElem (show i < ys.length by omega)) .i64
    have b1 : evBin .lss (.int .i64 (i : Int)) (.int .i64 (xs.length : Int)) = some (.bool true) := by simp [evBin]; omega
    have b2 : evBin .neq (.int .i64 xs[i]) (.int .i64 ys[i]) = some (.bool (decide (xs[i] ≠ ys[i]))) := by simp [evBin]
    have b4 : evBin .lss (.int .i64 xs[i]) (.int .i64 ys[i]) = some (.bool (decide (xs[i] < ys[i]))) := by simp [evBin]
    have b3 := add1_nat i (by omega)
    obtain ⟨i1, hi1⟩ : ∃ i1 : Nat, i1 = i + 1 := ⟨_, rfl⟩
    rw [← hi1] at b3 ⊢
    by_cases h : xs[i] = ys[i]
    · rw [if_pos h]
      rw [decide_eq_false (by simpa using h)] at b2
      simp [lp33x0, hl, x1, x2, b1, b2, b3, -evBin, -evIndexSl, -evLenSl]
    · rw [if_neg h]
      rw [decide_eq_true h] at b2
      obtain ⟨d, hd⟩ : ∃ d, d = decide (xs[i] < ys[i]) := ⟨_, rfl⟩
      rw [← hd] at b4 ⊢
      simp [lp33x0, hl, x1, x2, b1, b2, b4, -evBin, -evIndexSl, -evLenSl]
  rcases iter_search (E := E) (fuel := xs.length + 1) (a := lp33x0) (mask := mask33x0) (fun i => st33x0 a b (.int .i64 (i : Int))) (fun _ => []) xs.length (fun i => xs.getD i 0 ≠ ys.getD i 0)
    (oF := fun i => .ret [a, b, .bool (decide (xs.getD i 0 < ys.getD i 0)), .int .i64 (i : Int), .undef, .bool true, .bool true] []) (oE := .exit 0 ((st33x0 a b (.int .i64 (xs.length : Int))).set 5 (.bool false)) [])
    (fun _ => cl33x0) (fun _ _ _ h => by cases h) (fun _ _ h => by cases h)
    (fun i hi hp => by
      rw [round [] i hi]
      have hi2 : i < ys.length := by omega
      simp only [List.getD_eq_getElem?_getD, List.getElem?_eq_getElem hi, List.getElem?_eq_getElem hi2, Option.getD_some, ne_eq, Classical.not_not] at hp
      exact if_pos hp)
    (fun i hi hp => by
      rw [round [] i hi]
      have hi2 : i < ys.length := by omega
      simp only [List.getD_eq_getElem?_getD, List.getElem?_eq_getElem hi, List.getElem?_eq_getElem hi2, Option.getD_some, ne_eq] at hp ⊢
      exact if_neg hp)
    (by simp [lp33x0, hl, -evLenSl]) (Nat.lt_succ_self _) with ⟨i, hi, hp, hj, lp⟩ | ⟨hp, lp⟩
  · have lp : iter (evC E (xs.length + 1) lp33x0) mask33x0 (xs.length + 1) (st33x0 a b (.int .i64 0)) [] = _ := lp
    have hi2 : i < ys.length := by omega
    have e : decide (ahead xs ys) = decide (xs.getD i 0 < ys.getD i 0) := by
      simp only [List.getD_eq_getElem?_getD, List.getElem?_eq_getElem hi, List.getElem?_eq_getElem hi2, Option.getD_some, ne_eq] at hp ⊢
      have := lex_eq hi hi2 (fun j hj' => by
        have := hj j hj'
        have h1 : j < xs.length := by omega
        have h2 : j < ys.length := by omega
        simpa only [List.getD_eq_getElem?_getD, List.getElem?_eq_getElem h1, List.getElem?_eq_getElem h2, Option.getD_some, ne_eq, Classical.not_not] using this) hp
      rw [Bool.eq_iff_iff, decide_eq_true_eq, decide_eq_true_eq, ← this]
      exact ⟨fun h => h.elim (fun h => by omega) fun h => h.2, fun h => .inr ⟨hxy, h⟩⟩
    rw [e]
    obtain ⟨d, hd⟩ : ∃ d, d = decide (xs.getD i 0 < ys.getD i 0) := ⟨_, rfl⟩
    rw [← hd] at lp ⊢
    simp [mf33, hl, hl2, b0, go33x0 lp, -evBin, -evLenSl]
  · have lp : iter (evC E (xs.length + 1) lp33x0) mask33x0 (xs.length + 1) (st33x0 a b (.int .i64 0)) [] = _ := lp
    have e : xs = ys := by
      apply List.ext_getElem hxy
      intro i h1 h2
      have := hp i h1
      simpa only [List.getD_eq_getElem?_getD, List.getElem?_eq_getElem h1, List.getElem?_eq_getElem h2, Option.getD_some, ne_eq, Classical.not_not] using this
    rw [decide_eq_false (show ¬ ahead xs ys from fun h => by rw [e] at h; exact ahead_irr h h)]
    simp [mf33, hl, hl2, b0, go33x0 lp, -evBin, -evLenSl]
open Classical in
noncomputable def M33 : PModel := fun args => match args with
  | [a, b] => match intsOf a, intsOf b with
    | some xs, some ys => some (.bool (decide (ahead xs ys)))
    | _, _ => none
  | _ => none
theorem spec33 : PureSpec Tryd.prog GI 33 M33 := by
  refine PureSpec.of_ev (E := envOf GI []) (envOf_sound lookM_nil) rfl at33 comp33 1 ?_
  intro args r h
  unfold M33 at h
  split at h
  · split at h
    · rename_i h1 h2
      injection h with h; subst h
      obtain ⟨k1, _, k3⟩ := intsOf_some h1
      obtain ⟨l1, _, l3⟩ := intsOf_some h2
      exact ⟨_, ev33 _ k1 l1 k3 l3⟩
    · cases h
  · cases h

/-! ### masks -/
def mskTo (open_ : List Int) (t : List Int) (f : Nat) : Nat → Nat
  | 0 => 0
  | j + 1 => if open_.getD (f + j) 0 ∈ t then mskTo open_ t f j ||| 2 ^ j else mskTo open_ t f j
theorem mskTo_lt (open_ t : List Int) (f : Nat) : ∀ j, mskTo open_ t f j < 2 ^ j
  | 0 => by simp [mskTo]
  | j + 1 => by
    have := mskTo_lt open_ t f j
    have h2 : 2 ^ j < 2 ^ (j + 1) := Nat.pow_lt_pow_right (by omega) (by omega)
    unfold mskTo
    split
    · exact Nat.or_lt_two_pow (by omega) h2
    · omega
theorem mskTo_bit (open_ t : List Int) (f i : Nat) : ∀ j, (mskTo open_ t f j).testBit i = decide (i < j ∧ open_.getD (f + i) 0 ∈ t)
  | 0 => by simp [mskTo]
  | j + 1 => by
    have ih := mskTo_bit open_ t f i j
    unfold mskTo
    rw [Bool.eq_iff_iff, decide_eq_true_eq]
    by_cases h : open_.getD (f + j) 0 ∈ t
    · rw [if_pos h, Nat.testBit_or, Nat.testBit_two_pow, Bool.or_eq_true, decide_eq_true_eq, ih, decide_eq_true_eq]
      constructor
      · rintro (⟨h1, h2⟩ | rfl)
        · exact ⟨by omega, h2⟩
        · exact ⟨by omega, h⟩
      · rintro ⟨h1, h2⟩
        by_cases hij : j = i
        · exact .inr hij
        · exact .inl ⟨by omega, h2⟩
    · rw [if_neg h, ih, decide_eq_true_eq]
      constructor
      · rintro ⟨h1, h2⟩
        exact ⟨by omega, h2⟩
      · rintro ⟨h1, h2⟩
        refine ⟨?_, h2⟩
        by_cases hij : j = i
        · subst hij; exact absurd h2 h
        · omega
theorem or_i64 (a b : Nat) (ha : a < 2 ^ 62) (hb : b < 2 ^ 62) : evBin .or (.int .i64 (a : Int)) (.int .i64 (b : Int)) = some (.int .i64 ((a ||| b : Nat) : Int)) := by
  have h1 : (BitVec.ofInt 64 (a : Int)).toNat = a := by simp; omega
  have h2 : (BitVec.ofInt 64 (b : Int)).toNat = b := by simp; omega
  have h3 : a ||| b < 2 ^ 62 := Nat.or_lt_two_pow ha hb
  have : orI .i64 (a : Int) (b : Int) = ((a ||| b : Nat) : Int) := by
    unfold orI
    rw [show IntKind.i64.bits = 64 from rfl, BitVec.toNat_or, h1, h2, wrapI (by unfold inI; omega)]
  simp only [evBin]
  rw [if_pos trivial, this]
theorem shl_i64 (i : Nat) (h : i ≤ 62) : evBin .shl (.int .i64 1) (.int .i64 (i : Int)) = some (.int .i64 ((2 ^ i : Nat) : Int)) := by
  have e : min i 64 = i := by omega
  have hp : 2 ^ i < 2 ^ 63 := Nat.pow_lt_pow_right (by omega) (by omega)
  have e2 : IntKind.i64.wrap (1 * 2 ^ i) = ((2 ^ i : Nat) : Int) := by
    have h0 : (1 : Int) * 2 ^ i = ((2 ^ i : Nat) : Int) := by rw [Int.one_mul]; norm_cast
    rw [h0]
    exact (fun (p : Nat) (hp : p < 2 ^ 63) => wrapI (by unfold inI; omega) : ∀ p : Nat, p < 2 ^ 63 → IntKind.i64.wrap (p : Int) = p) _ hp
  simp only [evBin, show IntKind.i64.bits = 64 from rfl, Int.toNat_natCast, e, e2]
  rw [if_neg (by omega)]
/-- how many open wafers a mask has from one on -/
def cntM (open_ : List Int) (f : Nat) : Nat := min (open_.length - f) 62
def msks (open_ : List Int) (ts : List (List Int)) (f : Nat) : List Int := ts.map fun t => ((mskTo open_ t f (cntM open_ f) : Nat) : Int)

noncomputable def fs32 : List (FuncId × HModel) := [(37, pureH 4 M37)]
@[simp] theorem fs32_37 : lookM fs32 37 = some (pureH 4 M37) := rfl
theorem sound32 : ∀ f M, lookM fs32 f = some M → FnSpecY Tryd.prog GI f M := lookM_cons (FnSpecY.of_pure spec37 4) lookM_nil

set_option maxRecDepth 100000 in
theorem round32a (fuel : Nat) (A : Arena) {a l o : AV} {open_ : List Int} {ts : List (List Int)} (ha : SlA 1 (intsA open_) a) (hl : testsOf l = some ts) (hm : open_.length ≤ 100) {f k j : Nat} (hf : f ≤ 62) (hk : k < ts.length) (hj : j < cntM open_ f) :
    run (envOf GI fs32) fuel [.code lp32x0] (st32x0 a l (.int .i64 (f : Int)) o (.int .i64 (k : Int)) (.int .i64 (mskTo open_ ts[k] f j : Int)) (.int .i64 ((f + j : Nat) : Int))) A =
      some (.normal (st32x0 a l (.int .i64 (f : Int)) o (.int .i64 (k : Int)) (.int .i64 (mskTo open_ ts[k] f (j + 1) : Int)) (.int .i64 ((f + (j + 1) : Nat) : Int))) A) := by
  unfold cntM at hj
  have hfj : f + j < open_.length := by omega
  have hal := ha.len
  simp only [intsA, List.length_map] at hal
  obtain ⟨s, hs, x2⟩ := testsOf_at hl hk
  have x2 := x2 A .i64
  have x1 := ha.int (A := A) _ _ (List.getElem?_eq_getElem hfj) .i64
  have hfz := intsOf_frz hs
  have m : M37 [s, .int .i64 open_[f + j]] = some (.bool (decide (open_[f + j] ∈ ts[k]))) := by simp only [M37, hs, Option.map_some]
  have b1 := lt_nat (f + j) open_.length .i64
  rw [decide_eq_true hfj] at b1
  have b2 : evBin .add (.int .i64 (f : Int)) (.int .i64 62) = some (.int .i64 ((f + 62 : Nat) : Int)) := by
    simp only [evBin]; rw [if_pos trivial, wrapI (by unfold inI; omega)]; rfl
  have b3 := lt_nat (f + j) (f + 62) .i64
  rw [decide_eq_true (by omega)] at b3
  have b4 : evBin .sub (.int .i64 ((f + j : Nat) : Int)) (.int .i64 (f : Int)) = some (.int .i64 (j : Int)) := by
    simp only [evBin]; rw [if_pos trivial, wrapI (by unfold inI; omega)]; congr 2; omega
  have b5 := shl_i64 j (by omega)
  have hp : 2 ^ j < 2 ^ 62 := Nat.pow_lt_pow_right (by omega) (by omega)
  have hlt := mskTo_lt open_ ts[k] f j
  have b6 := or_i64 (mskTo open_ ts[k] f j) (2 ^ j) (by omega) hp
  have b7 := add1_nat (f + j) (by omega)
  rw [show f + j + 1 = f + (j + 1) by omega] at b7
  have hstep : mskTo open_ ts[k] f (j + 1) = if open_[f + j] ∈ ts[k] then mskTo open_ ts[k] f j ||| 2 ^ j else mskTo open_ ts[k] f j := by
    simp only [mskTo, List.getD_eq_getElem?_getD, List.getElem?_eq_getElem hfj, Option.getD_some]
  rw [hstep]
  clear hlt
  obtain ⟨w, hw⟩ : ∃ w, w = open_[f + j] := ⟨_, rfl⟩
  rw [← hw] at x1 m ⊢
  obtain ⟨u, hu⟩ : ∃ u, u = mskTo open_ ts[k] f j := ⟨_, rfl⟩
  rw [← hu] at b6 ⊢
  obtain ⟨q, hq⟩ : ∃ q, q = u ||| 2 ^ j := ⟨_, rfl⟩
  rw [← hq] at b6 ⊢
  obtain ⟨p, hpp⟩ : ∃ p, p = 2 ^ j := ⟨_, rfl⟩
  rw [← hpp] at b5 b6
  obtain ⟨fj, hfj'⟩ : ∃ fj, fj = f + j := ⟨_, rfl⟩
  rw [← hfj'] at b1 b3 b4 b7 x1 ⊢
  obtain ⟨fj1, hfj1⟩ : ∃ fj1, fj1 = f + (j + 1) := ⟨_, rfl⟩
  rw [← hfj1] at b7 ⊢
  obtain ⟨f2, hf2⟩ : ∃ f2, f2 = f + 62 := ⟨_, rfl⟩
  rw [← hf2] at b2 b3
  by_cases h : w ∈ ts[k]
  · rw [decide_eq_true h] at m
    rw [if_pos h]
    simp [lp32x0, hal, x1, x2, m, hfz, b1, b2, b3, b4, b5, b6, b7, -evBin, -evIndexSl, -evLenSl]
  · rw [decide_eq_false h] at m
    rw [if_neg h]
    simp [lp32x0, hal, x1, x2, m, hfz, b1, b2, b3, b7, -evBin, -evIndexSl, -evLenSl]

set_option maxRecDepth 100000 in
theorem round32b {a l : AV} {open_ : List Int} {ts : List (List Int)} (ha : SlA 1 (intsA open_) a) (hl : testsOf l = some ts) (hm : open_.length ≤ 100) (hm2 : ts.length ≤ 16) {f k : Nat} (hf : f ≤ 62) (hk : k < ts.length) :
    run (envOf GI fs32) 200 [.code lp32x1] (st32x1 a l (.int .i64 (f : Int)) (oA [] (intsA ((msks open_ ts f).take k))) (.int .i64 (k : Int))) (aA [] 1 (intsA ((msks open_ ts f).take k))) =
      some (.normal (st32x1 a l (.int .i64 (f : Int)) (oA [] (intsA ((msks open_ ts f).take (k + 1)))) (.int .i64 ((k + 1 : Nat) : Int))) (aA [] 1 (intsA ((msks open_ ts f).take (k + 1))))) := by
  have hal := ha.len
  simp only [intsA, List.length_map] at hal
  have hll := (testsOf_len hl).1
  have hkm : k < (msks open_ ts f).length := by simpa [msks] using hk
  have e : (msks open_ ts f)[k] = ((mskTo open_ ts[k] f (cntM open_ f) : Nat) : Int) := by simp [msks]
  have ap := append1 (A := []) (esz := 1) (bytes := 8) (es := intsA ((msks open_ ts f).take k)) (.int .i64 ((mskTo open_ ts[k] f (cntM open_ f) : Nat) : Int)) (by omega) (by omega) (by simp [intsA]; omega)
  have e2 : intsA ((msks open_ ts f).take k) ++ [.int .i64 ((mskTo open_ ts[k] f (cntM open_ f) : Nat) : Int)] = intsA ((msks open_ ts f).take (k + 1)) := by
    rw [List.take_succ_eq_append_getElem hkm, e]; simp [intsA]
  rw [e2] at ap
  obtain ⟨c, hc⟩ : ∃ c, c = cntM open_ f := ⟨_, rfl⟩
  have hc62 : c ≤ 62 := by rw [hc]; unfold cntM; omega
  obtain ⟨o, ho⟩ : ∃ o, o = oA [] (intsA ((msks open_ ts f).take k)) := ⟨_, rfl⟩
  obtain ⟨A, hA⟩ : ∃ A, A = aA [] 1 (intsA ((msks open_ ts f).take k)) := ⟨_, rfl⟩
  rw [← ho, ← hA] at ap ⊢
  have b1 := lt_nat k ts.length .i64
  rw [decide_eq_true hk] at b1
  have b2 : evBin .add (.int .i64 (f : Int)) (.int .i64 62) = some (.int .i64 ((f + 62 : Nat) : Int)) := by
    simp only [evBin]; rw [if_pos trivial, wrapI (by unfold inI; omega)]; rfl
  have b4 := add1_nat k (by omega)
  have lp : ∃ v, iter (evC (envOf GI fs32) 200 lp32x0) mask32x0 200 (st32x0 a l (.int .i64 (f : Int)) o (.int .i64 (k : Int)) (.int .i64 0) (.int .i64 (f : Int))) A =
      some (.exit 2 ((st32x0 a l (.int .i64 (f : Int)) o (.int .i64 (k : Int)) (.int .i64 ((mskTo open_ ts[k] f c : Nat) : Int)) (.int .i64 ((f + c : Nat) : Int))).set 9 v) A) := by
    refine ⟨.bool false, iter_up (fun j => st32x0 a l (.int .i64 (f : Int)) o (.int .i64 (k : Int)) (.int .i64 (mskTo open_ ts[k] f j : Int)) (.int .i64 ((f + j : Nat) : Int))) (fun _ => A) c (fun _ => cl32x0) (fun _ _ h => by cases h) (fun j hj => round32a 200 A ha hl hm hf hk (hc ▸ hj)) ?_ (by omega)⟩
    have c1 := lt_nat (f + c) open_.length .i64
    have c2 := lt_nat (f + c) (f + 62) .i64
    obtain ⟨u, hu⟩ : ∃ u, u = mskTo open_ ts[k] f c := ⟨_, rfl⟩
    rw [← hu]
    by_cases h1 : f + c < open_.length
    · have : ¬ f + c < f + 62 := by unfold cntM at hc; omega
      rw [decide_eq_true h1] at c1
      rw [decide_eq_false this] at c2
      obtain ⟨fc, hfc⟩ : ∃ fc, fc = f + c := ⟨_, rfl⟩
      rw [← hfc] at c1 c2 ⊢
      obtain ⟨f2, hf2⟩ : ∃ f2, f2 = f + 62 := ⟨_, rfl⟩
      rw [← hf2] at b2 c2
      simp [lp32x0, hal, c1, c2, b2, -evBin, -evLenSl]
    · rw [decide_eq_false h1] at c1
      obtain ⟨fc, hfc⟩ : ∃ fc, fc = f + c := ⟨_, rfl⟩
      rw [← hfc] at c1 ⊢
      simp [lp32x0, hal, c1, -evBin, -evLenSl]
  obtain ⟨v, lp⟩ := lp
  rw [← hc] at ap
  obtain ⟨u, hu⟩ : ∃ u, u = mskTo open_ ts[k] f c := ⟨_, rfl⟩
  rw [← hu] at lp ap
  obtain ⟨k1, hk1⟩ : ∃ k1, k1 = k + 1 := ⟨_, rfl⟩
  rw [← hk1] at b4 ap ⊢
  simp [lp32x1, hll, b1, b4, ap, go32x0 lp, -evBin, -evLenSl]

set_option maxRecDepth 100000 in
theorem ev32 {a l : AV} {open_ : List Int} {ts : List (List Int)} (ha : intsOf a = some open_) (hl : testsOf l = some ts) (hm : open_.length ≤ 100) (hm2 : ts.length ≤ 16) {f : Nat} (hf : f ≤ 62) :
    evP (envOf GI fs32) 200 mf32 2 [a, l, .int .i64 (f : Int)] = some (slA 1 (intsA (msks open_ ts f))) := by
  have ha1 := (intsOf_some ha).1
  have hll := (testsOf_len hl).1
  have lp : iter (evC (envOf GI fs32) 200 lp32x1) mask32x1 200 (st32x1 a l (.int .i64 (f : Int)) .nilS (.int .i64 0)) [] =
      some (.exit 0 ((st32x1 a l (.int .i64 (f : Int)) (oA [] (intsA (msks open_ ts f))) (.int .i64 (ts.length : Int))).set 8 (.bool false)) (aA [] 1 (intsA (msks open_ ts f)))) := by
    have h := iter_up (E := envOf GI fs32) (fuel := 200) (a := lp32x1) (mask := mask32x1) (fun k => st32x1 a l (.int .i64 (f : Int)) (oA [] (intsA ((msks open_ ts f).take k))) (.int .i64 (k : Int))) (fun k => aA [] 1 (intsA ((msks open_ ts f).take k))) ts.length
      (o := .exit 0 ((st32x1 a l (.int .i64 (f : Int)) (oA [] (intsA (msks open_ ts f))) (.int .i64 (ts.length : Int))).set 8 (.bool false)) (aA [] 1 (intsA (msks open_ ts f))))
      (fun _ => cl32x1) (fun _ _ h => by cases h) (fun k hk => round32b ha1 hl hm hm2 hf hk) (by
        have e : (msks open_ ts f).take ts.length = msks open_ ts f := List.take_of_length_le (by simp [msks])
        rw [e]
        simp [lp32x1, hll, -evLenSl]) (show ts.length < 200 by omega)
    exact h
  have hfz := frz_oA (A := []) (esz := 1) (es := intsA (msks open_ ts f)) 1
  have hid : (intsA (msks open_ ts f)).map (frz (aA [] 1 (intsA (msks open_ ts f))) 1) = intsA (msks open_ ts f) := by
    unfold intsA; rw [List.map_map]; rfl
  rw [hid] at hfz
  rw [evP_run _ _ rfl]
  simp [mf32, go32x1 lp, hfz]
noncomputable def M32 : PModel := fun args => match args with
  | [a, l, .int .i64 f] => match intsOf a, testsOf l with
    | some open_, some ts => if open_.length ≤ 100 ∧ ts.length ≤ 16 ∧ 0 ≤ f ∧ f ≤ 62 then some (slA 1 (intsA (msks open_ ts f.toNat))) else none
    | _, _ => none
  | _ => none
theorem M32_eq {a l : AV} {open_ : List Int} {ts : List (List Int)} (ha : intsOf a = some open_) (hl : testsOf l = some ts) (hm : open_.length ≤ 100) (hm2 : ts.length ≤ 16) {f : Nat} (hf : f ≤ 62) : M32 [a, l, .int .i64 (f : Int)] = some (slA 1 (intsA (msks open_ ts f))) := by
  simp only [M32, ha, hl]
  rw [if_pos ⟨hm, hm2, by omega, by omega⟩, Int.toNat_natCast]
theorem spec32 : PureSpec Tryd.prog GI 32 M32 := by
  refine PureSpec.of_ev (E := envOf GI fs32) (envOf_sound sound32) rfl at32 comp32 2 ?_
  intro args r h
  unfold M32 at h
  split at h
  · rename_i f
    split at h
    · rename_i h1 h2
      simp only [Option.ite_none_right_eq_some, Option.some.injEq] at h
      obtain ⟨⟨k1, k2, k3, k4⟩, rfl⟩ := h
      obtain ⟨g, rfl⟩ : ∃ g : Nat, f = g := ⟨f.toNat, by omega⟩
      rw [Int.toNat_natCast]
      exact ⟨200, ev32 h1 h2 k1 k2 (by omega)⟩
    · cases h
  · cases h
end Go.Proofs.YtkdjebioapholaaDoor
