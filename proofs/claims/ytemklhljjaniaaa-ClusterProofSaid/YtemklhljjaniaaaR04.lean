/-
  What the proof is built on (Ev29 to KC16).
-/
import Derived.Test.YtemklhljjaniaaaR03
/-
  What proofs share. Program-independent.
-/
namespace Go.Proofs.Ytemklhljjaniaaa
open Go

def pick (a n : Int) : Int := (if a < 0 then -(a+1) else a).tmod n
theorem pick_range (a n : Int) (hn : 0 < n) : 0 ≤ pick a n ∧ pick a n < n := by
  unfold pick
  split
  · exact ⟨Int.tmod_nonneg _ (by omega), Int.tmod_lt_of_pos _ hn⟩
  · exact ⟨Int.tmod_nonneg _ (by omega), Int.tmod_lt_of_pos _ hn⟩
/-- the number drawn, as a natural one -/
theorem pick_nat (a : Int) (n : Nat) (hn : 0 < n) : ∃ m : Nat, pick a n = m ∧ m < n := by
  have := pick_range a n (by omega)
  exact ⟨(pick a n).toNat, by omega, by omega⟩
def intsA (xs : List Int) : List AV := xs.map (.int .i64)
@[simp] theorem cellsOf_slA (esz : Nat) (es : List AV) : cellsOf (slA esz es) = [slA esz es] := by cases es <;> rfl
@[simp] theorem solid_slA (esz : Nat) (es : List AV) : (slA esz es).solid = true := by cases es <;> rfl
@[simp] theorem flat1_slA (esz : Nat) (es : List AV) : flat1 (slA esz es) = true := by cases es <;> rfl
@[simp] theorem frz_slA (A : Arena) (n esz : Nat) (es : List AV) : frz A n (slA esz es) = slA esz es := by cases es <;> cases n <;> rfl
@[simp] theorem noRef_slA (n esz : Nat) (es : List AV) : noRefB n (slA esz es) = true := by cases es <;> cases n <;> rfl
@[simp] theorem len_slA (esz : Nat) (es : List AV) : evLenSl (slA esz es) = some (.int .i64 (es.length : Int)) := by cases es <;> rfl
/-- a slice that holds these elements, given or of the arena -/
def Holds (A : Arena) (esz : Nat) (a : AV) (xs : List AV) : Prop := SlA esz xs a ∨ ∃ id off gr es, a = .sl id off xs.length ∧ A[id]? = some (.row esz gr es) ∧ (es.drop off).take xs.length = xs
section
variable {A B : Arena} {esz : Nat} {a : AV} {xs : List AV}
theorem Holds.src (h : Holds A esz a xs) : srcElems esz A a = some xs := by
  rcases h with h | ⟨id, off, gr, es, rfl, h1, h2⟩
  · exact h.src
  · simp [srcElems, h1, h2]
theorem Holds.len (h : Holds A esz a xs) : evLenSl a = some (.int .i64 (xs.length : Int)) := by
  rcases h with h | ⟨id, off, gr, es, rfl, h1, h2⟩
  · exact h.len
  · rfl
theorem Holds.load1 {A : Arena} (h : Holds A 1 a xs) (hAB : ∀ id, id < A.length → B[id]? = A[id]?) {i : Nat} {x : AV} (hx : xs[i]? = some x) (hs : x.solid = true) (hc : cellsOf x = [x]) (hl : loadElem x 1 0 false 1 = some x) (k : IntKind) :
    ∃ p, evIndexSl 1 B a (.int k (i : Int)) = some p ∧ evLoad false 1 B p = some x := by
  rcases h with h | ⟨id, off, gr, es, rfl, h1, h2⟩
  · exact ⟨_, h.index1 hx hs hc k, rfl⟩
  · have hid : id < A.length := (List.getElem?_eq_some_iff.1 h1).1
    have hi : i < xs.length := (List.getElem?_eq_some_iff.1 hx).1
    have hB : B[id]? = some (.row 1 gr es) := (hAB id hid).trans h1
    have he : es[off + i]? = some x := by
      rw [← h2, List.getElem?_take_of_lt hi, List.getElem?_drop] at hx
      exact hx
    refine ⟨.ptr id (off + i) 0, ?_, ?_⟩
    · simp [evIndexSl, hB, hi]
    · simp [evLoad, hB, he, hl]
theorem Holds.int {zs : List Int} (h : Holds A 1 a (intsA zs)) (hAB : ∀ id, id < A.length → B[id]? = A[id]?) {i : Nat} (hi : i < zs.length) (k : IntKind) :
    ∃ p, evIndexSl 1 B a (.int k (i : Int)) = some p ∧ evLoad false 1 B p = some (.int .i64 zs[i]) :=
  h.load1 hAB (x := .int .i64 zs[i]) (by simp [intsA, hi]) rfl rfl rfl k
theorem aA_old (es : List AV) : ∀ id, id < A.length → (aA A esz es)[id]? = A[id]? := fun id hid => by
  match es with
  | [] => rfl
  | [x] => simp only [aA]; rw [List.getElem?_append_left hid]
  | x :: y :: r => simp only [aA]; rw [List.getElem?_append_left hid]
theorem aA_take (es : List AV) : (aA A esz es).take A.length = A := by
  match es with
  | [] => simp [aA]
  | [x] => simp [aA]
  | x :: y :: r => simp [aA]
theorem oA_holds (es : List AV) : Holds (aA A esz es) esz (oA A es) es := by
  match es with
  | [] => exact .inl (.inl ⟨rfl, rfl⟩)
  | [x] => exact .inr ⟨A.length, 0, false, [x], rfl, by simp [aA], rfl⟩
  | x :: y :: r => exact .inr ⟨A.length, 0, true, x :: y :: r, rfl, by simp [aA], by simp⟩
theorem frz_fresh (n : Nat) (es : List AV) : frz (List.replicate A.length .dead ++ (aA A esz es).drop A.length) (n + 1) (oA A es) = slA esz (es.map (frz (List.replicate A.length .dead ++ (aA A esz es).drop A.length) n)) := by
  match es with
  | [] => rfl
  | [x] => simp [oA, aA, frz, slA]
  | x :: y :: r =>
    have : (List.replicate A.length Ent.dead ++ (aA A esz (x :: y :: r)).drop A.length)[A.length]? = some (.row esz true (x :: y :: r)) := by simp [aA]
    simp only [oA, frz, this, slA]
    simp
end
theorem allOf_ints {xs : List Int} (hr : ∀ z ∈ xs, inI z) : allOf intOf (intsA xs) = some xs := allOf_map fun x hx => intOf_int (hr x hx)
theorem allOf_intsA {es : List AV} {xs : List Int} (h : allOf intOf es = some xs) : es = intsA xs ∧ ∀ z ∈ xs, inI z := by
  obtain ⟨h1, h2⟩ := allOf_some h
  refine ⟨List.ext_getElem (by simpa [intsA] using h1) fun i k1 k2 => ?_, fun z hz => ?_⟩
  · rw [(intOf_some (h2 i k1 (by omega))).1]; simp [intsA]
  · obtain ⟨i, hi, rfl⟩ := List.mem_iff_getElem.1 hz
    exact (intOf_some (h2 i (by omega) hi)).2
theorem intsOf_frz {s : AV} {xs : List Int} (h : intsOf s = some xs) (A : Arena) (n : Nat) : frz A n s = s := (intsOf_some h).1.frz n
theorem intsOf_noRef {s : AV} {xs : List Int} (h : intsOf s = some xs) (n : Nat) : noRefB n s = true := by
  rcases (intsOf_some h).1 with ⟨rfl, _⟩ | rfl <;> cases n <;> rfl

/-! ### isList -/
theorem intsOf_slA {xs : List Int} (hl : xs.length ≤ 9223372036854775807) (h : ∀ z ∈ xs, inI z) : intsOf (slA 1 (intsA xs)) = some xs := intsOf_of (slA_holds _ _) hl h

/-! ### has -/
theorem all_fresh (B : Arena) (n : Nat) (xs : List Int) : (intsA xs).all (freshB B n) = true := by
  unfold intsA
  rw [List.all_eq_true]
  intro x hx
  obtain ⟨z, _, rfl⟩ := List.mem_map.1 hx
  cases n <;> rfl
def Fz (A : Arena) (v r : AV) : Prop := ∀ T n, frz (A ++ T) (n + 1) v = r
theorem Fz.app {A : Arena} {v r : AV} (h : Fz A v r) (T : Arena) : Fz (A ++ T) v r := fun T' n => by rw [List.append_assoc]; exact h _ n
theorem Fz.here {A : Arena} {v r : AV} (h : Fz A v r) (n : Nat) : frz A (n + 1) v = r := by simpa using h [] n
theorem aA_app (A : Arena) (esz : Nat) (es : List AV) : ∃ T, aA A esz es = A ++ T := by
  match es with
  | [] => exact ⟨[], by simp [aA]⟩
  | [x] => exact ⟨_, rfl⟩
  | x :: y :: r => exact ⟨_, rfl⟩
theorem frz_intsA (A : Arena) (n : Nat) (xs : List Int) : (intsA xs).map (frz A n) = intsA xs := by
  unfold intsA; rw [List.map_map]; apply List.map_congr_left; intro x _; cases n <;> rfl
theorem Fz_oA (A : Arena) (xs : List Int) : Fz (aA A 1 (intsA xs)) (oA A (intsA xs)) (slA 1 (intsA xs)) := by
  intro T n
  match xs with
  | [] => rfl
  | [x] => cases n <;> simp [intsA, oA, aA, frz, slA]
  | x :: y :: r =>
    have hc : ∀ B, frz B n ∘ AV.int .i64 = AV.int .i64 := fun B => by funext z; cases n <;> rfl
    have hc1 : ∀ B z, frz B n (AV.int .i64 z) = AV.int .i64 z := fun B z => by cases n <;> rfl
    have e : (A ++ [Ent.row 1 true (AV.int .i64 x :: AV.int .i64 y :: r.map (AV.int .i64))] ++ T)[A.length]? = some (.row 1 true (AV.int .i64 x :: AV.int .i64 y :: r.map (AV.int .i64))) := by
      rw [List.append_assoc, List.getElem?_append_right (Nat.le_refl _)]; simp
    simp only [intsA, List.map_cons, aA, oA, slA, frz, e]
    simp [hc]
    exact List.take_of_length_le (by simp)

/-! ### the best set so far -/
theorem len_nilS : evLenSl .nilS = some (.int .i64 0) := rfl
theorem eql_00 : evBin .eql (.int .i64 0) (.int .i64 0) = some (.bool true) := rfl
theorem slice_to {es : List AV} {k : Nat} (A : Arena) (h : k ≤ es.length) : evSliceSl 1 A none (some (.int .i64 (k : Int))) (.fs 1 es) = some (.fs 1 (es.take k)) := by
  have e : evBounds es.length none (some (.int .i64 (k : Int))) = some (0, k) := by simp [evBounds, hiB, loB, h]
  simp only [evSliceSl, if_true, e, Option.map_some, List.drop_zero, Nat.sub_zero]
theorem slice_from {es : List AV} {k : Nat} (A : Arena) (h : k ≤ es.length) : evSliceSl 1 A (some (.int .i64 (k : Int))) none (.fs 1 es) = some (.fs 1 (es.drop k)) := by
  have e : evBounds es.length (some (.int .i64 (k : Int))) none = some (k, es.length) := by simp [evBounds, hiB, loB, h]
  simp only [evSliceSl, if_true, e, Option.map_some]
  rw [List.take_of_length_le (by simp)]
theorem pred_nat (i : Nat) (h : 0 < i) (h2 : i ≤ 1000) : evBin .sub (.int .i64 (i : Int)) (.int .i64 1) = some (.int .i64 ((i - 1 : Nat) : Int)) := by
  simp only [evBin]; rw [if_pos trivial, wrapI (by unfold inI; omega)]; congr 2; omega
theorem leq_false {a b : Int} (h : b < a) : evBin .leq (.int .i64 a) (.int .i64 b) = some (.bool false) := by
  simp only [evBin]; rw [if_pos trivial, decide_eq_false (by omega)]
theorem cut_ints {x : AV} {xs : List Int} (hx : SlA 1 (xs.map (.int .i64)) x) (n : Nat) : ∃ x', SlA 1 ((xs.take n).map (.int .i64)) x' ∧ ∀ A, evSliceSl 1 A none (some (.int .i64 ((min xs.length n : Nat) : Int))) x = some x' := by
  rcases hx with ⟨rfl, h⟩ | rfl
  · have : xs = [] := by simpa using h
    subst this
    exact ⟨.nilS, .inl ⟨rfl, by simp⟩, fun A => by simp [evSliceSl, evBounds, hiB, loB]⟩
  · refine ⟨.fs 1 ((xs.take n).map (.int .i64)), .inr rfl, fun A => ?_⟩
    rw [slice_to A (by simp; omega)]
    congr 2
    rw [List.map_take, List.take_eq_take_iff]
    simp; omega
theorem minL_nat (a b : Nat) : evMinL false (.int .i64 (a : Int)) [.int .i64 (b : Int)] = some (.int .i64 ((min a b : Nat) : Int)) := by
  have := min2_nat a b .i64 .i64
  simp only [evMinL]
  rw [this]
theorem bounds_nat {n i j : Nat} (h1 : i ≤ j) (h2 : j ≤ n) : evBounds n (some (.int .i64 (i : Int))) (some (.int .i64 (j : Int))) = some (i, j) := by
  simp [evBounds, hiB, loB, h1, h2]
theorem all_some {α : Type} {f : AV → Option α} : ∀ {es : List AV}, (∀ x ∈ es, ∃ y, f x = some y) → ∃ ys, allOf f es = some ys
  | [], _ => ⟨[], rfl⟩
  | x :: r, h => by
    obtain ⟨y, hy⟩ := h x (by simp)
    obtain ⟨ys, hys⟩ := all_some (es := r) fun z hz => h z (by simp [hz])
    exact ⟨y :: ys, by simp only [allOf, hy, hys]⟩
end Go.Proofs.Ytemklhljjaniaaa
/-
  Cycle: arcs as they are given; Valid, twice.
-/
namespace Go.Proofs.Ytemklhljjaniaaa
namespace Cy
open Go

def GC : Nat → Option (List AV) := fun _ => none

/-! ### arcs -/
structure CArc where
  f : Int
  t : Int
  w : Int
  k : Int
def arcA (a : CArc) : AV := .agg [.int .i64 a.f, .int .i64 a.t, .int .i64 a.w, .int .i64 a.k]
def CArc.inR (a : CArc) : Prop := inI a.f ∧ inI a.t ∧ inI a.w ∧ inI a.k
open Classical in
noncomputable def arcOf : AV → Option CArc
  | .agg [.int .i64 f, .int .i64 t, .int .i64 w, .int .i64 k] => if CArc.inR ⟨f, t, w, k⟩ then some ⟨f, t, w, k⟩ else none
  | _ => none
theorem arcOf_some {x : AV} {a : CArc} (h : arcOf x = some a) : x = arcA a ∧ a.inR := by
  unfold arcOf at h
  split at h
  · simp only [Option.ite_none_right_eq_some, Option.some.injEq] at h
    obtain ⟨h1, rfl⟩ := h
    exact ⟨rfl, h1⟩
  · cases h
theorem arcOf_eq {a : CArc} (h : a.inR) : arcOf (arcA a) = some a := if_pos h
/-- a slice, read -/
noncomputable def listN {α : Type} (s : Nat) (f : AV → Option α) : AV → Option (List α)
  | .nilS => some []
  | .fs s' es => if s' = s ∧ es.length ≤ 9223372036854775807 then allOf f es else none
  | _ => none
noncomputable def arcsOf (a : AV) : Option (List CArc) := listN 4 arcOf a
theorem arcsOf_some {a : AV} {l : List CArc} (h : arcsOf a = some l) : SlA 4 (l.map arcA) a ∧ l.length ≤ 9223372036854775807 ∧ ∀ x ∈ l, x.inR := by
  unfold arcsOf listN at h
  split at h
  · injection h with h; subst h
    exact ⟨.inl ⟨rfl, rfl⟩, by simp, by simp⟩
  · rename_i s' es
    simp only [Option.ite_none_right_eq_some] at h
    obtain ⟨⟨rfl, hl⟩, h⟩ := h
    obtain ⟨h1, h2⟩ := allOf_some h
    have e : es = l.map arcA := List.ext_getElem (by simpa using h1) fun i k1 k2 => by
      rw [(arcOf_some (h2 i k1 (by omega))).1]; simp
    subst e
    refine ⟨.inr rfl, by simpa using hl, fun x hx => ?_⟩
    obtain ⟨i, hi, rfl⟩ := List.mem_iff_getElem.1 hx
    have := h2 i (by simpa using hi) hi
    exact (arcOf_some this).2
  · cases h
theorem arcsOf_of {a : AV} {l : List CArc} (h : SlA 4 (l.map arcA) a) (hl : l.length ≤ 9223372036854775807) (hr : ∀ x ∈ l, x.inR) : arcsOf a = some l := by
  unfold arcsOf listN
  rcases h with ⟨rfl, h⟩ | rfl
  · have : l = [] := by simpa using h
    subst this; rfl
  · simp only [List.length_map]
    rw [if_pos ⟨trivial, hl⟩]
    exact allOf_map fun x hx => arcOf_eq (hr x hx)
section
variable {a : AV} {l : List CArc}
theorem arcsOf_len (h : arcsOf a = some l) : evLenSl a = some (.int .i64 (l.length : Int)) ∧ l.length ≤ 9223372036854775807 := by
  obtain ⟨h1, h2, _⟩ := arcsOf_some h
  have := h1.len
  simp only [List.length_map] at this
  exact ⟨this, h2⟩
theorem arcA_solid (x : CArc) : (arcA x).solid = true := rfl
theorem arcsOf_at (h : arcsOf a = some l) {i : Nat} (hi : i < l.length) : ∀ A k, evIndexSl 4 A a (.int k (i : Int)) = some (.fp [.int .i64 l[i].f, .int .i64 l[i].t, .int .i64 l[i].w, .int .i64 l[i].k]) := fun A k => by
  obtain ⟨h1, h2, _⟩ := arcsOf_some h
  have hx : (l.map arcA)[i]? = some (arcA l[i]) := by simp [hi]
  exact h1.index (A := A) hx rfl (by simp) k
theorem arcsOf_frz (h : arcsOf a = some l) (A : Arena) (n : Nat) : frz A n a = a := (arcsOf_some h).1.frz n
theorem arcsOf_noRef (h : arcsOf a = some l) (n : Nat) : noRefB n a = true := by
  rcases (arcsOf_some h).1 with ⟨rfl, _⟩ | rfl <;> cases n <;> rfl
end
theorem arcsOf_slA {l : List CArc} (hl : l.length ≤ 9223372036854775807) (h : ∀ x ∈ l, x.inR) : arcsOf (slA 4 (l.map arcA)) = some l := arcsOf_of (slA_holds _ _) hl h

/-! ### within -/
def M32 : PModel := fun args => match args with
  | [.int .i64 n, .int .i64 lo, .int .i64 hi] => some (.bool (decide (lo ≤ n ∧ n ≤ hi)))
  | _ => none
theorem M32_eq (n lo hi : Int) : M32 [.int .i64 n, .int .i64 lo, .int .i64 hi] = some (.bool (decide (lo ≤ n ∧ n ≤ hi))) := rfl
theorem within_b (n lo hi : Int) : decide (lo ≤ n ∧ n ≤ hi) = (decide (lo ≤ n) && decide (n ≤ hi)) := by
  rw [Bool.eq_iff_iff, decide_eq_true_eq, Bool.and_eq_true, decide_eq_true_eq, decide_eq_true_eq]
theorem spec32 : PureSpec Try.prog GC 60 M32 := by
  refine PureSpec.of_ev (E := envOf GC []) (envOf_sound lookM_nil) rfl at32 comp32 1 ?_
  intro args r h
  unfold M32 at h
  split at h
  · rename_i n lo hi
    injection h with h; subst h
    refine ⟨0, ?_⟩
    have b1 : evBin .geq (.int .i64 n) (.int .i64 lo) = some (.bool (decide (lo ≤ n))) := by simp [evBin]
    have b2 : evBin .leq (.int .i64 n) (.int .i64 hi) = some (.bool (decide (n ≤ hi))) := by simp [evBin]
    rw [within_b]
    obtain ⟨p, hp⟩ : ∃ p, p = decide (lo ≤ n) := ⟨_, rfl⟩
    obtain ⟨q, hq⟩ : ∃ q, q = decide (n ≤ hi) := ⟨_, rfl⟩
    rw [← hp] at b1 ⊢
    rw [← hq] at b2 ⊢
    rw [evP_run _ _ rfl]
    cases p <;> simp [mf32, b1, b2, -evBin]
  · cases h
theorem spec34 : PureSpec Try.prog GC 73 M32 := by
  refine PureSpec.of_ev (E := envOf GC []) (envOf_sound lookM_nil) rfl at34 comp34 1 ?_
  intro args r h
  unfold M32 at h
  split at h
  · rename_i n lo hi
    injection h with h; subst h
    refine ⟨0, ?_⟩
    have b1 : evBin .geq (.int .i64 n) (.int .i64 lo) = some (.bool (decide (lo ≤ n))) := by simp [evBin]
    have b2 : evBin .leq (.int .i64 n) (.int .i64 hi) = some (.bool (decide (n ≤ hi))) := by simp [evBin]
    rw [within_b]
    obtain ⟨p, hp⟩ : ∃ p, p = decide (lo ≤ n) := ⟨_, rfl⟩
    obtain ⟨q, hq⟩ : ∃ q, q = decide (n ≤ hi) := ⟨_, rfl⟩
    rw [← hp] at b1 ⊢
    rw [← hq] at b2 ⊢
    rw [evP_run _ _ rfl]
    cases p <;> simp [mf34, b1, b2, -evBin]
  · cases h
def isPer (p : Int) : Prop := -1000000 ≤ p ∧ p ≤ 1000000
instance (p : Int) : Decidable (isPer p) := inferInstanceAs (Decidable (_ ∧ _))
def M41 : PModel := fun args => match args with
  | [.int .i64 p] => some (.bool (decide (isPer p)))
  | _ => none
def fsW : List (FuncId × HModel) := [(60, pureH 4 M32), (73, pureH 4 M32)]
@[simp] theorem fsW_32 : lookM fsW 60 = some (pureH 4 M32) := rfl
@[simp] theorem fsW_34 : lookM fsW 73 = some (pureH 4 M32) := rfl
theorem soundW : ∀ f M, lookM fsW f = some M → FnSpecY Try.prog GC f M := lookM_cons (FnSpecY.of_pure spec32 4) (lookM_cons (FnSpecY.of_pure spec34 4) lookM_nil)
theorem spec41 : PureSpec Try.prog GC 54 M41 := by
  refine PureSpec.of_ev (E := envOf GC fsW) (envOf_sound soundW) rfl at41 comp41 1 ?_
  intro args r h
  unfold M41 at h
  split at h
  · rename_i p
    injection h with h; subst h
    refine ⟨0, ?_⟩
    have m := M32_eq p (-1000000) 1000000
    rw [show decide (-1000000 ≤ p ∧ p ≤ 1000000) = decide (isPer p) from rfl] at m
    rw [evP_run _ _ rfl]
    simp [mf41, m]
  · cases h

/-! ### an arc is valid -/
def okA (n : Int) (a : CArc) : Prop := (0 ≤ a.f ∧ a.f ≤ n - 1) ∧ (0 ≤ a.t ∧ a.t ≤ n - 1) ∧ (-1000000 ≤ a.w ∧ a.w ≤ 1000000) ∧ (-2 ≤ a.k ∧ a.k ≤ 2)
instance (n : Int) (a : CArc) : Decidable (okA n a) := inferInstanceAs (Decidable (_ ∧ _))
def wrongA (n : Int) (a : CArc) : Bool := !decide (okA n a)
theorem wrongA_b (n : Int) (a : CArc) : wrongA n a = (!decide (0 ≤ a.f ∧ a.f ≤ n - 1) || !decide (0 ≤ a.t ∧ a.t ≤ n - 1) || !decide (-1000000 ≤ a.w ∧ a.w ≤ 1000000) || !decide (-2 ≤ a.k ∧ a.k ≤ 2)) := by
  unfold wrongA okA
  by_cases h1 : 0 ≤ a.f ∧ a.f ≤ n - 1 <;> by_cases h2 : 0 ≤ a.t ∧ a.t ≤ n - 1 <;> by_cases h3 : -1000000 ≤ a.w ∧ a.w ≤ 1000000 <;> by_cases h4 : -2 ≤ a.k ∧ a.k ≤ 2 <;> simp [h1, h2, h3, h4]
def M31 : PModel := fun args => match args with
  | [.agg [.int .i64 f, .int .i64 t, .int .i64 w, .int .i64 k], .fp [.int .i64 n]] => if 1 ≤ n ∧ n ≤ 32 then some (.bool (wrongA n ⟨f, t, w, k⟩)) else none
  | _ => none
set_option maxRecDepth 100000 in
theorem spec31 : PureSpec Try.prog GC 80 M31 := by
  refine PureSpec.of_ev (E := envOf GC fsW) (envOf_sound soundW) rfl at31 comp31 1 ?_
  intro args r h
  unfold M31 at h
  split at h
  · rename_i f t w k n
    simp only [Option.ite_none_right_eq_some, Option.some.injEq] at h
    obtain ⟨hn, rfl⟩ := h
    refine ⟨0, ?_⟩
    rw [wrongA_b]
    have m1 := M32_eq f 0 (n - 1)
    have m2 := M32_eq t 0 (n - 1)
    have m3 := M32_eq w (-1000000) 1000000
    have m4 := M32_eq k (-2) 2
    have b : evBin .sub (.int .i64 n) (.int .i64 1) = some (.int .i64 (n - 1)) := by
      simp only [evBin]; rw [if_pos trivial, wrapI (by unfold inI; omega)]
    simp only
    obtain ⟨p1, hp1⟩ : ∃ p, p = decide (0 ≤ f ∧ f ≤ n - 1) := ⟨_, rfl⟩
    obtain ⟨p2, hp2⟩ : ∃ p, p = decide (0 ≤ t ∧ t ≤ n - 1) := ⟨_, rfl⟩
    obtain ⟨p3, hp3⟩ : ∃ p, p = decide (-1000000 ≤ w ∧ w ≤ 1000000) := ⟨_, rfl⟩
    obtain ⟨p4, hp4⟩ : ∃ p, p = decide (-2 ≤ k ∧ k ≤ 2) := ⟨_, rfl⟩
    rw [← hp1] at m1 ⊢
    rw [← hp2] at m2 ⊢
    rw [← hp3] at m3 ⊢
    rw [← hp4] at m4 ⊢
    obtain ⟨n1, hn1⟩ : ∃ n1, n1 = n - 1 := ⟨_, rfl⟩
    rw [← hn1] at b m1 m2
    rw [evP_run _ _ rfl]
    cases p1
    · simp [mf31, b, m1, -evBin]
    · cases p2
      · simp [mf31, b, m1, m2, -evBin]
      · cases p3
        · simp [mf31, b, m1, m2, m3, -evBin]
        · simp [mf31, b, m1, m2, m3, m4, -evBin]
  · cases h
end Cy
end Go.Proofs.Ytemklhljjaniaaa
/-
  Cycle: Valid, twice; ready; Length; SameInts; numbers drawn.
-/
namespace Go.Proofs.Ytemklhljjaniaaa
namespace Cy
open Go

/-! ### IndexFunc, ContainsFunc of arcs -/
def fn31 (n : Int) : AV := .func (.func 80) [] [.fp [.int .i64 n]]
def fs44 : List (FuncId × HModel) := [(80, pureH 4 M31)]
@[simp] theorem fs44_31 : lookM fs44 80 = some (pureH 4 M31) := rfl
theorem sound44 : ∀ f M, lookM fs44 f = some M → FnSpecY Try.prog GC f M := lookM_cons (FnSpecY.of_pure spec31 4) lookM_nil
def idxZ {α : Type} (p : α → Bool) (l : List α) : Int := match l.findIdx? p with
  | some i => i
  | none => -1
theorem idxZ_some {α : Type} {p : α → Bool} {l : List α} {i : Nat} (hi : i < l.length) (h1 : p l[i] = true) (h2 : ∀ j (hj : j < i), p (l[j]'(by omega)) = false) : idxZ p l = (i : Int) := by
  have : l.findIdx? p = some i := List.findIdx?_eq_some_iff_getElem.2 ⟨hi, h1, fun j hj => by simpa using h2 j hj⟩
  unfold idxZ; rw [this]
theorem idxZ_none {α : Type} {p : α → Bool} {l : List α} (h : ∀ i (hi : i < l.length), p l[i] = false) : idxZ p l = -1 := by
  have : l.findIdx? p = none := by
    rw [List.findIdx?_eq_none_iff]
    intro x hx
    obtain ⟨i, hi, rfl⟩ := List.mem_iff_getElem.1 hx
    exact h i hi
  unfold idxZ; rw [this]
theorem idxZ_any {α : Type} (p : α → Bool) (l : List α) : decide (0 ≤ idxZ p l) = l.any p := by
  unfold idxZ
  cases h : l.findIdx? p with
  | some i =>
    obtain ⟨hi, h1, _⟩ := List.findIdx?_eq_some_iff_getElem.1 h
    show decide (0 ≤ (i : Int)) = _
    rw [decide_eq_true (by omega), eq_comm, List.any_eq_true]
    exact ⟨_, List.getElem_mem hi, h1⟩
  | none =>
    rw [List.findIdx?_eq_none_iff] at h
    show decide (0 ≤ (-1 : Int)) = _
    rw [decide_eq_false (by omega), eq_comm, List.any_eq_false]
    intro x hx; rw [h x hx]; simp

set_option maxRecDepth 100000 in
theorem ev44 {a : AV} {l : List CArc} (ha : arcsOf a = some l) {n : Int} (hn : 1 ≤ n ∧ n ≤ 32) : evP (envOf GC fs44) (l.length + 1) mf44 1 [a, fn31 n] = some (.int .i64 (idxZ (wrongA n) l)) := by
  obtain ⟨hl, hm⟩ := arcsOf_len ha
  have round : ∀ (A : Arena) (i : Nat) (hi : i < l.length), run (envOf GC fs44) (l.length + 1) [.code lp44x0] (st44x0 a (fn31 n) (.int .i64 (l.length : Int)) (.int .i64 (i : Int))) A =
      if wrongA n l[i] = false then some (.normal (st44x0 a (fn31 n) (.int .i64 (l.length : Int)) (.int .i64 ((i + 1 : Nat) : Int))) A) else some (.ret [a, fn31 n, .int .i64 (i : Int), .int .i64 (i : Int), .int .i64 (l.length : Int), .int .i64 (i : Int), .bool true, .bool true] A) := fun A i hi => by
    have x1 := arcsOf_at ha hi A .i64
    have m : M31 [.agg [.int .i64 l[i].f, .int .i64 l[i].t, .int .i64 l[i].w, .int .i64 l[i].k], .fp [.int .i64 n]] = some (.bool (wrongA n l[i])) := if_pos hn
    have b1 := lt_nat i l.length .i64
    rw [decide_eq_true hi] at b1
    have b3 := add1_nat i (by omega)
    obtain ⟨i1, hi1⟩ : ∃ i1 : Nat, i1 = i + 1 := ⟨_, rfl⟩
    rw [← hi1] at b3 ⊢
    obtain ⟨d, hd⟩ : ∃ d, d = wrongA n l[i] := ⟨_, rfl⟩
    rw [← hd] at m ⊢
    cases d with
    | false => simp [lp44x0, fn31, x1, m, frz, b1, b3, -evBin, -evIndexSl, -evLenSl]
    | true => simp [lp44x0, fn31, x1, m, frz, b1, -evBin, -evIndexSl, -evLenSl]
  rw [evP_run _ _ rfl]
  rcases iter_search (E := envOf GC fs44) (fuel := l.length + 1) (a := lp44x0) (mask := mask44x0) (fun i => st44x0 a (fn31 n) (.int .i64 (l.length : Int)) (.int .i64 (i : Int))) (fun _ => []) l.length (fun i => ¬ ∀ hi : i < l.length, wrongA n l[i] = false)
    (oF := fun i => .ret [a, fn31 n, .int .i64 (i : Int), .int .i64 (i : Int), .int .i64 (l.length : Int), .int .i64 (i : Int), .bool true, .bool true] []) (oE := .exit 0 ((st44x0 a (fn31 n) (.int .i64 (l.length : Int)) (.int .i64 (l.length : Int))).set 6 (.bool false)) [])
    (fun _ => cl44x0) (fun _ _ _ h => by cases h) (fun _ _ h => by cases h)
    (fun i hi hp => by
      rw [round [] i hi]
      exact if_pos (Classical.not_not.1 hp hi))
    (fun i hi hp => by
      rw [round [] i hi]
      exact if_neg fun h => hp fun _ => h)
    (by simp [lp44x0]) (Nat.lt_succ_self _) with ⟨i, hi, hp, hj, lp⟩ | ⟨hp, lp⟩
  · have lp : iter (evC (envOf GC fs44) (l.length + 1) lp44x0) mask44x0 (l.length + 1) (st44x0 a (fn31 n) (.int .i64 (l.length : Int)) (.int .i64 0)) [] = _ := lp
    have e : idxZ (wrongA n) l = (i : Int) := idxZ_some hi (by
      cases h : wrongA n l[i] with
      | true => rfl
      | false => exact absurd (fun _ => h) hp) (fun j hj' => Classical.not_not.1 (hj j hj') (by omega))
    rw [e]
    simp [mf44, hl, go44x0 lp, -evBin, -evLenSl]
  · have lp : iter (evC (envOf GC fs44) (l.length + 1) lp44x0) mask44x0 (l.length + 1) (st44x0 a (fn31 n) (.int .i64 (l.length : Int)) (.int .i64 0)) [] = _ := lp
    have e : idxZ (wrongA n) l = -1 := idxZ_none fun i hi => Classical.not_not.1 (hp i hi) hi
    rw [e]
    simp [mf44, hl, go44x0 lp, -evBin, -evLenSl]
noncomputable def M44 : PModel := fun args => match args with
  | [a, .func (.func 80) [] [.fp [.int .i64 n]]] => if 1 ≤ n ∧ n ≤ 32 then (arcsOf a).map fun l => .int .i64 (idxZ (wrongA n) l) else none
  | _ => none
theorem spec44 : PureSpec Try.prog GC 87 M44 := by
  refine PureSpec.of_ev (E := envOf GC fs44) (envOf_sound sound44) rfl at44 comp44 1 ?_
  intro args r h
  unfold M44 at h
  split at h
  · simp only [Option.ite_none_right_eq_some, Option.map_eq_some_iff] at h
    obtain ⟨hn, l, hl, rfl⟩ := h
    exact ⟨_, ev44 hl hn⟩
  · cases h
noncomputable def M33 : PModel := fun args => match args with
  | [a, .func (.func 80) [] [.fp [.int .i64 n]]] => if 1 ≤ n ∧ n ≤ 32 then (arcsOf a).map fun l => .bool (l.any (wrongA n)) else none
  | _ => none
noncomputable def fs33 : List (FuncId × HModel) := [(87, pureH 4 M44)]
@[simp] theorem fs33_44 : lookM fs33 87 = some (pureH 4 M44) := rfl
theorem sound33 : ∀ f M, lookM fs33 f = some M → FnSpecY Try.prog GC f M := lookM_cons (FnSpecY.of_pure spec44 4) lookM_nil
theorem geq0 (z : Int) : evBin .geq (.int .i64 z) (.int .i64 0) = some (.bool (decide (0 ≤ z))) := by simp [evBin]
theorem spec33 : PureSpec Try.prog GC 81 M33 := by
  refine PureSpec.of_ev (E := envOf GC fs33) (envOf_sound sound33) rfl at33 comp33 1 ?_
  intro args r h
  unfold M33 at h
  split at h
  · rename_i a n
    simp only [Option.ite_none_right_eq_some, Option.map_eq_some_iff] at h
    obtain ⟨hn, l, hl, rfl⟩ := h
    refine ⟨0, ?_⟩
    have m : M44 [a, .func (.func 80) [] [.fp [.int .i64 n]]] = some (.int .i64 (idxZ (wrongA n) l)) := by
      simp only [M44, hl, Option.map_some]; exact if_pos hn
    have b := geq0 (idxZ (wrongA n) l)
    rw [idxZ_any] at b
    have f1 := arcsOf_frz hl
    have f2 := arcsOf_noRef hl
    obtain ⟨z, hz⟩ : ∃ z, z = idxZ (wrongA n) l := ⟨_, rfl⟩
    rw [← hz] at m b
    rw [evP_run _ _ rfl]
    simp [mf33, m, b, f1, f2, frz, -evBin]
  · cases h

/-! ### Valid -/
def ValidA (n : Int) (l : List CArc) : Prop := (1 ≤ n ∧ n ≤ 32) ∧ l.length ≤ 200 ∧ ∀ a ∈ l, okA n a
theorem any_wrong (n : Int) (l : List CArc) : l.any (wrongA n) = false ↔ ∀ a ∈ l, okA n a := by
  rw [List.any_eq_false]
  unfold wrongA
  simp
open Classical in
noncomputable def M16 : PModel := fun args => match args with
  | [.int .i64 n, a] => (arcsOf a).map fun l => .bool (decide (ValidA n l))
  | _ => none
noncomputable def fs16 : List (FuncId × HModel) := [(60, pureH 4 M32), (81, pureH 4 M33), (73, pureH 4 M32)]
@[simp] theorem fs16_32 : lookM fs16 60 = some (pureH 4 M32) := rfl
@[simp] theorem fs16_33 : lookM fs16 81 = some (pureH 4 M33) := rfl
@[simp] theorem fs16_34 : lookM fs16 73 = some (pureH 4 M32) := rfl
theorem sound16 : ∀ f M, lookM fs16 f = some M → FnSpecY Try.prog GC f M := lookM_cons (FnSpecY.of_pure spec32 4) (lookM_cons (FnSpecY.of_pure spec33 4) (lookM_cons (FnSpecY.of_pure spec34 4) lookM_nil))
open Classical in
set_option maxRecDepth 100000 in
theorem spec16 : PureSpec Try.prog GC 74 M16 := by
  refine PureSpec.of_ev (E := envOf GC fs16) (envOf_sound sound16) rfl at16 comp16 1 ?_
  intro args r h
  unfold M16 at h
  split at h
  · rename_i n a
    simp only [Option.map_eq_some_iff] at h
    obtain ⟨l, hl, rfl⟩ := h
    refine ⟨0, ?_⟩
    have m1 := M32_eq n 1 32
    have hlen := (arcsOf_len hl).1
    have f1 := arcsOf_frz hl
    have f2 := arcsOf_noRef hl
    have b1 : evBin .leq (.int .i64 (l.length : Int)) (.int .i64 200) = some (.bool (decide (l.length ≤ 200))) := by simp [evBin]; omega
    rw [evP_run _ _ rfl]
    by_cases h1 : 1 ≤ n ∧ n ≤ 32
    rotate_left
    · rw [decide_eq_false h1] at m1
      rw [decide_eq_false (show ¬ ValidA n l from fun h => h1 h.1)]
      simp [mf16, m1, -evBin, -evLenSl]
    rw [decide_eq_true h1] at m1
    by_cases h2 : l.length ≤ 200
    rotate_left
    · rw [decide_eq_false h2] at b1
      rw [decide_eq_false (show ¬ ValidA n l from fun h => h2 h.2.1)]
      simp [mf16, m1, hlen, b1, -evBin, -evLenSl]
    rw [decide_eq_true h2] at b1
    have m2 : M33 [a, .func (.func 80) [] [.fp [.int .i64 n]]] = some (.bool (l.any (wrongA n))) := by
      simp only [M33, hl, Option.map_some]; exact if_pos h1
    have e : decide (ValidA n l) = !(l.any (wrongA n)) := by
      rw [Bool.eq_iff_iff, decide_eq_true_eq, Bool.not_eq_true', any_wrong]
      exact ⟨fun h => h.2.2, fun h => ⟨h1, h2, h⟩⟩
    rw [e]
    obtain ⟨d, hd⟩ : ∃ d, d = l.any (wrongA n) := ⟨_, rfl⟩
    rw [← hd] at m2 ⊢
    simp [mf16, m1, m2, hlen, b1, f1, f2, frz, -evBin, -evLenSl]
  · cases h

/-! ### the reference's -/
set_option maxRecDepth 100000 in
theorem round17 (fuel : Nat) (A : Arena) {a : AV} {l : List CArc} (ha : arcsOf a = some l) {n : Int} (hn : 1 ≤ n ∧ n ≤ 32) {i : Nat} (hi : i < l.length) :
    run (envOf GC fsW) fuel [.code lp17x0] (st17x0 (.int .i64 n) a (.int .i64 (i : Int))) A =
      if wrongA n l[i] = false then some (.normal (st17x0 (.int .i64 n) a (.int .i64 ((i + 1 : Nat) : Int))) A) else some (.ret [.int .i64 n, a, .bool false, .int .i64 (i : Int), .undef, .bool true, .bool true] A) := by
  obtain ⟨hl, hm⟩ := arcsOf_len ha
  have x1 := arcsOf_at ha hi A .i64
  rw [wrongA_b]
  have m1 := M32_eq l[i].f 0 (n - 1)
  have m2 := M32_eq l[i].t 0 (n - 1)
  have m3 := M32_eq l[i].w (-1000000) 1000000
  have m4 := M32_eq l[i].k (-2) 2
  have b : evBin .sub (.int .i64 n) (.int .i64 1) = some (.int .i64 (n - 1)) := by
    simp only [evBin]; rw [if_pos trivial, wrapI (by unfold inI; omega)]
  have b1 := lt_nat i l.length .i64
  rw [decide_eq_true hi] at b1
  have b3 := add1_nat i (by omega)
  obtain ⟨i1, hi1⟩ : ∃ i1 : Nat, i1 = i + 1 := ⟨_, rfl⟩
  rw [← hi1] at b3 ⊢
  obtain ⟨p1, hp1⟩ : ∃ p, p = decide (0 ≤ l[i].f ∧ l[i].f ≤ n - 1) := ⟨_, rfl⟩
  obtain ⟨p2, hp2⟩ : ∃ p, p = decide (0 ≤ l[i].t ∧ l[i].t ≤ n - 1) := ⟨_, rfl⟩
  obtain ⟨p3, hp3⟩ : ∃ p, p = decide (-1000000 ≤ l[i].w ∧ l[i].w ≤ 1000000) := ⟨_, rfl⟩
  obtain ⟨p4, hp4⟩ : ∃ p, p = decide (-2 ≤ l[i].k ∧ l[i].k ≤ 2) := ⟨_, rfl⟩
  rw [← hp1] at m1 ⊢
  rw [← hp2] at m2 ⊢
  rw [← hp3] at m3 ⊢
  rw [← hp4] at m4 ⊢
  obtain ⟨n1, hn1⟩ : ∃ n1, n1 = n - 1 := ⟨_, rfl⟩
  rw [← hn1] at b m1 m2
  cases p1
  · simp [lp17x0, hl, x1, b, b1, m1, -evBin, -evIndexSl, -evLenSl]
  · cases p2
    · simp [lp17x0, hl, x1, b, b1, m1, m2, -evBin, -evIndexSl, -evLenSl]
    · cases p3
      · simp [lp17x0, hl, x1, b, b1, m1, m2, m3, -evBin, -evIndexSl, -evLenSl]
      · cases p4
        · simp [lp17x0, hl, x1, b, b1, m1, m2, m3, m4, -evBin, -evIndexSl, -evLenSl]
        · simp [lp17x0, hl, x1, b, b1, b3, m1, m2, m3, m4, -evBin, -evIndexSl, -evLenSl]
open Classical in
set_option maxRecDepth 100000 in
theorem ev17 {a : AV} {l : List CArc} (ha : arcsOf a = some l) (n : Int) : evP (envOf GC fsW) (l.length + 1) mf17 1 [.int .i64 n, a] = some (.bool (decide (ValidA n l))) := by
  obtain ⟨hl, hm⟩ := arcsOf_len ha
  have m1 := M32_eq n 1 32
  have b1 : evBin .gtr (.int .i64 (l.length : Int)) (.int .i64 200) = some (.bool (decide (200 < l.length))) := by simp [evBin]; omega
  rw [evP_run _ _ rfl]
  by_cases h1 : 1 ≤ n ∧ n ≤ 32
  rotate_left
  · rw [decide_eq_false h1] at m1
    rw [decide_eq_false (show ¬ ValidA n l from fun h => h1 h.1)]
    simp [mf17, m1, -evBin, -evLenSl]
  rw [decide_eq_true h1] at m1
  by_cases h2 : 200 < l.length
  · rw [decide_eq_true h2] at b1
    rw [decide_eq_false (show ¬ ValidA n l from fun h => by have := h.2.1; omega)]
    simp [mf17, m1, hl, b1, -evBin, -evLenSl]
  rw [decide_eq_false h2] at b1
  rcases iter_search (E := envOf GC fsW) (fuel := l.length + 1) (a := lp17x0) (mask := mask17x0) (fun i => st17x0 (.int .i64 n) a (.int .i64 (i : Int))) (fun _ => []) l.length (fun i => ¬ ∀ hi : i < l.length, wrongA n l[i] = false)
    (oF := fun i => .ret [.int .i64 n, a, .bool false, .int .i64 (i : Int), .undef, .bool true, .bool true] []) (oE := .exit 0 ((st17x0 (.int .i64 n) a (.int .i64 (l.length : Int))).set 5 (.bool false)) [])
    (fun _ => cl17x0) (fun _ _ _ h => by cases h) (fun _ _ h => by cases h)
    (fun i hi hp => by
      rw [round17 _ [] ha h1 hi]
      exact if_pos (Classical.not_not.1 hp hi))
    (fun i hi hp => by
      rw [round17 _ [] ha h1 hi]
      exact if_neg fun h => hp fun _ => h)
    (by simp [lp17x0, hl, -evLenSl]) (Nat.lt_succ_self _) with ⟨i, hi, hp, hj, lp⟩ | ⟨hp, lp⟩
  · have lp : iter (evC (envOf GC fsW) (l.length + 1) lp17x0) mask17x0 (l.length + 1) (st17x0 (.int .i64 n) a (.int .i64 0)) [] = _ := lp
    rw [decide_eq_false (show ¬ ValidA n l from fun h => hp fun _ => by
      have := h.2.2 _ (List.getElem_mem hi)
      simp [wrongA, this])]
    simp [mf17, m1, hl, b1, go17x0 lp, -evBin, -evLenSl]
  · have lp : iter (evC (envOf GC fsW) (l.length + 1) lp17x0) mask17x0 (l.length + 1) (st17x0 (.int .i64 n) a (.int .i64 0)) [] = _ := lp
    rw [decide_eq_true (show ValidA n l from ⟨h1, by omega, fun x hx => by
      obtain ⟨i, hi, rfl⟩ := List.mem_iff_getElem.1 hx
      have := Classical.not_not.1 (hp i hi) hi
      simpa [wrongA] using this⟩)]
    simp [mf17, m1, hl, b1, go17x0 lp, -evBin, -evLenSl]
theorem spec17 : PureSpec Try.prog GC 79 M16 := by
  refine PureSpec.of_ev (E := envOf GC fsW) (envOf_sound soundW) rfl at17 comp17 1 ?_
  intro args r h
  unfold M16 at h
  split at h
  · simp only [Option.map_eq_some_iff] at h
    obtain ⟨l, hl, rfl⟩ := h
    exact ⟨_, ev17 hl _⟩
  · cases h
def Ready (n : Int) (l : List CArc) (p : Int) : Prop := ValidA n l ∧ isPer p
open Classical in
noncomputable def M28 : PModel := fun args => match args with
  | [.int .i64 n, a, .int .i64 p] => (arcsOf a).map fun l => .bool (decide (Ready n l p))
  | _ => none
noncomputable def fs28 : List (FuncId × HModel) := [(79, pureH 4 M16), (73, pureH 4 M32)]
@[simp] theorem fs28_17 : lookM fs28 79 = some (pureH 4 M16) := rfl
@[simp] theorem fs28_34 : lookM fs28 73 = some (pureH 4 M32) := rfl
theorem sound28 : ∀ f M, lookM fs28 f = some M → FnSpecY Try.prog GC f M := lookM_cons (FnSpecY.of_pure spec17 4) (lookM_cons (FnSpecY.of_pure spec34 4) lookM_nil)
open Classical in
theorem spec28 : PureSpec Try.prog GC 69 M28 := by
  refine PureSpec.of_ev (E := envOf GC fs28) (envOf_sound sound28) rfl at28 comp28 1 ?_
  intro args r h
  unfold M28 at h
  split at h
  · rename_i n a p
    simp only [Option.map_eq_some_iff] at h
    obtain ⟨l, hl, rfl⟩ := h
    refine ⟨0, ?_⟩
    have m1 : M16 [.int .i64 n, a] = some (.bool (decide (ValidA n l))) := by simp only [M16, hl, Option.map_some]
    have m2 := M32_eq p (-1000000) 1000000
    have f1 := arcsOf_frz hl
    have f2 := arcsOf_noRef hl
    have e : decide (Ready n l p) = (decide (ValidA n l) && decide (-1000000 ≤ p ∧ p ≤ 1000000)) := by
      rw [Bool.eq_iff_iff, decide_eq_true_eq, Bool.and_eq_true, decide_eq_true_eq, decide_eq_true_eq]; exact Iff.rfl
    rw [e]
    obtain ⟨x, hx⟩ : ∃ x, x = decide (ValidA n l) := ⟨_, rfl⟩
    obtain ⟨y, hy⟩ : ∃ y, y = decide (-1000000 ≤ p ∧ p ≤ 1000000) := ⟨_, rfl⟩
    rw [← hx] at m1 ⊢
    rw [← hy] at m2 ⊢
    rw [evP_run _ _ rfl]
    cases x <;> simp [mf28, m1, m2, f1, f2]
  · cases h

/-! ### Length -/
def CArc.len (a : CArc) (p : Int) : Int := a.w - p * a.k
theorem len_in {n p : Int} {a : CArc} (h : okA n a) (hp : isPer p) : -3000000 ≤ a.len p ∧ a.len p ≤ 3000000 ∧ -2000000 ≤ p * a.k ∧ p * a.k ≤ 2000000 := by
  obtain ⟨_, _, h3, h4⟩ := h
  unfold isPer at hp
  unfold CArc.len
  have h5 : a.k = -2 ∨ a.k = -1 ∨ a.k = 0 ∨ a.k = 1 ∨ a.k = 2 := by omega
  rcases h5 with h | h | h | h | h <;> rw [h] <;> omega
def M39 : PModel := fun args => match args with
  | [.agg [.int .i64 f, .int .i64 t, .int .i64 w, .int .i64 k], .int .i64 p] => if okA 32 ⟨f, t, w, k⟩ ∧ isPer p then some (.int .i64 (CArc.len ⟨f, t, w, k⟩ p)) else none
  | _ => none
theorem spec39 : PureSpec Try.prog GC 70 M39 := by
  refine PureSpec.of_ev (E := envOf GC []) (envOf_sound lookM_nil) rfl at39 comp39 1 ?_
  intro args r h
  unfold M39 at h
  split at h
  · rename_i f t w k p
    simp only [Option.ite_none_right_eq_some, Option.some.injEq] at h
    obtain ⟨⟨h1, h2⟩, rfl⟩ := h
    refine ⟨0, ?_⟩
    obtain ⟨k1, k2, k3, k4⟩ := len_in h1 h2
    have b1 : evBin .mul (.int .i64 p) (.int .i64 k) = some (.int .i64 (p * k)) := by
      simp only [evBin]; rw [if_pos trivial, wrapI (by simp only at k3 k4; unfold inI; omega)]
    have b2 : evBin .sub (.int .i64 w) (.int .i64 (p * k)) = some (.int .i64 (CArc.len ⟨f, t, w, k⟩ p)) := by
      simp only [evBin]; rw [if_pos trivial, wrapI (by simp only [CArc.len] at k1 k2; unfold inI; omega)]; rfl
    obtain ⟨pk, hpk⟩ : ∃ pk, pk = p * k := ⟨_, rfl⟩
    rw [← hpk] at b1 b2
    rw [evP_run _ _ rfl]
    simp [mf39, b1, b2, -evBin]
  · cases h
end Cy
end Go.Proofs.Ytemklhljjaniaaa
/-
  Cycle: SameInts; numbers drawn.
-/
namespace Go.Proofs.Ytemklhljjaniaaa
namespace Cy
open Go

set_option maxRecDepth 100000 in
theorem round18 (E : Env) (fuel : Nat) (A : Arena) {a b : AV} {xs ys : List Int} (ha : SlA 1 (intsA xs) a) (hb : SlA 1 (intsA ys) b) (hm : xs.length ≤ 9223372036854775807) {i : Nat} (hi : i < xs.length) (hj : i < ys.length) :
    run E fuel [.code lp18x0] (st18x0 a b (.int .i64 (i : Int))) A =
      if xs[i] = ys[i] then some (.normal (st18x0 a b (.int .i64 ((i + 1 : Nat) : Int))) A) else some (.ret (((st18x0 a b (.int .i64 (i : Int))).set 5 (.bool true)).set 6 (.bool true) |>.set 2 (.bool false)) A) := by
  have hl := ha.len
  simp only [intsA, List.length_map] at hl
  have x1 := ha.int (A := A) _ _ (List.getElem?_eq_getElem hi) .i64
  have x2 := hb.int (A := A) _ _ (List.getElem?_eq_getElem hj) .i64
  have b1 : evBin .lss (.int .i64 (i : Int)) (.int .i64 (xs.length : Int)) = some (.bool true) := by simp [evBin]; omega
  have b2 : evBin .neq (.int .i64 xs[i]) (.int .i64 ys[i]) = some (.bool (decide (xs[i] ≠ ys[i]))) := by simp [evBin]
  have b3 := add1_nat i (by omega)
  obtain ⟨i1, hi1⟩ : ∃ i1 : Nat, i1 = i + 1 := ⟨_, rfl⟩
  rw [← hi1] at b3 ⊢
  by_cases h : xs[i] = ys[i]
  · rw [if_pos h]
    rw [decide_eq_false (not_not_intro h)] at b2
    simp [lp18x0, hl, x1, x2, b1, b2, b3, -evBin, -evIndexSl, -evLenSl]
  · rw [if_neg h]
    rw [decide_eq_true h] at b2
    simp [lp18x0, hl, x1, x2, b1, b2, -evBin, -evIndexSl, -evLenSl]

set_option maxRecDepth 100000 in
theorem ev18 (E : Env) {a b : AV} {xs ys : List Int} (ha : SlA 1 (intsA xs) a) (hb : SlA 1 (intsA ys) b) (hm : xs.length ≤ 9223372036854775807) : evP E (xs.length + 1) mf18 1 [a, b] = some (.bool (decide (xs = ys))) := by
  have hl := ha.len
  have hl2 := hb.len
  simp only [intsA, List.length_map] at hl hl2
  rw [evP_run _ _ rfl]
  by_cases he : xs.length = ys.length
  · have b0 : evBin .neq (.int .i64 (xs.length : Int)) (.int .i64 (ys.length : Int)) = some (.bool false) := by simp [evBin]; omega
    by_cases hd : ∃ i, ∃ h : i < xs.length, xs[i] ≠ ys[i]'(by omega)
    · obtain ⟨n, ⟨hn, hne⟩, hmin⟩ := least hd
      have lp : iter (evC E (xs.length + 1) lp18x0) mask18x0 (xs.length + 1) (st18x0 a b (.int .i64 0)) [] = some (.ret (((st18x0 a b (.int .i64 (n : Int))).set 5 (.bool true)).set 6 (.bool true) |>.set 2 (.bool false)) []) := by
        refine iter_up (fun i => st18x0 a b (.int .i64 (i : Int))) (fun _ => []) n (fun _ => cl18x0) (fun _ _ h => by cases h) (fun i hi => ?_) ?_ (by omega)
        · rw [round18 E _ [] ha hb hm (by omega) (by omega)]
          exact if_pos (Classical.not_not.1 fun h => hmin i hi ⟨by omega, h⟩)
        · rw [round18 E _ [] ha hb hm hn (by omega)]
          exact if_neg hne
      have hx : xs ≠ ys := fun h => hne (by subst h; rfl)
      simp [mf18, hl, hl2, b0, go18x0 lp, hx, -evBin, -evLenSl]
    · have lp : iter (evC E (xs.length + 1) lp18x0) mask18x0 (xs.length + 1) (st18x0 a b (.int .i64 0)) [] = some (.exit 0 ((st18x0 a b (.int .i64 (xs.length : Int))).set 5 (.bool false)) []) := by
        refine iter_up (fun i => st18x0 a b (.int .i64 (i : Int))) (fun _ => []) xs.length (fun _ => cl18x0) (fun _ _ h => by cases h) (fun i hi => ?_) ?_ (by omega)
        · rw [round18 E _ [] ha hb hm (by omega) (by omega)]
          exact if_pos (Classical.not_not.1 fun h => hd ⟨i, by omega, h⟩)
        · simp [lp18x0, hl, -evLenSl]
      have hx : xs = ys := List.ext_getElem he fun i h1 h2 => Classical.not_not.1 fun h => hd ⟨i, h1, h⟩
      rw [decide_eq_true hx]
      simp [mf18, hl, hl2, b0, go18x0 lp, -evBin, -evLenSl]
  · have b0 : evBin .neq (.int .i64 (xs.length : Int)) (.int .i64 (ys.length : Int)) = some (.bool true) := by simp [evBin]; omega
    have hx : xs ≠ ys := fun h => he (by rw [h])
    simp [mf18, hl, hl2, b0, hx, -evBin, -evLenSl]
noncomputable def M18 : PModel := fun args => match args with
  | [a, b] => match intsOf a, intsOf b with
    | some xs, some ys => some (.bool (decide (xs = ys)))
    | _, _ => none
  | _ => none
theorem spec18 : PureSpec Try.prog GC 18 M18 := by
  refine PureSpec.of_ev (E := envOf GC []) (envOf_sound lookM_nil) rfl at18 comp18 1 ?_
  intro args r h
  unfold M18 at h
  split at h
  · split at h
    · rename_i xs ys h1 h2
      injection h with h; subst h
      obtain ⟨k1, k2, k3⟩ := intsOf_some h1
      obtain ⟨l1, l2, l3⟩ := intsOf_some h2
      exact ⟨_, ev18 _ k1 l1 k3⟩
    · cases h
  · cases h

/-! ### numbers drawn -/
theorem ev12 (E : Env) (a n : Int) (ha : inI a) (hn : 0 < n) : evP E 0 mf12 1 [.int .i64 a, .int .i64 n] = some (.int .i64 (pick a n)) := by
  have h3 : n ≠ 0 := by omega
  rw [evP_run _ _ rfl]
  by_cases h : a < 0
  · have h1 : IntKind.i64.wrap (a + 1) = a + 1 := wrapI (by unfold inI at *; omega)
    have h2 : IntKind.i64.wrap (-(a + 1)) = -(a + 1) := wrapI (by unfold inI at *; omega)
    simp [mf12, h, h1, h2, h3, pick]
  · simp [mf12, h, h3, pick]
def M12 : PModel := fun args => match args with
  | [.int .i64 a, .int .i64 n] => if (-9223372036854775808 ≤ a ∧ a ≤ 9223372036854775807) ∧ 0 < n then some (.int .i64 (pick a n)) else none
  | _ => none
theorem M12_eq {a n : Int} (ha : inI a) (hn : 0 < n) : M12 [.int .i64 a, .int .i64 n] = some (.int .i64 (pick a n)) := if_pos ⟨ha, hn⟩
theorem spec12 : PureSpec Try.prog GC 30 M12 := by
  refine PureSpec.of_ev (E := envOf GC []) (envOf_sound lookM_nil) rfl at12 comp12 1 ?_
  intro args r h
  unfold M12 at h
  split at h
  · simp only [Option.ite_none_right_eq_some, Option.some.injEq] at h
    obtain ⟨⟨h1, h2⟩, rfl⟩ := h
    exact ⟨0, ev12 _ _ _ h1 h2⟩
  · cases h
end Cy
end Go.Proofs.Ytemklhljjaniaaa
/-
  Cycle: webs: arcs with their numbers and lengths; slots of the arena.
-/
namespace Go.Proofs.Ytemklhljjaniaaa
namespace Cy
open Go

/-! ### arcs with numbers -/
abbrev NArc := CArc × Nat
def num (l : List CArc) : List NArc := l.zipIdx
def wA (p : Int) (x : NArc) : AV := .agg [.int .i64 x.1.f, .int .i64 x.1.t, .int .i64 x.1.w, .int .i64 x.1.k, .int .i64 (x.2 : Int), .int .i64 (x.1.len p)]
def outL (l : List CArc) (v : Nat) : List NArc := (num l).filter fun x => decide (x.1.f = (v : Int))
def wAs (p : Int) (l : List NArc) : List AV := l.map (wA p)
theorem num_take (l : List CArc) (i : Nat) (hi : i < l.length) : num (l.take (i + 1)) = num (l.take i) ++ [(l[i], i)] := by
  unfold num
  rw [List.take_succ_eq_append_getElem hi, List.zipIdx_append]
  simp
  omega
theorem num_len (l : List CArc) : (num l).length = l.length := by simp [num]
theorem num_get (l : List CArc) (i : Nat) (hi : i < l.length) : (num l)[i]? = some (l[i], i) := by
  simp [num, hi]
theorem num_mem {l : List CArc} {x : NArc} (h : x ∈ num l) : ∃ hi : x.2 < l.length, l[x.2] = x.1 := by
  obtain ⟨i, hi, rfl⟩ := List.mem_iff_getElem.1 h
  rw [num_len] at hi
  have := num_get l i hi
  have h2 : (num l)[i]'(by rw [num_len]; exact hi) = (l[i], i) := by
    rw [List.getElem?_eq_getElem (by rw [num_len]; exact hi)] at this
    exact Option.some.inj this
  rw [h2]
  exact ⟨hi, rfl⟩
theorem outL_take (l : List CArc) (i v : Nat) (hi : i < l.length) : outL (l.take (i + 1)) v = if l[i].f = (v : Int) then outL (l.take i) v ++ [(l[i], i)] else outL (l.take i) v := by
  unfold outL
  rw [num_take l i hi, List.filter_append]
  by_cases h : l[i].f = (v : Int) <;> simp [h]
theorem outL_len (l : List CArc) (v : Nat) : (outL l v).length ≤ l.length := by
  unfold outL
  have := List.length_filter_le (fun x : NArc => decide (x.1.f = (v : Int))) (num l)
  rw [num_len] at this
  exact this

/-! ### slots: slices of rows behind the first two -/
def Slot (A : Arena) (s : AV) (xs : List AV) : Prop := (s = .nilS ∧ xs = []) ∨ ∃ id gr, s = .sl id 0 xs.length ∧ xs ≠ [] ∧ 2 ≤ id ∧ A[id]? = some (.row 6 gr xs)
theorem Slot.keep {A B : Arena} {s : AV} {xs : List AV} (h : Slot A s xs) (hAB : ∀ id, id ∈ idsOf s → B[id]? = A[id]?) : Slot B s xs := by
  rcases h with h | ⟨id, gr, rfl, h1, h2, h3⟩
  · exact .inl h
  · exact .inr ⟨id, gr, rfl, h1, h2, by rw [hAB id (by simp [idsOf]), h3]⟩
theorem Slot.low {A : Arena} {s : AV} {xs : List AV} (h : Slot A s xs) : ∀ id, id ∈ idsOf s → 2 ≤ id ∧ id < A.length := by
  rcases h with ⟨rfl, _⟩ | ⟨id, gr, rfl, h1, h2, h3⟩
  · intro id h; simp [idsOf] at h
  · intro j hj
    simp only [idsOf, List.mem_singleton] at hj
    subst hj
    exact ⟨h2, (List.getElem?_eq_some_iff.1 h3).1⟩
theorem Slot.form {A : Arena} {s : AV} {xs : List AV} (h : Slot A s xs) : s.solid = true ∧ cellsOf s = [s] := by
  rcases h with ⟨rfl, _⟩ | ⟨id, gr, rfl, h1, h2, h3⟩ <;> exact ⟨rfl, rfl⟩
theorem Slot.append {A : Arena} {s : AV} {xs : List AV} (h : Slot A s xs) (x : AV) (hA : 2 ≤ A.length) (hl : xs.length ≤ 1000) :
    ∃ s' k A', evAppend 6 48 A s (.fs 6 [x]) = some (.sl s' 0 k, A') ∧ Slot A' (.sl s' 0 k) (xs ++ [x]) ∧ A.length ≤ A'.length ∧ (∀ j, j < A.length → j ∉ idsOf s → A'[j]? = A[j]?) ∧ (s' ∈ idsOf s ∨ s' = A.length) := by
  rcases h with ⟨rfl, rfl⟩ | ⟨id, gr, rfl, h1, h2, h3⟩
  · refine ⟨A.length, 1, A ++ [.row 6 false [x]], by simp [evAppend, srcElems], .inr ⟨A.length, false, rfl, by simp, hA, by simp⟩, by simp, fun j hj _ => by rw [List.getElem?_append_left hj], .inr rfl⟩
  · have hid := (List.getElem?_eq_some_iff.1 h3).1
    refine ⟨id, (xs ++ [x]).length, A.set id (.row 6 true (xs ++ [x])), ?_, .inr ⟨id, true, rfl, by simp, h2, by simp [hid]⟩, by simp, fun j hj hn => ?_, .inl (by simp [idsOf])⟩
    · simp only [evAppend, srcElems, h3]
      simp [h1]
      omega
    · rw [List.getElem?_set_ne (fun e => hn (by simp [idsOf, e]))]
theorem Slot.src {A : Arena} {s : AV} {xs : List AV} (h : Slot A s xs) : srcElems 6 A s = some xs := by
  rcases h with ⟨rfl, rfl⟩ | ⟨id, gr, rfl, h1, h2, h3⟩
  · rfl
  · simp [srcElems, h3]
theorem frz_wA (A : Arena) (p : Int) (x : NArc) (n : Nat) : frz A (n + 1) (wA p x) = wA p x := by
  cases n <;> simp [frz, wA]
theorem Slot.frz {A : Arena} {s : AV} {p : Int} {l : List NArc} (h : Slot A s (wAs p l)) (n : Nat) : frz A (n + 2) s = slA 6 (wAs p l) := by
  have e : (wAs p l).map (Proofs.Ytemklhljjaniaaa.frz A (n + 1)) = wAs p l := by
    unfold wAs
    rw [List.map_map]
    apply List.map_congr_left
    intro x _
    exact frz_wA A p x n
  rcases h with ⟨rfl, h⟩ | ⟨id, gr, rfl, h1, h2, h3⟩
  · rw [h]; rfl
  · show Proofs.Ytemklhljjaniaaa.frz A (n + 1 + 1) _ = _
    simp only [Proofs.Ytemklhljjaniaaa.frz, h3]
    rw [List.drop_zero, List.take_of_length_le (Nat.le_refl _), e]
    cases hw : wAs p l with
    | nil => exact absurd hw h1
    | cons y r => rfl
theorem fresh_wA (A : Arena) (p : Int) (x : NArc) (n : Nat) : freshB A (n + 1) (wA p x) = true := by
  cases n <;> simp [freshB, wA]
theorem Slot.fresh {A : Arena} {s : AV} {p : Int} {l : List NArc} (h : Slot A s (wAs p l)) (n : Nat) : freshB A (n + 2) s = true := by
  rcases h with ⟨rfl, h⟩ | ⟨id, gr, rfl, h1, h2, h3⟩
  · rfl
  · show freshB A (n + 1 + 1) _ = _
    simp only [freshB, h3]
    rw [List.drop_zero, List.take_of_length_le (Nat.le_refl _), List.all_eq_true]
    intro y hy
    obtain ⟨x, _, rfl⟩ := List.mem_map.1 hy
    exact fresh_wA A p x n

/-! ### newWeb -/
def R25a : MC := .region [⟨none, .mv (.var 12), none⟩, ⟨none, .indexSl 4 (.var 10) (.var 12), none⟩, ⟨none, .load true 4 (.tmp 1), none⟩, ⟨some 7, .alloc 4 (.agg [.int .i64 0, .int .i64 0, .int .i64 0, .int .i64 0]), none⟩, ⟨some 6, .mv (.tmp 0), none⟩, ⟨none, .store 4 (.var 7) (.tmp 2), none⟩]
def R25b : MC := .region [⟨none, .load true 4 (.var 7), none⟩, ⟨none, .mv (.var 6), none⟩, ⟨none, .fieldAddr 2 (.var 7), none⟩, ⟨none, .load false 1 (.tmp 2), none⟩, ⟨none, .mv (.var 2), none⟩, ⟨none, .fieldAddr 3 (.var 7), none⟩, ⟨none, .load false 1 (.tmp 5), none⟩, ⟨none, .bin .mul (.tmp 4) (.tmp 6), none⟩, ⟨none, .bin .sub (.tmp 3) (.tmp 7), none⟩, ⟨none, .build [.int .i64 0, .int .i64 0, .int .i64 0, .int .i64 0, .int .i64 0, .int .i64 0] [(0, (4, .tmp 0)), (4, (1, .tmp 1)), (5, (1, .tmp 8))], none⟩, ⟨some 8, .alloc 6 (.agg [.int .i64 0, .int .i64 0, .int .i64 0, .int .i64 0, .int .i64 0, .int .i64 0]), none⟩, ⟨none, .store 6 (.var 8) (.tmp 9), none⟩]
def R25c : MC := .region [⟨none, .mv (.var 5), none⟩, ⟨none, .mv (.var 5), none⟩, ⟨none, .nilCheck (.tmp 1), none⟩, ⟨none, .fieldAddr 1 (.tmp 2), none⟩, ⟨none, .load false 1 (.tmp 3), none⟩, ⟨none, .load true 6 (.var 8), none⟩, ⟨none, .buildF 6 [.tmp 5], none⟩, ⟨none, .append 6 48 (.tmp 4) (.tmp 6), none⟩, ⟨none, .nilCheck (.tmp 0), none⟩, ⟨none, .fieldAddr 1 (.tmp 8), none⟩, ⟨none, .store 1 (.tmp 9) (.tmp 7), none⟩]
def R25d : MC := .regionD [] [⟨none, .mv (.var 5), none⟩, ⟨none, .nilCheck (.tmp 0), none⟩, ⟨none, .fieldAddr 2 (.tmp 1), none⟩, ⟨none, .load false 1 (.tmp 2), none⟩, ⟨none, .fieldAddr 0 (.var 7), none⟩, ⟨none, .load false 1 (.tmp 4), none⟩, ⟨none, .mv (.var 5), none⟩, ⟨none, .nilCheck (.tmp 6), none⟩, ⟨none, .fieldAddr 2 (.tmp 7), none⟩, ⟨none, .load false 1 (.tmp 8), none⟩, ⟨none, .fieldAddr 0 (.var 7), none⟩, ⟨none, .load false 1 (.tmp 10), none⟩, ⟨none, .indexSl 1 (.tmp 9) (.tmp 11), none⟩, ⟨none, .load false 1 (.tmp 12), none⟩, ⟨none, .load true 6 (.var 8), none⟩, ⟨none, .buildF 6 [.tmp 14], none⟩, ⟨none, .append 6 48 (.tmp 13) (.tmp 15), none⟩, ⟨none, .indexSl 1 (.tmp 3) (.tmp 5), none⟩, ⟨none, .store 1 (.tmp 17) (.tmp 16), none⟩] [(2, 16), (3, 16), (4, 16), (5, 16)]
theorem R25_eq : lp25x0 = .seq (.region [⟨some 13, .bin .lss (.var 12) (.var 11), none⟩]) (.seq (.cond (.var 13) .skip (.exit 0)) (.seq (.seq (.block 1 (.seq R25a (.seq R25b (.seq R25c R25d)))) (.kill [0, 1, 3, 4, 6, 7, 8, 9, 13])) (.region [⟨none, .bin .add (.var 12) (.cst (.int .i64 1)), none⟩, ⟨some 12, .mv (.tmp 0), none⟩]))) := rfl
set_option maxRecDepth 100000 in
theorem r25ab (E : Env) (fuel : Nat) (K : List KC) (A : Arena) {a : AV} {l : List CArc} (ha : arcsOf a = some l) {p : Int} (hp : isPer p) {i : Nat} (hi : i < l.length) (hv : okA 32 l[i]) (w v13 : AV) (X : MC) :
    run E fuel (.code R25a :: .code (.seq R25b X) :: K) [.undef, .undef, .int .i64 p, .undef, .undef, w, .undef, .undef, .undef, .undef, a, .int .i64 (l.length : Int), .int .i64 (i : Int), v13] A =
      run E fuel (.code X :: K) [.undef, .undef, .int .i64 p, .undef, .undef, w, .int .i64 (i : Int), .ptr A.length 0 0, .ptr (A.length + 1) 0 0, .undef, a, .int .i64 (l.length : Int), .int .i64 (i : Int), v13] (A ++ [.row 4 false [arcA l[i]], .row 6 false [wA p (l[i], i)]]) := by
  have x1 := arcsOf_at ha hi A .i64
  obtain ⟨k1, k2, k3, k4⟩ := len_in hv hp
  obtain ⟨_, _, h3, h4⟩ := hv
  have b1 : evBin .mul (.int .i64 p) (.int .i64 l[i].k) = some (.int .i64 (p * l[i].k)) := by
    simp only [evBin]; rw [if_pos trivial, wrapI (by unfold inI; omega)]
  have b2 : evBin .sub (.int .i64 l[i].w) (.int .i64 (p * l[i].k)) = some (.int .i64 (l[i].len p)) := by
    simp only [evBin]; rw [if_pos trivial, wrapI (by unfold CArc.len at k1 k2; unfold inI; omega)]; rfl
  unfold arcA wA
  simp only []
  obtain ⟨pk, hpk⟩ : ∃ pk, pk = p * l[i].k := ⟨_, rfl⟩
  rw [← hpk] at b1 b2
  simp [R25a, R25b, x1, b1, b2, -evBin, -evIndexSl]

set_option maxRecDepth 100000 in
theorem r25c (E : Env) (fuel : Nat) (K : List KC) {B B2 : Arena} {v2 v6 v7 v10 v11 v12 v13 n va os : AV} {i8 j k : Nat} {c1 c2 c3 c4 c5 c6 : Int}
    (h1 : B[1]? = some (.row 3 false [.agg [n, va, os]])) (h8 : B[i8]? = some (.row 6 false [.agg [.int .i64 c1, .int .i64 c2, .int .i64 c3, .int .i64 c4, .int .i64 c5, .int .i64 c6]])) (ap : evAppend 6 48 B va (.fs 6 [.agg [.int .i64 c1, .int .i64 c2, .int .i64 c3, .int .i64 c4, .int .i64 c5, .int .i64 c6]]) = some (.sl j 0 k, B2)) (h1' : B2[1]? = some (.row 3 false [.agg [n, va, os]])) :
    run E fuel (.code R25c :: K) [.undef, .undef, v2, .undef, .undef, .ptr 1 0 0, v6, v7, .ptr i8 0 0, .undef, v10, v11, v12, v13] B =
      run E fuel K [.undef, .undef, v2, .undef, .undef, .ptr 1 0 0, v6, v7, .ptr i8 0 0, .undef, v10, v11, v12, v13] (B2.set 1 (.row 3 false [.agg [n, .sl j 0 k, os]])) := by
  simp [R25c, h1, h8, ap, h1']

set_option maxRecDepth 100000 in
theorem r25d (E : Env) (fuel : Nat) (K : List KC) {B B2 : Arena} {v2 v6 v10 v11 v12 v13 n va o : AV} {i7 i8 f m j k : Nat} {os : List AV} {a : CArc} {c1 c2 c3 c4 c5 c6 : Int}
    (h1 : B[1]? = some (.row 3 false [.agg [n, va, .sl 0 0 m]])) (h7 : B[i7]? = some (.row 4 false [arcA a])) (h8 : B[i8]? = some (.row 6 false [.agg [.int .i64 c1, .int .i64 c2, .int .i64 c3, .int .i64 c4, .int .i64 c5, .int .i64 c6]])) (haf : a.f = (f : Int)) (hfm : f < m)
    (h0 : B[0]? = some (.row 1 false os)) (ho : os[f]? = some o) (hs : o = .nilS ∨ ∃ i k, o = .sl i 0 k)
    (ap : evAppend 6 48 B o (.fs 6 [.agg [.int .i64 c1, .int .i64 c2, .int .i64 c3, .int .i64 c4, .int .i64 c5, .int .i64 c6]]) = some (.sl j 0 k, B2)) (h0' : B2[0]? = some (.row 1 false os)) (hid : ∀ j ∈ idsOf o, j ≠ 1 ∧ j ≠ i7) (hB1 : B.length ≠ 1) (hB7 : B.length ≠ i7) :
    run E fuel (.code R25d :: K) [.undef, .undef, v2, .undef, .undef, .ptr 1 0 0, v6, .ptr i7 0 0, .ptr i8 0 0, .undef, v10, v11, v12, v13] B =
      run E fuel K [.undef, .undef, v2, .undef, .undef, .ptr 1 0 0, v6, .ptr i7 0 0, .ptr i8 0 0, .undef, v10, v11, v12, v13] (B2.set 0 (.row 1 false (os.set f (.sl j 0 k)))) := by
  have hB1' : ¬ 1 = B.length := fun e => hB1 e.symm
  have hB7' : ¬ i7 = B.length := fun e => hB7 e.symm
  simp only [arcA, haf] at h7
  rcases hs with rfl | ⟨i, q, rfl⟩
  · simp [R25d, h1, h7, h8, h0, ho, ap, h0', hB1', hB7', hfm]
  · obtain ⟨hi1, hi7⟩ := hid i (by simp [idsOf])
    have hi1' : ¬ 1 = i := fun e => hi1 e.symm
    have hi7' : ¬ i7 = i := fun e => hi7 e.symm
    simp [R25d, h1, h7, h8, h0, ho, ap, h0', hB1', hB7', hfm, hi1', hi7']
/-- the arena of a web under way: behind i arcs -/
def WInv (n : Nat) (p : Int) (l : List CArc) (i : Nat) (A : Arena) : Prop := ∃ (va : AV) (os : List AV), A[0]? = some (.row 1 false os) ∧ A[1]? = some (.row 3 false [.agg [.int .i64 (n : Int), va, .sl 0 0 n]]) ∧ os.length = n ∧ Slot A va (wAs p (num (l.take i))) ∧
  (∀ (v : Nat) (o : AV), os[v]? = some o → Slot A o (wAs p (outL (l.take i) v))) ∧ (∀ (v : Nat) (o : AV) (j : Nat), os[v]? = some o → j ∈ idsOf o → j ∉ idsOf va) ∧ (∀ (u v : Nat) (o q : AV) (j : Nat), u ≠ v → os[u]? = some o → os[v]? = some q → j ∈ idsOf o → j ∉ idsOf q)
theorem nat_of {z : Int} {n : Int} (h : 0 ≤ z ∧ z ≤ n - 1) : ∃ m : Nat, z = (m : Int) ∧ (m : Int) < n := ⟨z.toNat, by omega, by omega⟩
theorem Slot.form2 {A : Arena} {s : AV} {xs : List AV} (h : Slot A s xs) : s = .nilS ∨ ∃ i k, s = .sl i 0 k := by
  rcases h with ⟨rfl, _⟩ | ⟨id, gr, rfl, _⟩
  · exact .inl rfl
  · exact .inr ⟨_, _, rfl⟩
set_option maxRecDepth 100000 in
theorem round25 (E : Env) (fuel : Nat) (A : Arena) {a : AV} {l : List CArc} (ha : arcsOf a = some l) {p : Int} (hp : isPer p) {n : Nat} (hn : n ≤ 32) (hl200 : l.length ≤ 200) (hv : ∀ x ∈ l, okA n x) {i : Nat} (hi : i < l.length) (hI : WInv n p l i A) :
    ∃ A', run E fuel [.code lp25x0] (st25x0 (.int .i64 p) (.ptr 1 0 0) a (.int .i64 (l.length : Int)) (.int .i64 (i : Int))) A = some (.normal (st25x0 (.int .i64 p) (.ptr 1 0 0) a (.int .i64 (l.length : Int)) (.int .i64 ((i + 1 : Nat) : Int))) A') ∧ WInv n p l (i + 1) A' := by
  obtain ⟨va, os, g0, g1, hos, gs, go, gd1, gd2⟩ := hI
  have hmem := hv _ (List.getElem_mem hi)
  obtain ⟨f, hf, hfn⟩ := nat_of hmem.1
  have hv32 : okA 32 l[i] := by
    obtain ⟨h1, h2, h3, h4⟩ := hmem
    exact ⟨by omega, by omega, h3, h4⟩
  have hA2 : 2 ≤ A.length := (List.getElem?_eq_some_iff.1 g1).1
  -- the copies
  obtain ⟨B, hB⟩ : ∃ B, B = A ++ [.row 4 false [arcA l[i]], .row 6 false [wA p (l[i], i)]] := ⟨_, rfl⟩
  have hAB : ∀ id, id < A.length → B[id]? = A[id]? := fun id hid => by rw [hB, List.getElem?_append_left hid]
  have h7 : B[A.length]? = some (.row 4 false [arcA l[i]]) := by rw [hB]; simp
  have h8 : B[A.length + 1]? = some (.row 6 false [wA p (l[i], i)]) := by rw [hB, List.getElem?_append_right (by omega)]; simp
  have hBl : B.length = A.length + 2 := by rw [hB]; simp
  have k0 := (hAB 0 (by omega)).trans g0
  have k1 := (hAB 1 (by omega)).trans g1
  have gsB : Slot B va (wAs p (num (l.take i))) := gs.keep fun id h => hAB id (gs.low id h).2
  have hnl : (wAs p (num (l.take i))).length ≤ 1000 := by simp [wAs, num_len]; omega
  obtain ⟨ja, ka, B2, ap1, s1, len1, keep1, ids1⟩ := gsB.append (wA p (l[i], i)) (by omega) hnl
  have hva := gs.low
  have q1 := (keep1 1 (by omega) fun h => by have := (hva 1 h).1; omega).trans k1
  -- the row of the web
  obtain ⟨B3, hB3⟩ : ∃ B3, B3 = B2.set 1 (.row 3 false [.agg [.int .i64 (n : Int), (.sl ja 0 ka), .sl 0 0 n]]) := ⟨_, rfl⟩
  have hB3l : B3.length = B2.length := by rw [hB3]; simp
  have c1 : B3[1]? = some (.row 3 false [.agg [.int .i64 (n : Int), (.sl ja 0 ka), .sl 0 0 n]]) := by rw [hB3]; exact List.getElem?_set_self (by omega)
  have hB23 : ∀ id, id ≠ 1 → B3[id]? = B2[id]? := fun id h => by rw [hB3, List.getElem?_set_ne (Ne.symm h)]
  have c0 := ((hB23 0 (by omega)).trans (keep1 0 (by omega) fun h => by have := (hva 0 h).1; omega)).trans k0
  have c7 := ((hB23 A.length (by omega)).trans (keep1 A.length (by omega) fun h => by have := (hva _ h).2; omega)).trans h7
  have c8 := ((hB23 (A.length + 1) (by omega)).trans (keep1 (A.length + 1) (by omega) fun h => by have := (hva _ h).2; omega)).trans h8
  have s1' : Slot B3 (.sl ja 0 ka) (wAs p (num (l.take i)) ++ [wA p (l[i], i)]) := s1.keep fun id h => hB23 id (by have := (s1.low id h).1; omega)
  obtain ⟨o, ho⟩ : ∃ o, os[f]? = some o := ⟨os[f]'(by omega), List.getElem?_eq_getElem _⟩
  -- other slots are kept
  have keepO : ∀ v q, os[v]? = some q → Slot B3 q (wAs p (outL (l.take i) v)) := fun v q hq => (go v q hq).keep fun id h => by
    have := (go v q hq).low id h
    rw [hB23 id (by omega), keep1 id (by omega) (gd1 v q id hq h), hAB id this.2]
  have so := keepO f o ho
  have hol : (wAs p (outL (l.take i) f)).length ≤ 1000 := by
    have := outL_len (l.take i) f
    simp only [wAs, List.length_map]
    simp at this; omega
  obtain ⟨jo, ko, B4, ap2, s2, len2, keep2, ids2⟩ := so.append (wA p (l[i], i)) (by omega) hol
  have hoi := (go f o ho).low
  have d0 := (keep2 0 (by omega) fun h => by have := (hoi 0 h).1; omega).trans c0
  obtain ⟨B5, hB5⟩ : ∃ B5, B5 = B4.set 0 (.row 1 false (os.set f (.sl jo 0 ko))) := ⟨_, rfl⟩
  have hB45 : ∀ id, id ≠ 0 → B5[id]? = B4[id]? := fun id h => by rw [hB5, List.getElem?_set_ne (Ne.symm h)]
  have ids1' : ∀ x, x ∈ idsOf (.sl ja 0 ka) → x ∈ idsOf va ∨ x = B.length := fun x hx => by
    simp only [idsOf, List.mem_singleton] at hx
    rw [hx]; exact ids1
  have ids2' : ∀ x, x ∈ idsOf (.sl jo 0 ko) → x ∈ idsOf o ∨ x = B3.length := fun x hx => by
    simp only [idsOf, List.mem_singleton] at hx
    rw [hx]; exact ids2
  refine ⟨B5, ?_, .sl ja 0 ka, os.set f (.sl jo 0 ko), ?_, ?_, ?_, ?_, ?_, ?_, ?_⟩
  · have r1 := fun K X => r25ab E fuel K A ha hp hi hv32 (.ptr 1 0 0) (.bool true) X
    rw [← hB] at r1
    have r2 := fun K => r25c E fuel K (B := B) (B2 := B2) (v2 := .int .i64 p) (v6 := .int .i64 (i : Int)) (v7 := .ptr A.length 0 0) (v10 := a) (v11 := .int .i64 (l.length : Int)) (v12 := .int .i64 (i : Int)) (v13 := .bool true) (n := .int .i64 (n : Int)) (va := va) (j := ja) (k := ka) (os := .sl 0 0 n) (i8 := A.length + 1) k1 h8 ap1 q1
    rw [← hB3] at r2
    have r3 := fun K => r25d E fuel K (B := B3) (B2 := B4) (v2 := .int .i64 p) (v6 := .int .i64 (i : Int)) (i7 := A.length) (v10 := a) (v11 := .int .i64 (l.length : Int)) (v12 := .int .i64 (i : Int)) (v13 := .bool true) (n := .int .i64 (n : Int)) (va := .sl ja 0 ka) (o := o) (j := jo) (k := ko) (os := os) (m := n) (f := f) (a := l[i]) (i8 := A.length + 1) c1 c7 c8 hf (by omega) c0 ho so.form2 ap2 d0 (fun j hj => ⟨by have := (hoi j hj).1; omega, by have := (hoi j hj).2; omega⟩) (by omega) (by omega)
    rw [← hB5] at r3
    have b1 := lt_nat i l.length .i64
    rw [decide_eq_true hi] at b1
    have b3 := add1_nat i (by omega)
    obtain ⟨i1, hi1⟩ : ∃ i1 : Nat, i1 = i + 1 := ⟨_, rfl⟩
    rw [← hi1] at b3 ⊢
    rw [R25_eq]
    simp [b1, b3, r1, r2, r3, -evBin]
  · rw [hB5]; exact List.getElem?_set_self (by omega)
  · rw [hB45 1 (by omega), keep2 1 (by omega) fun h => by have := (hoi 1 h).1; omega]
    exact c1
  · simp [hos]
  · rw [num_take l i hi, show wAs p (num (l.take i) ++ [(l[i], i)]) = wAs p (num (l.take i)) ++ [wA p (l[i], i)] by simp [wAs]]
    refine s1'.keep fun id h => ?_
    have h1 := s1'.low id h
    rw [hB45 id (by omega), keep2 id h1.2 fun h2 => ?_]
    rcases ids1' id h with h3 | h3
    · exact gd1 f o id ho h2 h3
    · have := (hoi id h2).2; omega
  · intro v q hq
    rw [outL_take l i v hi]
    by_cases hvf : v = f
    · subst hvf
      rw [List.getElem?_set_self (by omega)] at hq
      injection hq with hq; subst hq
      rw [if_pos hf, show wAs p (outL (l.take i) v ++ [(l[i], i)]) = wAs p (outL (l.take i) v) ++ [wA p (l[i], i)] by simp [wAs]]
      exact s2.keep fun id h => hB45 id (by have := (s2.low id h).1; omega)
    · rw [List.getElem?_set_ne (Ne.symm hvf)] at hq
      rw [if_neg (by rw [hf]; omega)]
      refine (keepO v q hq).keep fun id h => ?_
      have h1 := (keepO v q hq).low id h
      rw [hB45 id (by omega), keep2 id h1.2 (gd2 v f q o id hvf hq ho h)]
  · intro v q j hq hj hj2
    have hnew : j ∈ idsOf va ∨ j = B.length := ids1' j hj2
    by_cases hvf : v = f
    · subst hvf
      rw [List.getElem?_set_self (by omega)] at hq
      injection hq with hq; subst hq
      have h5 := (s1.low j hj2).2
      rcases ids2' j hj with h3 | h3
      · have := (hoi j h3).2
        rcases hnew with h4 | h4
        · exact gd1 v o j ho h3 h4
        · omega
      · omega
    · rw [List.getElem?_set_ne (Ne.symm hvf)] at hq
      have := ((go v q hq).low j hj).2
      rcases hnew with h4 | h4
      · exact gd1 v q j hq hj h4
      · omega
  · intro u v q r j huv hq hr hj hj2
    by_cases huf : u = f
    · subst huf
      rw [List.getElem?_set_self (by omega)] at hq
      injection hq with hq; subst hq
      rw [List.getElem?_set_ne huv] at hr
      have := ((go v r hr).low j hj2).2
      rcases ids2' j hj with h3 | h3
      · exact gd2 u v o r j huv ho hr h3 hj2
      · omega
    · rw [List.getElem?_set_ne (Ne.symm huf)] at hq
      have := ((go u q hq).low j hj).2
      by_cases hvf : v = f
      · subst hvf
        rw [List.getElem?_set_self (by omega)] at hr
        injection hr with hr; subst hr
        rcases ids2' j hj2 with h3 | h3
        · exact gd2 u v q o j huv hq ho hj h3
        · omega
      · rw [List.getElem?_set_ne (Ne.symm hvf)] at hr
        exact gd2 u v q r j huv hq hr hj hj2
theorem frz_i (A : Arena) (n : Nat) (k : IntKind) (z : Int) : frz A n (.int k z) = .int k z := by cases n <;> rfl
/-- a web that nobody writes -/
def webT (n : Nat) (p : Int) (l : List CArc) : AV := .fp [.int .i64 (n : Int), slA 6 (wAs p (num l)), .fs 1 ((List.range n).map fun v => slA 6 (wAs p (outL l v)))]
theorem WInv.frz {n : Nat} {p : Int} {l : List CArc} {A : Arena} (h : WInv n p l l.length A) (k : Nat) : Proofs.Ytemklhljjaniaaa.frz A (k + 4) (.ptr 1 0 0) = webT n p l := by
  obtain ⟨va, os, g0, g1, hos, gs, go, _, _⟩ := h
  rw [List.take_length] at gs go
  show Proofs.Ytemklhljjaniaaa.frz A (k + 3 + 1) _ = _
  simp only [Proofs.Ytemklhljjaniaaa.frz, g1, List.getElem?_cons_zero]
  rw [if_pos ⟨rfl, by simp [cellsOf]⟩]
  have e2 : Proofs.Ytemklhljjaniaaa.frz A (k + 3) (.sl 0 0 n) = .fs 1 ((List.range n).map fun v => slA 6 (wAs p (outL l v))) := by
    show Proofs.Ytemklhljjaniaaa.frz A (k + 2 + 1) _ = _
    simp only [Proofs.Ytemklhljjaniaaa.frz, g0]
    rw [List.drop_zero, List.take_of_length_le (by omega)]
    congr 1
    apply List.ext_getElem (by simp [hos])
    intro v h1 h2
    simp only [List.getElem_map, List.getElem_range]
    exact (go v _ (List.getElem?_eq_getElem (by simpa using h1))).frz k
  simp only [cellsOf, List.drop_zero, List.map_cons, List.map_nil, e2]
  rw [show Proofs.Ytemklhljjaniaaa.frz A (k + 3) va = slA 6 (wAs p (num l)) from gs.frz (k + 1)]
  simp [webT, Proofs.Ytemklhljjaniaaa.frz]
theorem WInv.fresh {n : Nat} {p : Int} {l : List CArc} {A : Arena} (h : WInv n p l l.length A) (k : Nat) : freshB A (k + 4) (.ptr 1 0 0) = true := by
  obtain ⟨va, os, g0, g1, hos, gs, go, _, _⟩ := h
  rw [List.take_length] at gs go
  have e2 : freshB A (k + 3) (.sl 0 0 n) = true := by
    show freshB A (k + 2 + 1) _ = _
    simp only [freshB, g0]
    rw [List.drop_zero, List.take_of_length_le (by omega), List.all_eq_true]
    intro x hx
    obtain ⟨v, hv, rfl⟩ := List.mem_iff_getElem.1 hx
    exact (go v _ (List.getElem?_eq_getElem hv)).fresh k
  have e1 : freshB A (k + 3) va = true := gs.fresh (k + 1)
  show freshB A (k + 3 + 1) _ = _
  simp only [freshB, g1, List.getElem?_cons_zero, cellsOf, AV.solid, List.all_cons, List.all_nil, Bool.and_true, Bool.true_and, List.length_cons, List.length_nil]
  simp only [freshB] at e1 e2
  rw [e1, e2]; rfl
theorem loop25 (E : Env) (fuel : Nat) (A : Arena) {a : AV} {l : List CArc} (ha : arcsOf a = some l) {p : Int} (hp : isPer p) {n : Nat} (hn : n ≤ 32) (hl200 : l.length ≤ 200) (hv : ∀ x ∈ l, okA n x) (hI : WInv n p l 0 A) :
    ∃ A', WInv n p l l.length A' ∧ iter (evC E fuel lp25x0) mask25x0 (l.length + 1) (st25x0 (.int .i64 p) (.ptr 1 0 0) a (.int .i64 (l.length : Int)) (.int .i64 0)) A = some (.exit 0 ((st25x0 (.int .i64 p) (.ptr 1 0 0) a (.int .i64 (l.length : Int)) (.int .i64 (l.length : Int))).set 13 (.bool false)) A') := by
  obtain ⟨o, h1, A', h2, h3⟩ := iter_inv (E := E) (fuel := fuel) (a := lp25x0) (mask := mask25x0) (fun k σ A => ∃ i, i + k = l.length ∧ σ = st25x0 (.int .i64 p) (.ptr 1 0 0) a (.int .i64 (l.length : Int)) (.int .i64 (i : Int)) ∧ WInv n p l i A)
    (fun o => ∃ A', WInv n p l l.length A' ∧ o = .exit 0 ((st25x0 (.int .i64 p) (.ptr 1 0 0) a (.int .i64 (l.length : Int)) (.int .i64 (l.length : Int))).set 13 (.bool false)) A')
    (by
      rintro k σ A ⟨i, hik, rfl, hI⟩
      rw [cl25x0]
      by_cases hi : i < l.length
      · obtain ⟨A', h1, h2⟩ := round25 E fuel A ha hp hn hl200 hv hi hI
        exact .inl ⟨_, _, h1, k - 1, by omega, i + 1, by omega, rfl, h2⟩
      · obtain rfl : i = l.length := by omega
        refine .inr ⟨_, ?_, ?_, A, hI, rfl⟩
        · simp [lp25x0]
        · intro _ _ h; cases h)
    (l.length + 1) l.length _ A (by omega) ⟨0, by omega, rfl, hI⟩
  exact ⟨A', h2, by rw [← h3]; exact h1⟩

open Classical in
noncomputable def M25 : PModel := fun args => match args with
  | [.int .i64 n, a, .int .i64 p] => (arcsOf a).map fun l => if Ready n l p then .tup [webT n.toNat p l, .bool true] else .tup [.nilP, .bool false]
  | _ => none
noncomputable def fs25 : List (FuncId × HModel) := [(74, pureH 4 M16), (54, pureH 4 M41)]
@[simp] theorem fs25_16 : lookM fs25 74 = some (pureH 4 M16) := rfl
@[simp] theorem fs25_41 : lookM fs25 54 = some (pureH 4 M41) := rfl
theorem sound25 : ∀ f M, lookM fs25 f = some M → FnSpecY Try.prog GC f M := lookM_cons (FnSpecY.of_pure spec16 4) (lookM_cons (FnSpecY.of_pure spec41 4) lookM_nil)
open Classical in
set_option maxRecDepth 100000 in
theorem spec25F : PureSpecF Try.prog GC 55 M25 := by
  refine PureSpecF.of_ev (E := envOf GC fs25) (envOf_sound sound25) rfl at25 comp25 5 ?_
  intro args r h
  unfold M25 at h
  split at h
  · rename_i n a p
    simp only [Option.map_eq_some_iff] at h
    obtain ⟨l, hl, rfl⟩ := h
    refine ⟨l.length + 1, ?_⟩
    have m1 : M16 [.int .i64 n, a] = some (.bool (decide (ValidA n l))) := by simp only [M16, hl, Option.map_some]
    have m2 : M41 [.int .i64 p] = some (.bool (decide (isPer p))) := rfl
    have f1 := arcsOf_frz hl
    have f2 := arcsOf_noRef hl
    have hlen := (arcsOf_len hl).1
    rw [evF_run _ _ rfl]
    by_cases h1 : ValidA n l
    rotate_left
    · rw [if_neg (fun h => h1 h.1)]
      rw [decide_eq_false h1] at m1
      simp [mf25, m1, f1, f2, frz, freshB, pack]
    rw [decide_eq_true h1] at m1
    by_cases h2 : isPer p
    rotate_left
    · rw [if_neg (fun h => h2 h.2)]
      rw [decide_eq_false h2] at m2
      simp [mf25, m1, m2, f1, f2, frz, freshB, pack]
    rw [decide_eq_true h2] at m2
    rw [if_pos ⟨h1, h2⟩]
    obtain ⟨m, rfl⟩ : ∃ m : Nat, n = (m : Int) := ⟨n.toNat, by have := h1.1; omega⟩
    have hm : 1 ≤ m ∧ m ≤ 32 := by have := h1.1; omega
    have hI : WInv m p l 0 [.row 1 false (List.replicate m .nilS), .row 3 false [.agg [.int .i64 (m : Int), .nilS, .sl 0 0 m]]] := by
      refine ⟨.nilS, List.replicate m .nilS, rfl, rfl, by simp, .inl ⟨rfl, rfl⟩, fun v o ho => ?_, fun v o j ho hj => ?_, fun u v o q j _ ho _ hj => ?_⟩
      · rw [List.getElem?_replicate] at ho
        split at ho
        · injection ho with ho; subst ho
          exact .inl ⟨rfl, rfl⟩
        · cases ho
      · simp [idsOf]
      · rw [List.getElem?_replicate] at ho
        split at ho
        · injection ho with ho; subst ho
          simp [idsOf] at hj
        · cases ho
    obtain ⟨A', hW, lp⟩ := loop25 (envOf GC fs25) (l.length + 1) _ hl h2 hm.2 h1.2.1 h1.2.2 hI
    have z1 : frz A' 5 (.tup [.ptr 1 0 0, .bool true]) = .tup [webT m p l, .bool true] := by
      have := hW.frz 0
      show AV.tup [frz A' 4 (.ptr 1 0 0), frz A' 4 (.bool true)] = _
      rw [this]; rfl
    have z2 : freshB A' 5 (.tup [.ptr 1 0 0, .bool true]) = true := by
      have := hW.fresh 0
      show [AV.ptr 1 0 0, .bool true].all (freshB A' 4) = true
      simp only [List.all_cons, this]; rfl
    have p1 : pack [.ptr 1 0 0, .bool true] = .tup [.ptr 1 0 0, .bool true] := rfl
    have e1 : (m : Int).toNat = m := by omega
    have hm0 : ¬ m = 0 := by omega
    have mk : evMake 1 24 .nilS [] (.int .i64 (m : Int)) (.int .i64 (m : Int)) = some (.sl 0 0 m, [.row 1 false (List.replicate m .nilS)]) := by
      simp [evMake]; omega
    rw [e1]
    simp [mf25, m1, m2, f1, f2, hlen, go25x0 lp, mk, frz_i, z1, z2, -evLenSl, -evMake, -frz]
  · cases h
end Cy
end Go.Proofs.Ytemklhljjaniaaa
/-
  Cycle, plain: ways, their lengths, and the least starts.
-/
namespace Go.Proofs.Ytemklhljjaniaaa
namespace Cy
open Go

/-- an arc: from, to, length -/
abbrev LArc := Nat × Nat × Int
/-- a way from u to v -/
def isW (L : List LArc) : Nat → List LArc → Nat → Prop
  | u, [], v => u = v
  | u, a :: r, v => a ∈ L ∧ a.1 = u ∧ isW L a.2.1 r v
def lenW : List LArc → Int
  | [] => 0
  | a :: r => a.2.2 + lenW r
def endW : Nat → List LArc → Nat
  | u, [] => u
  | _, a :: r => endW a.2.1 r

section
variable {L : List LArc}
theorem lenW_app : ∀ (r s : List LArc), lenW (r ++ s) = lenW r + lenW s
  | [], s => by simp [lenW]
  | a :: r, s => by
    simp only [List.cons_append, lenW, lenW_app r s]
    omega
theorem isW_app : ∀ {r s : List LArc} {u v : Nat}, isW L u (r ++ s) v ↔ ∃ m, isW L u r m ∧ isW L m s v
  | [], s, u, v => ⟨fun h => ⟨u, rfl, h⟩, by rintro ⟨m, rfl, h⟩; exact h⟩
  | a :: r, s, u, v => by
    simp only [List.cons_append, isW, isW_app (r := r) (s := s)]
    constructor
    · rintro ⟨h1, h2, m, h3, h4⟩; exact ⟨m, ⟨h1, h2, h3⟩, h4⟩
    · rintro ⟨m, ⟨h1, h2, h3⟩, h4⟩; exact ⟨h1, h2, m, h3, h4⟩
theorem isW_end : ∀ {r : List LArc} {u v : Nat}, isW L u r v → endW u r = v
  | [], _, _, h => h
  | a :: r, _, _, ⟨_, _, h⟩ => isW_end (r := r) (u := a.2.1) h
theorem endW_lt {n : Nat} (hL : ∀ a ∈ L, a.1 < n ∧ a.2.1 < n) : ∀ {r : List LArc} {u v : Nat}, u < n → isW L u r v → v < n
  | [], _, _, h, e => e ▸ h
  | _ :: _, _, _, _, ⟨h1, _, h3⟩ => endW_lt hL (hL _ h1).2 h3
theorem isW_mono {L' : List LArc} (h : ∀ a ∈ L, a ∈ L') : ∀ {r : List LArc} {u v : Nat}, isW L u r v → isW L' u r v
  | [], _, _, e => e
  | _ :: _, _, _, ⟨h1, h2, h3⟩ => ⟨h _ h1, h2, isW_mono h h3⟩

theorem pigeon : ∀ (n : Nat) (s : Nat → Nat), (∀ i, i ≤ n → s i < n) → ∃ i j, i < j ∧ j ≤ n ∧ s i = s j
  | 0, s, h => absurd (h 0 (Nat.le_refl _)) (by omega)
  | n + 1, s, h => by
    by_cases hx : ∃ i, i ≤ n ∧ s i = s (n + 1)
    · obtain ⟨i, hi, he⟩ := hx
      exact ⟨i, n + 1, by omega, Nat.le_refl _, he⟩
    · have hx' : ∀ i, i ≤ n → s i ≠ s (n + 1) := fun i hi he => hx ⟨i, hi, he⟩
      obtain ⟨i, j, h1, h2, h3⟩ := pigeon n (fun i => if s i = n then s (n + 1) else s i) (fun i hi => by
        have a1 := h i (by omega)
        have a2 := h (n + 1) (Nat.le_refl _)
        have a3 := hx' i hi
        show (if s i = n then s (n + 1) else s i) < n
        split <;> omega)
      refine ⟨i, j, h1, by omega, ?_⟩
      have a1 := hx' i (by omega)
      have a2 := hx' j (by omega)
      have h3 : (if s i = n then s (n + 1) else s i) = (if s j = n then s (n + 1) else s j) := h3
      split at h3 <;> split at h3 <;> omega

/-- a long way has a closed part -/
theorem loop_in {n : Nat} (hL : ∀ a ∈ L, a.1 < n ∧ a.2.1 < n) {r : List LArc} {u v : Nat} (hu : u < n) (h : isW L u r v) (hn : n ≤ r.length) :
    ∃ p c q m, r = p ++ c ++ q ∧ isW L u p m ∧ isW L m c m ∧ isW L m q v ∧ 1 ≤ c.length ∧ c.length ≤ n := by
  have key : ∀ i, i ≤ r.length → ∃ m, isW L u (r.take i) m ∧ isW L m (r.drop i) v := fun i _ => by
    have h' := h
    rw [← List.take_append_drop i r] at h'
    exact isW_app.1 h'
  obtain ⟨i, j, hij, hj, he⟩ := pigeon n (fun i => endW u (r.take i)) (fun i hi => by
    obtain ⟨m, h1, _⟩ := key i (by omega)
    show endW u (r.take i) < n
    rw [isW_end h1]
    exact endW_lt hL hu h1)
  obtain ⟨m1, a1, b1⟩ := key i (by omega)
  obtain ⟨m2, a2, b2⟩ := key j (by omega)
  have e1 := isW_end a1
  have e2 := isW_end a2
  have he : endW u (r.take i) = endW u (r.take j) := he
  have e3 : m1 = m2 := by rw [← e1, ← e2, he]
  subst e3
  have hs : r.drop i = (r.drop i).take (j - i) ++ r.drop j := by
    conv => lhs; rw [← List.take_append_drop (j - i) (r.drop i)]
    rw [List.drop_drop]
    congr 2; omega
  have hs2 : r.take j = r.take i ++ (r.drop i).take (j - i) := by
    have : j = i + (j - i) := by omega
    conv => lhs; rw [this]
    rw [List.take_add]
  rw [hs2] at a2
  obtain ⟨m, c1, c2⟩ := isW_app.1 a2
  have e4 : m = m1 := by rw [← isW_end c1, e1]
  subst e4
  refine ⟨r.take i, (r.drop i).take (j - i), r.drop j, m, ?_, a1, c2, b2, ?_, ?_⟩
  · rw [List.append_assoc, ← hs, List.take_append_drop]
  · simp; omega
  · simp; omega

/-- no closed way of at most n arcs has a length greater than 0 -/
def NoPos (L : List LArc) (n : Nat) : Prop := ∀ u c, isW L u c u → 1 ≤ c.length → c.length ≤ n → lenW c ≤ 0
theorem short {n : Nat} (hL : ∀ a ∈ L, a.1 < n ∧ a.2.1 < n) (hN : NoPos L n) : ∀ (k : Nat) (r : List LArc) (u v : Nat), r.length = k → u < n → isW L u r v → ∃ r', isW L u r' v ∧ r'.length < n ∧ lenW r ≤ lenW r' := by
  intro k
  induction k using Nat.strongRecOn with
  | ind k ih =>
    intro r u v hk hu h
    by_cases hn : r.length < n
    · exact ⟨r, h, hn, Int.le_refl _⟩
    · obtain ⟨p, c, q, m, hr, h1, h2, h3, h4, h5⟩ := loop_in hL hu h (by omega)
      have hc := hN m c h2 h4 h5
      obtain ⟨r', k1, k2, k3⟩ := ih (p ++ q).length (by rw [← hk, hr]; simp; omega) (p ++ q) u v rfl hu (isW_app.2 ⟨m, h1, h3⟩)
      refine ⟨r', k1, k2, ?_⟩
      rw [hr, lenW_app, lenW_app]
      rw [lenW_app] at k3
      omega

/-! ### starts that keep all arcs -/
def Keeps (L : List LArc) (s : List Int) : Prop := ∀ a ∈ L, s.getD a.1 0 + a.2.2 ≤ s.getD a.2.1 0
theorem keeps_way {s : List Int} (h : Keeps L s) : ∀ {r : List LArc} {u v : Nat}, isW L u r v → s.getD u 0 + lenW r ≤ s.getD v 0
  | [], u, v, e => by rw [show u = v from e]; simp [lenW]
  | a :: r, u, v, ⟨h1, h2, h3⟩ => by
    have k1 := h a h1
    have k2 := keeps_way h h3
    rw [h2] at k1
    simp only [lenW]
    omega
theorem keeps_noPos {s : List Int} (h : Keeps L s) (n : Nat) : NoPos L n := fun u c hc _ _ => by
  have := keeps_way h hc
  omega

/-! ### raising starts -/
def rel1 (s : List Int) (a : LArc) : List Int := if s.getD a.1 0 + a.2.2 > s.getD a.2.1 0 then s.set a.2.1 (s.getD a.1 0 + a.2.2) else s
def relL (L : List LArc) (s : List Int) : List Int := L.foldl rel1 s
/-- is one raised -/
def upL : List LArc → List Int → Bool
  | [], _ => false
  | a :: L, s => decide (s.getD a.1 0 + a.2.2 > s.getD a.2.1 0) || upL L (rel1 s a)
theorem rel1_len (s : List Int) (a : LArc) : (rel1 s a).length = s.length := by unfold rel1; split <;> simp
theorem relL_len : ∀ (L : List LArc) (s : List Int), (relL L s).length = s.length
  | [], _ => rfl
  | a :: L, s => by
    have := relL_len L (rel1 s a)
    simp only [relL, List.foldl_cons] at this ⊢
    rw [this, rel1_len]
theorem getD_set (s : List Int) (i j : Nat) (x : Int) (hi : i < s.length) : (s.set i x).getD j 0 = if i = j then x else s.getD j 0 := by
  rw [List.getD_eq_getElem?_getD, List.getD_eq_getElem?_getD]
  by_cases h : i = j
  · subst h
    rw [List.getElem?_set_self hi, if_pos rfl]; rfl
  · rw [List.getElem?_set_ne h, if_neg h]
theorem rel1_get {s : List Int} {a : LArc} (ha : a.2.1 < s.length) (v : Nat) : (rel1 s a).getD v 0 = if a.2.1 = v then max (s.getD v 0) (s.getD a.1 0 + a.2.2) else s.getD v 0 := by
  unfold rel1
  by_cases h : s.getD a.1 0 + a.2.2 > s.getD a.2.1 0
  · rw [if_pos h, getD_set _ _ _ _ ha]
    split
    · rename_i e
      subst e
      omega
    · rfl
  · rw [if_neg h]
    split
    · rename_i e
      subst e
      omega
    · rfl
theorem upL_false : ∀ {L : List LArc} {s : List Int}, upL L s = false → relL L s = s ∧ Keeps L s
  | [], s, _ => ⟨rfl, fun a h => by cases h⟩
  | a :: L, s, h => by
    simp only [upL, Bool.or_eq_false_iff, decide_eq_false_iff_not] at h
    obtain ⟨h1, h2⟩ := h
    have e : rel1 s a = s := by unfold rel1; rw [if_neg h1]
    rw [e] at h2
    obtain ⟨k1, k2⟩ := upL_false h2
    refine ⟨?_, fun b hb => ?_⟩
    · simp only [relL, List.foldl_cons, e]; exact k1
    · rcases List.mem_cons.1 hb with rfl | hb
      · omega
      · exact k2 b hb
theorem upL_keeps : ∀ {L : List LArc} {s : List Int}, Keeps L s → upL L s = false
  | [], _, _ => rfl
  | a :: L, s, h => by
    have h1 := h a (by simp)
    have e : rel1 s a = s := by unfold rel1; rw [if_neg (by omega)]
    simp only [upL, e, Bool.or_eq_false_iff, decide_eq_false_iff_not]
    exact ⟨by omega, upL_keeps fun b hb => h b (by simp [hb])⟩
/-- raised at least along each arc -/
theorem relL_ge {n : Nat} : ∀ {L : List LArc} {s : List Int}, s.length = n → (∀ a ∈ L, a.2.1 < n) → (∀ v, s.getD v 0 ≤ (relL L s).getD v 0) ∧ ∀ a ∈ L, s.getD a.1 0 + a.2.2 ≤ (relL L s).getD a.2.1 0
  | [], s, _, _ => ⟨fun v => Int.le_refl _, fun a h => by cases h⟩
  | a :: L, s, hs, hL => by
    have ha := hL a (by simp)
    obtain ⟨k1, k2⟩ := relL_ge (L := L) (s := rel1 s a) (by rw [rel1_len, hs]) (fun b hb => hL b (by simp [hb]))
    have e : relL (a :: L) s = relL L (rel1 s a) := rfl
    rw [e]
    have g := fun v => rel1_get (s := s) (a := a) (by omega) v
    have g1 : ∀ v, s.getD v 0 ≤ (rel1 s a).getD v 0 := fun v => by
      rw [g]; split <;> omega
    refine ⟨fun v => Int.le_trans (g1 v) (k1 v), fun b hb => ?_⟩
    rcases List.mem_cons.1 hb with rfl | hb
    · refine Int.le_trans ?_ (k1 _)
      rw [g, if_pos rfl]; omega
    · have := k2 b hb
      have h0 := g1 b.1
      omega
/-- what the starts are: lengths of ways -/
def Ways (L : List LArc) (n : Nat) (s : List Int) : Prop := ∀ v, v < n → ∃ u r, u < n ∧ isW L u r v ∧ lenW r = s.getD v 0
theorem rel1_ways {n : Nat} {L : List LArc} (hL : ∀ a ∈ L, a.1 < n ∧ a.2.1 < n) {s : List Int} (hs : s.length = n) (hw : Ways L n s) {a : LArc} (ha : a ∈ L) : Ways L n (rel1 s a) := fun v hv => by
  rw [rel1_get (by have := (hL a ha).2; omega)]
  by_cases h : a.2.1 = v
  · rw [if_pos h]
    by_cases hm : s.getD a.1 0 + a.2.2 ≤ s.getD v 0
    · obtain ⟨u, r, h1, h2, h3⟩ := hw v hv
      exact ⟨u, r, h1, h2, by omega⟩
    · obtain ⟨u, r, h1, h2, h3⟩ := hw a.1 (hL a ha).1
      refine ⟨u, r ++ [a], h1, isW_app.2 ⟨a.1, h2, ha, rfl, h⟩, ?_⟩
      rw [lenW_app, h3]
      simp only [lenW]
      omega
  · rw [if_neg h]; exact hw v hv
theorem relL_ways {n : Nat} {L0 : List LArc} (hL : ∀ a ∈ L0, a.1 < n ∧ a.2.1 < n) : ∀ {L : List LArc} {s : List Int}, (∀ a ∈ L, a ∈ L0) → s.length = n → Ways L0 n s → Ways L0 n (relL L s)
  | [], _, _, _, h => h
  | a :: L, s, hs0, hs, hw => relL_ways hL (L := L) (s := rel1 s a) (fun b hb => hs0 b (by simp [hb])) (by rw [rel1_len, hs]) (rel1_ways hL hs hw (hs0 a (by simp)))

/-- the least starts: at most m more rounds -/
def lev (L : List LArc) : Nat → List Int → List Int × Bool
  | 0, s => (s, !upL L s)
  | m + 1, s => if upL L s = false then (s, true) else lev L m (relL L s)
def levels (L : List LArc) (n : Nat) : List Int × Bool := lev L n (List.replicate n 0)

theorem lev_inv {n : Nat} {L : List LArc} (hL : ∀ a ∈ L, a.1 < n ∧ a.2.1 < n) : ∀ (m : Nat) (s : List Int), s.length = n → Ways L n s → (∀ v, 0 ≤ s.getD v 0) →
    (lev L m s).1.length = n ∧ Ways L n (lev L m s).1 ∧ (∀ v, 0 ≤ (lev L m s).1.getD v 0) ∧ ((lev L m s).2 = true → Keeps L (lev L m s).1)
  | 0, s, hs, hw, h0 => ⟨hs, hw, h0, fun h => (upL_false (by simpa [lev] using h)).2⟩
  | m + 1, s, hs, hw, h0 => by
    unfold lev
    by_cases h : upL L s = false
    · rw [if_pos h]
      exact ⟨hs, hw, h0, fun _ => (upL_false h).2⟩
    · rw [if_neg h]
      exact lev_inv hL m _ (by rw [relL_len, hs]) (relL_ways hL (fun _ h => h) hs hw) fun v => Int.le_trans (h0 v) ((relL_ge hs (fun a ha => (hL a ha).2)).1 v)
theorem ways_zero (L : List LArc) (n : Nat) : Ways L n (List.replicate n 0) := fun v hv => ⟨v, [], hv, rfl, by simp [lenW, List.getD_eq_getElem?_getD, hv]⟩
theorem zero_get (n v : Nat) : (List.replicate n (0 : Int)).getD v 0 = 0 := by
  rw [List.getD_eq_getElem?_getD]
  by_cases h : v < n <;> simp [h]

/-- behind k rounds, starts are not less than ways of at most k arcs -/
theorem lev_ok {n : Nat} {L : List LArc} (hL : ∀ a ∈ L, a.1 < n ∧ a.2.1 < n) (hN : NoPos L n) : ∀ (m k : Nat) (s : List Int), m + k = n → s.length = n → Ways L n s → (∀ v, 0 ≤ s.getD v 0) → (∀ r u v, isW L u r v → u < n → r.length ≤ k → lenW r ≤ s.getD v 0) → (lev L m s).2 = true := by
  intro m
  induction m with
  | zero =>
    intro k s hk hs hw h0 hr
    have : Keeps L s := fun a ha => by
      obtain ⟨h1, h2⟩ := hL a ha
      obtain ⟨u, r, k1, k2, k3⟩ := hw a.1 h1
      obtain ⟨r', q1, q2, q3⟩ := short hL hN _ (r ++ [a]) u a.2.1 rfl k1 (isW_app.2 ⟨a.1, k2, ha, rfl, rfl⟩)
      have := hr r' u a.2.1 q1 k1 (by omega)
      rw [lenW_app] at q3
      simp only [lenW] at q3
      omega
    simp [lev, upL_keeps this]
  | succ m ih =>
    intro k s hk hs hw h0 hr
    unfold lev
    by_cases h : upL L s = false
    · rw [if_pos h]
    · rw [if_neg h]
      have hge := relL_ge hs (fun a ha => (hL a ha).2)
      refine ih (k + 1) _ (by omega) (by rw [relL_len, hs]) (relL_ways hL (fun _ h => h) hs hw) (fun v => Int.le_trans (h0 v) (hge.1 v)) fun r u v hw' hu hl => ?_
      by_cases he : r = []
      · subst he
        have : u = v := hw'
        subst this
        exact Int.le_trans (by simpa [lenW] using h0 u) (hge.1 u)
      · obtain ⟨q, a, rfl⟩ : ∃ q a, r = q ++ [a] := ⟨r.dropLast, r.getLast he, (List.dropLast_concat_getLast he).symm⟩
        obtain ⟨m', k1, k2, k3, k4⟩ := isW_app.1 hw'
        have e : a.2.1 = v := k4
        subst e
        have h1 := hr q u m' k1 hu (by simp at hl; omega)
        have h2 := hge.2 a k2
        rw [← k3] at h1
        rw [lenW_app]
        simp only [lenW]
        omega
theorem levels_ok {n : Nat} {L : List LArc} (hL : ∀ a ∈ L, a.1 < n ∧ a.2.1 < n) : (levels L n).2 = true ↔ NoPos L n := by
  constructor
  · intro h
    exact keeps_noPos ((lev_inv hL n _ (by simp) (ways_zero L n) (fun v => by rw [zero_get]; exact Int.le_refl _)).2.2.2 h) n
  · intro h
    refine lev_ok hL h n 0 _ (by omega) (by simp) (ways_zero L n) (fun v => by rw [zero_get]; exact Int.le_refl _) fun r u v hw _ hl => ?_
    have : r = [] := List.length_eq_zero_iff.1 (by omega)
    subst this
    rw [zero_get]; simp [lenW]
/-- the least starts -/
theorem levels_least {n : Nat} {L : List LArc} (hL : ∀ a ∈ L, a.1 < n ∧ a.2.1 < n) : (levels L n).1.length = n ∧ (∀ v, 0 ≤ (levels L n).1.getD v 0) ∧ Ways L n (levels L n).1 ∧ ((levels L n).2 = true → Keeps L (levels L n).1) ∧
    ∀ x : List Int, Keeps L x → (∀ v, v < n → 0 ≤ x.getD v 0) → ∀ v, v < n → (levels L n).1.getD v 0 ≤ x.getD v 0 := by
  obtain ⟨h1, h2, h3, h4⟩ := lev_inv hL n _ (by simp) (ways_zero L n) (fun v => by rw [zero_get]; exact Int.le_refl _)
  refine ⟨h1, h3, h2, h4, fun x hx h0 v hv => ?_⟩
  obtain ⟨u, r, k1, k2, k3⟩ := h2 v hv
  have := keeps_way hx k2
  have := h0 u k1
  unfold levels
  omega
end
end Cy
end Go.Proofs.Ytemklhljjaniaaa
/-
  Cycle: relax.
-/
namespace Go.Proofs.Ytemklhljjaniaaa
namespace Cy
open Go

/-- the arcs, plain -/
def lar (p : Int) (l : List CArc) : List LArc := l.map fun a => (a.f.toNat, a.t.toNat, a.len p)
theorem wAs_len (p : Int) (l : List CArc) : (wAs p (num l)).length = l.length := by simp [wAs, num_len]
theorem wAs_at (p : Int) {l : List CArc} {i : Nat} (hi : i < l.length) : (wAs p (num l))[i]? = some (wA p (l[i], i)) := by
  simp [wAs, num_get l i hi]
theorem web_at (p : Int) {l : List CArc} {i : Nat} (hi : i < l.length) (A : Arena) (k : IntKind) : evIndexSl 6 A (slA 6 (wAs p (num l))) (.int k (i : Int)) = some (.fp [.int .i64 l[i].f, .int .i64 l[i].t, .int .i64 l[i].w, .int .i64 l[i].k, .int .i64 (i : Int), .int .i64 (l[i].len p)]) :=
  (slA_holds 6 (wAs p (num l))).index (A := A) (wAs_at p hi) rfl (by omega) k
def getZ (s : List Int) (i : Nat) : Int := s.getD i 0
theorem intsA_get {s : List Int} {i : Nat} (h : i < s.length) : (intsA s)[i]? = some (.int .i64 (s.getD i 0)) := by
  simp [intsA, h]
/-- what relaxing keeps -/
def Bd (lo hi : Int) (s : List Int) : Prop := ∀ v, v < s.length → lo ≤ s.getD v 0 ∧ s.getD v 0 ≤ hi
theorem rel1_bd {lo hi : Int} {s : List Int} {a : LArc} (h : Bd lo hi s) (hf : a.1 < s.length) (ht : a.2.1 < s.length) (hw : a.2.2 ≤ 3000000) : Bd lo (hi + 3000000) (rel1 s a) := fun v hv => by
  rw [rel1_len] at hv
  rw [rel1_get ht]
  have h1 := h v hv
  have h2 := h _ hf
  split <;> omega
theorem lar_at {p : Int} {l : List CArc} {i : Nat} (hi : i < l.length) : (lar p l)[i]? = some (l[i].f.toNat, l[i].t.toNat, l[i].len p) := by simp [lar, hi]
theorem relL_take {L : List LArc} {i : Nat} {a : LArc} (h : L[i]? = some a) (s : List Int) : relL (L.take (i + 1)) s = rel1 (relL (L.take i) s) a := by
  obtain ⟨hi, rfl⟩ := List.getElem?_eq_some_iff.1 h
  unfold relL
  rw [List.take_succ_eq_append_getElem hi, List.foldl_append]
  rfl
theorem upL_take : ∀ {L : List LArc} {i : Nat} {a : LArc}, L[i]? = some a → ∀ s, upL (L.take (i + 1)) s = (upL (L.take i) s || decide ((relL (L.take i) s).getD a.1 0 + a.2.2 > (relL (L.take i) s).getD a.2.1 0))
  | [], i, a, h, s => by simp at h
  | b :: L, 0, a, h, s => by
    simp at h; subst h
    simp [upL, relL]
  | b :: L, i + 1, a, h, s => by
    simp only [List.getElem?_cons_succ] at h
    have := upL_take h (rel1 s b)
    simp only [List.take_succ_cons, upL, this, Bool.or_assoc]
    rfl
def R37a : MC := .region [⟨none, .indexSl 6 (.var 5) (.var 7), none⟩, ⟨none, .load true 6 (.tmp 0), none⟩, ⟨some 3, .alloc 6 (.agg [.int .i64 0, .int .i64 0, .int .i64 0, .int .i64 0, .int .i64 0, .int .i64 0]), none⟩, ⟨none, .store 6 (.var 3) (.tmp 1), none⟩]
def R37b : MC := .region [⟨none, .mv (.var 1), none⟩, ⟨none, .fieldAddr 0 (.var 3), none⟩, ⟨none, .fieldAddr 0 (.tmp 1), none⟩, ⟨none, .load false 1 (.tmp 2), none⟩, ⟨none, .indexSl 1 (.tmp 0) (.tmp 3), none⟩, ⟨none, .load false 1 (.tmp 4), none⟩, ⟨none, .fieldAddr 5 (.var 3), none⟩, ⟨none, .load false 1 (.tmp 6), none⟩, ⟨none, .bin .add (.tmp 5) (.tmp 7), none⟩, ⟨some 4, .mv (.tmp 8), none⟩]
def R37c : MC := .region [⟨none, .mv (.var 4), none⟩, ⟨none, .mv (.var 1), none⟩, ⟨none, .fieldAddr 0 (.var 3), none⟩, ⟨none, .fieldAddr 1 (.tmp 2), none⟩, ⟨none, .load false 1 (.tmp 3), none⟩, ⟨none, .indexSl 1 (.tmp 1) (.tmp 4), none⟩, ⟨none, .load false 1 (.tmp 5), none⟩, ⟨some 9, .bin .gtr (.tmp 0) (.tmp 6), none⟩]
def R37d : MC := .region [⟨none, .mv (.var 1), none⟩, ⟨none, .fieldAddr 0 (.var 3), none⟩, ⟨none, .fieldAddr 1 (.tmp 1), none⟩, ⟨none, .load false 1 (.tmp 2), none⟩, ⟨none, .mv (.var 4), none⟩, ⟨none, .indexSl 1 (.tmp 0) (.tmp 3), none⟩, ⟨none, .store 1 (.tmp 5) (.tmp 4), none⟩, ⟨some 2, .mv (.cst (.bool true)), none⟩]
theorem R37_eq : lp37x0 = .seq (.region [⟨some 8, .bin .lss (.var 7) (.var 6), none⟩]) (.seq (.cond (.var 8) .skip (.exit 0)) (.seq (.seq (.block 1 (.seq R37a (.seq R37b (.seq R37c (.cond (.var 9) R37d .skip))))) (.kill [0, 3, 4, 8, 9])) (.region [⟨none, .bin .add (.var 7) (.cst (.int .i64 1)), none⟩, ⟨some 7, .mv (.tmp 0), none⟩]))) := rfl
set_option maxRecDepth 100000 in
theorem r37a (E : Env) (fuel : Nat) (K : List KC) (A : Arena) (X : MC) {p : Int} {l : List CArc} {i : Nat} (hi : i < l.length) (v1 v2 v6 v8 : AV) :
    run E fuel (.code (.seq R37a X) :: K) [.undef, v1, v2, .undef, .undef, slA 6 (wAs p (num l)), v6, .int .i64 (i : Int), v8, .undef] A =
      run E fuel (.code X :: K) [.undef, v1, v2, .ptr A.length 0 0, .undef, slA 6 (wAs p (num l)), v6, .int .i64 (i : Int), v8, .undef] (A ++ [.row 6 false [wA p (l[i], i)]]) := by
  have x1 := web_at p hi A .i64
  obtain ⟨W, hW⟩ : ∃ W, W = slA 6 (wAs p (num l)) := ⟨_, rfl⟩
  rw [← hW] at x1 ⊢
  simp [R37a, x1, wA, -evIndexSl]
/-- the arena of the starts under way -/
def SInv (A0 : Arena) (id : Nat) (s : List Int) (A : Arena) : Prop := A[id]? = some (.row 1 false (intsA s)) ∧ A0.length ≤ A.length ∧ ∀ j, j ≠ id → j < A0.length → A[j]? = A0[j]?
theorem intsA_set (s : List Int) (i : Nat) (z : Int) : (intsA s).set i (.int .i64 z) = intsA (s.set i z) := by
  unfold intsA; rw [List.map_set]
set_option maxRecDepth 100000 in
theorem round37 (E : Env) (fuel : Nat) {A0 A : Arena} {id n : Nat} {s : List Int} {p : Int} {l : List CArc} (hn : s.length = n) (hp : isPer p) (hv : ∀ x ∈ l, okA n x) (hn32 : n ≤ 32) (hl200 : l.length ≤ 200) {i : Nat} (hi : i < l.length) {b : Bool} (hb : Bd (-100000000000000) 100000000000000 s) (_hid : id < A0.length) (hI : SInv A0 id s A) :
    ∃ A', run E fuel [.code lp37x0] (st37x0 (.sl id 0 n) (.bool b) (slA 6 (wAs p (num l))) (.int .i64 (l.length : Int)) (.int .i64 (i : Int))) A = some (.normal (st37x0 (.sl id 0 n) (.bool (b || decide (s.getD l[i].f.toNat 0 + l[i].len p > s.getD l[i].t.toNat 0))) (slA 6 (wAs p (num l))) (.int .i64 (l.length : Int)) (.int .i64 ((i + 1 : Nat) : Int))) A') ∧ SInv A0 id (rel1 s (l[i].f.toNat, l[i].t.toNat, l[i].len p)) A' := by
  obtain ⟨g1, g2, g3⟩ := hI
  have hmem := hv _ (List.getElem_mem hi)
  obtain ⟨f, hf, hfn⟩ := nat_of hmem.1
  obtain ⟨t, ht, htn⟩ := nat_of hmem.2.1
  have hv32 : okA 32 l[i] := by
    obtain ⟨h1, h2, h3, h4⟩ := hmem
    exact ⟨by omega, by omega, h3, h4⟩
  obtain ⟨k1, k2, _, _⟩ := len_in hv32 hp
  obtain ⟨w, hw⟩ : ∃ w, w = l[i].len p := ⟨_, rfl⟩
  obtain ⟨B, hB⟩ : ∃ B, B = A ++ [.row 6 false [wA p (l[i], i)]] := ⟨_, rfl⟩
  have r1 := fun K X => r37a E fuel K A X (p := p) hi (.sl id 0 n) (.bool b) (.int .i64 (l.length : Int)) (.bool true)
  rw [← hB] at r1
  have hidA : id < A.length := (List.getElem?_eq_some_iff.1 g1).1
  have c1 : B[id]? = some (.row 1 false (intsA s)) := by rw [hB, List.getElem?_append_left hidA]; exact g1
  have c8 : B[A.length]? = some (.row 6 false [.agg [.int .i64 (f : Int), .int .i64 (t : Int), .int .i64 l[i].w, .int .i64 l[i].k, .int .i64 (i : Int), .int .i64 w]]) := by
    rw [hB, hw]; simp [wA, hf, ht]
  obtain ⟨i8, hi8⟩ : ∃ i8, i8 = A.length := ⟨_, rfl⟩
  rw [← hi8] at r1 c8
  have hBl : A0.length ≤ B.length := by rw [hB]; simp; omega
  have hBo : ∀ j, j ≠ id → j < A0.length → B[j]? = A0[j]? := fun j hj hl => by rw [hB, List.getElem?_append_left (by omega)]; exact g3 j hj hl
  have ef := intsA_get (s := s) (i := f) (by omega)
  have et := intsA_get (s := s) (i := t) (by omega)
  have bf := hb f (by omega)
  have bt := hb t (by omega)
  rw [← hw] at k1 k2
  have e1 : l[i].f.toNat = f := by omega
  have e2 : l[i].t.toNat = t := by omega
  rw [e1, e2, ← hw]
  obtain ⟨x, hx⟩ : ∃ x, x = s.getD f 0 := ⟨_, rfl⟩
  obtain ⟨y, hy⟩ : ∃ y, y = s.getD t 0 := ⟨_, rfl⟩
  rw [← hx] at ef bf ⊢
  rw [← hy] at et bt ⊢
  have b2 : evBin .add (.int .i64 x) (.int .i64 w) = some (.int .i64 (x + w)) := by
    simp only [evBin]; rw [if_pos trivial, wrapI (by unfold inI; omega)]
  have b4 : evBin .gtr (.int .i64 (x + w)) (.int .i64 y) = some (.bool (decide (x + w > y))) := by simp [evBin]
  have b1 := lt_nat i l.length .i64
  rw [decide_eq_true hi] at b1
  have b3 := add1_nat i (by omega)
  obtain ⟨i1, hi1⟩ : ∃ i1 : Nat, i1 = i + 1 := ⟨_, rfl⟩
  rw [← hi1] at b3 ⊢
  have er : rel1 s (f, t, w) = if x + w > y then s.set t (x + w) else s := by unfold rel1; rw [hx, hy]
  rw [er]
  obtain ⟨z, hz⟩ : ∃ z, z = x + w := ⟨_, rfl⟩
  rw [← hz] at b2 b4 ⊢
  obtain ⟨W, hW⟩ : ∃ W, W = slA 6 (wAs p (num l)) := ⟨_, rfl⟩
  rw [← hW] at r1 ⊢
  have hfn' : f < n := by omega
  have htn' : t < n := by omega
  by_cases hc : z > y
  · rw [if_pos hc]
    rw [decide_eq_true hc] at b4 ⊢
    refine ⟨B.set id (.row 1 false (intsA (s.set t z))), ?_, ?_, ?_, ?_⟩
    · rw [← intsA_set]
      rw [R37_eq]
      simp [b1, b3, r1, R37b, R37c, R37d, c1, c8, ef, et, b2, b4, hfn', htn', -evBin]
    · exact List.getElem?_set_self (by rw [hB]; simp; omega)
    · simp; omega
    · intro j hj hl
      rw [List.getElem?_set_ne (Ne.symm hj)]; exact hBo j hj hl
  · rw [if_neg hc]
    rw [decide_eq_false hc] at b4 ⊢
    refine ⟨B, ?_, c1, hBl, hBo⟩
    rw [R37_eq]
    simp [b1, b3, r1, R37b, R37c, R37d, c1, c8, ef, et, b2, b4, hfn', htn', -evBin]
theorem ev37 {E : Env} {A : Arena} {id n : Nat} {s : List Int} {p : Int} {l : List CArc} (hn : s.length = n) (hp : isPer p) (hv : ∀ x ∈ l, okA n x) (hn32 : n ≤ 32) (hl200 : l.length ≤ 200) {hi : Int} (hb : Bd (-1000000000000) hi s) (hhi : hi ≤ 1000000000000) (hid : A[id]? = some (.row 1 false (intsA s))) :
    ∃ A', evFun E 300 mf37 [webT n p l, .sl id 0 n] A = some (.bool (upL (lar p l) s), A') ∧ SInv A id (relL (lar p l) s) A' := by
  have hlt := (List.getElem?_eq_some_iff.1 hid).1
  have hlen : (lar p l).length = l.length := by simp [lar]
  have bd : ∀ i, i ≤ l.length → Bd (-1000000000000) (hi + 3000000 * i) (relL ((lar p l).take i) s) := by
    intro i
    induction i with
    | zero => intro _; simpa [relL] using hb
    | succ i ih =>
      intro hi'
      have h1 := ih (by omega)
      have h2 := lar_at (p := p) (l := l) (i := i) (by omega)
      rw [relL_take h2]
      have hmem := hv _ (List.getElem_mem (show i < l.length by omega))
      obtain ⟨q1, q2, q3, q4⟩ := hmem
      have hle := len_in (n := 32) (a := l[i]) ⟨by omega, by omega, q3, q4⟩ hp
      have := rel1_bd (a := (l[i].f.toNat, l[i].t.toNat, l[i].len p)) h1 (by rw [relL_len]; simp only; omega) (by rw [relL_len]; simp only; omega) (by simp only; omega)
      intro v hv'
      have := this v hv'
      omega
  obtain ⟨o, h1, A', h2, h3⟩ := iter_inv (E := E) (fuel := 300) (a := lp37x0) (mask := mask37x0) (fun k σ B => ∃ i, i + k = l.length ∧ σ = st37x0 (.sl id 0 n) (.bool (upL ((lar p l).take i) s)) (slA 6 (wAs p (num l))) (.int .i64 (l.length : Int)) (.int .i64 (i : Int)) ∧ SInv A id (relL ((lar p l).take i) s) B)
    (fun o => ∃ A', SInv A id (relL (lar p l) s) A' ∧ o = .exit 0 ((st37x0 (.sl id 0 n) (.bool (upL (lar p l) s)) (slA 6 (wAs p (num l))) (.int .i64 (l.length : Int)) (.int .i64 (l.length : Int))).set 8 (.bool false)) A')
    (by
      rintro k σ B ⟨i, hik, rfl, hI⟩
      rw [cl37x0]
      by_cases hi' : i < l.length
      · have hb' := bd i (by omega)
        have h2 := lar_at (p := p) hi'
        obtain ⟨B', h1, h3⟩ := round37 E 300 (s := relL ((lar p l).take i) s) (n := n) (b := upL ((lar p l).take i) s) (by rw [relL_len, hn]) hp hv hn32 hl200 hi' (fun v hv' => by have := hb' v hv'; omega) hlt hI
        refine .inl ⟨_, _, h1, k - 1, by omega, i + 1, by omega, ?_, ?_⟩
        · rw [upL_take h2]
        · rw [relL_take h2]; exact h3
      · obtain rfl : i = l.length := by omega
        rw [List.take_of_length_le (by omega)] at hI ⊢
        refine .inr ⟨_, ?_, ?_, B, hI, rfl⟩
        · simp [lp37x0]
        · intro _ _ h; cases h)
    300 l.length (st37x0 (.sl id 0 n) (.bool false) (slA 6 (wAs p (num l))) (.int .i64 (l.length : Int)) (.int .i64 0)) A (by omega) ⟨0, by omega, by simp [upL], by simpa [relL] using ⟨hid, Nat.le_refl _, fun _ _ _ => rfl⟩⟩
  refine ⟨A', ?_, h2⟩
  subst h3
  rw [evFun_run _ _ rfl]
  have hlen2 : evLenSl (slA 6 (wAs p (num l))) = some (.int .i64 (l.length : Int)) := by rw [len_slA, wAs_len]
  unfold webT
  obtain ⟨W, hW⟩ : ∃ W, W = slA 6 (wAs p (num l)) := ⟨_, rfl⟩
  rw [← hW] at h1 hlen2 ⊢
  simp [mf37, hlen2, go37x0 h1, pack, -evLenSl]
theorem spec37 : FnSpecY Try.prog GC 62 (fun _ => evFun (envOf GC []) 300 mf37) := (evFun_sound (envOf_sound lookM_nil) rfl at37 comp37 PureIn.nil).y
end Cy
end Go.Proofs.Ytemklhljjaniaaa
/-
  Cycle: Clone; levels.
-/
namespace Go.Proofs.Ytemklhljjaniaaa
namespace Cy
open Go

theorem intsA_len (xs : List Int) : (intsA xs).length = xs.length := by simp [intsA]
theorem ev38 (E : Env) (fuel : Nat) {A : Arena} {a : AV} {xs : List Int} (h : Holds A 1 a (intsA xs)) (hne : xs ≠ []) (hl : xs.length ≤ 1000) : evFun E fuel mf38 [a] A = some (.sl (A.length + 1) 0 xs.length, A ++ [.dead, .row 1 false (intsA xs)]) := by
  have hne' : intsA xs ≠ [] := by simpa [intsA] using hne
  have hlen : (intsA xs).length = xs.length := by simp [intsA]
  rw [evFun_run _ _ rfl]
  obtain ⟨es, hes⟩ : ∃ es, es = intsA xs := ⟨_, rfl⟩
  rw [← hes] at h hne' hlen ⊢
  rw [← hlen] at hl ⊢
  have hb : es.length * 8 ≤ 140737488355328 := by omega
  rcases h with h | ⟨id, off, gr, rs, rfl, h1, h2⟩
  · rcases h with ⟨_, h⟩ | rfl
    · exact absurd h hne'
    · simp [mf38, pack, evAppend, srcElems, hb]
  · have hid := (List.getElem?_eq_some_iff.1 h1).1
    have h1' : ∀ T, (A ++ T)[id]? = some (.row 1 gr rs) := fun T => by rw [List.getElem?_append_left hid, h1]
    simp [mf38, pack, evAppend, srcElems, h1', h2, hb]
theorem spec38 : FnSpecY Try.prog GC 63 (fun _ => evFun (envOf GC []) 0 mf38) := (evFun_sound (envOf_sound lookM_nil) rfl at38 comp38 PureIn.nil).y

/-! ### levels -/
noncomputable def fs26 : List (FuncId × HModel) := [(62, fun _ => evFun (envOf GC []) 300 mf37), (63, fun _ => evFun (envOf GC []) 0 mf38)]
@[simp] theorem fs26_37 : lookM fs26 62 = some (fun _ => evFun (envOf GC []) 300 mf37) := rfl
@[simp] theorem fs26_38 : lookM fs26 63 = some (fun _ => evFun (envOf GC []) 0 mf38) := rfl
theorem sound26 : ∀ f M, lookM fs26 f = some M → FnSpecY Try.prog GC f M := lookM_cons spec37 (lookM_cons spec38 lookM_nil)
noncomputable def M26 : PModel := fun args => evF (envOf GC fs26) 300 mf26 5 args
theorem spec26F : PureSpecF Try.prog GC 56 M26 := PureSpecF.of_ev (E := envOf GC fs26) (envOf_sound sound26) rfl at26 comp26 5 fun _ _ h => ⟨300, h⟩

theorem relL_bd {n : Nat} {p : Int} {l : List CArc} (hp : isPer p) (hv : ∀ x ∈ l, okA n x) (hn32 : n ≤ 32) (hl200 : l.length ≤ 200) {lo hi : Int} {s : List Int} (hs : s.length = n) (hb : Bd lo hi s) : Bd lo (hi + 600000000) (relL (lar p l) s) := by
  have hlen : (lar p l).length = l.length := by simp [lar]
  have bd : ∀ i, i ≤ l.length → Bd lo (hi + 3000000 * i) (relL ((lar p l).take i) s) := by
    intro i
    induction i with
    | zero => intro _; simpa [relL] using hb
    | succ i ih =>
      intro hi'
      have h1 := ih (by omega)
      have h2 := lar_at (p := p) (l := l) (i := i) (by omega)
      rw [relL_take h2]
      have hmem := hv _ (List.getElem_mem (show i < l.length by omega))
      obtain ⟨q1, q2, q3, q4⟩ := hmem
      have hle := len_in (n := 32) (a := l[i]) ⟨by omega, by omega, q3, q4⟩ hp
      have := rel1_bd (a := (l[i].f.toNat, l[i].t.toNat, l[i].len p)) h1 (by rw [relL_len]; simp only; omega) (by rw [relL_len]; simp only; omega) (by simp only; omega)
      intro v hv'
      have := this v hv'
      omega
  have := bd l.length (Nat.le_refl _)
  rw [List.take_of_length_le (by omega)] at this
  intro v hv'
  have := this v hv'
  omega
theorem call37 {A : Arena} {id n : Nat} {s : List Int} {p : Int} {l : List CArc} (hn : s.length = n) (hp : isPer p) (hv : ∀ x ∈ l, okA n x) (hn32 : n ≤ 32) (hl200 : l.length ≤ 200) {hi : Int} (hb : Bd (-1000000000000) hi s) (hhi : hi ≤ 1000000000000) (hid : A[id]? = some (.row 1 false (intsA s))) :
    ∃ A', evFun (envOf GC []) 300 mf37 [webT n p l, .sl id 0 n] A = some (.bool (upL (lar p l) s), A') ∧ SInv A id (relL (lar p l) s) A' := ev37 hn hp hv hn32 hl200 hb hhi hid
/-- the starts behind k rounds -/
def relN (L : List LArc) : Nat → List Int → List Int
  | 0, s => s
  | k + 1, s => relL L (relN L k s)
theorem relN_len (L : List LArc) (s : List Int) : ∀ k, (relN L k s).length = s.length
  | 0 => rfl
  | k + 1 => by rw [relN, relL_len, relN_len L s k]
theorem relN_up {L : List LArc} {s : List Int} (h : upL L s = false) : ∀ k, relN L k s = s
  | 0 => rfl
  | k + 1 => by rw [relN, relN_up h k, (upL_false h).1]
theorem relN_succ (L : List LArc) (s : List Int) : ∀ k, relN L (k + 1) s = relN L k (relL L s)
  | 0 => rfl
  | k + 1 => by rw [relN, relN_succ L s k]; rfl
theorem lev_eq (L : List LArc) : ∀ (m : Nat) (s : List Int), lev L m s = if _h : ∃ k, k < m ∧ upL L (relN L k s) = false then (relN L m s, true) else (relN L m s, !upL L (relN L m s))
  | 0, s => by
    rw [dif_neg (by rintro ⟨k, h, _⟩; omega)]; rfl
  | m + 1, s => by
    unfold lev
    by_cases h : upL L s = false
    · rw [if_pos h, dif_pos ⟨0, by omega, h⟩, relN_up h]
    · rw [if_neg h, lev_eq L m, relN_succ]
      by_cases h2 : ∃ k, k < m ∧ upL L (relN L k (relL L s)) = false
      · rw [dif_pos h2]
        obtain ⟨k, hk, h3⟩ := h2
        rw [dif_pos ⟨k + 1, by omega, by rw [relN_succ]; exact h3⟩]
      · rw [dif_neg h2, dif_neg]
        rintro ⟨k, hk, h3⟩
        cases k with
        | zero => exact h h3
        | succ k => exact h2 ⟨k, by omega, by rw [relN_succ] at h3; exact h3⟩
set_option maxRecDepth 100000 in
theorem M26_eq {n : Nat} {p : Int} {l : List CArc} (hr : Ready n l p) : M26 [webT n p l] = some (.tup [slA 1 (intsA (levels (lar p l) n).1), .bool (levels (lar p l) n).2]) := by
  obtain ⟨⟨hn, hl200, hv⟩, hp⟩ := hr
  have hn32 : n ≤ 32 := by omega
  obtain ⟨L, hL⟩ : ∃ L, L = lar p l := ⟨_, rfl⟩
  obtain ⟨z, hz⟩ : ∃ z, z = List.replicate n (0 : Int) := ⟨_, rfl⟩
  have hzl : z.length = n := by rw [hz]; simp
  have hbd : ∀ k : Nat, Bd (-1000000000000) (600000000 * k) (relN L k z) := by
    intro k
    induction k with
    | zero =>
      intro v hv'
      have : (relN L 0 z).getD v 0 = 0 := by rw [relN, hz]; exact zero_get n v
      rw [this]; omega
    | succ k ih =>
      rw [relN]
      have := relL_bd hp hv hn32 hl200 (by rw [relN_len]; exact hzl) ih
      rw [← hL] at this
      intro v hv'
      have := this v hv'
      omega
  have h37 : ∀ (A : Arena) (k : Nat), k ≤ 33 → A[0]? = some (.row 1 false (intsA (relN L k z))) → ∃ A', evFun (envOf GC []) 300 mf37 [webT n p l, .sl 0 0 n] A = some (.bool (upL L (relN L k z)), A') ∧ SInv A 0 (relN L (k + 1) z) A' := fun A k hk hA => by
    have := call37 (s := relN L k z) (by rw [relN_len]; exact hzl) hp hv hn32 hl200 (hbd k) (by omega) hA
    rw [← hL] at this
    exact this
  obtain ⟨W1, O, hW⟩ : ∃ W1 O, webT n p l = .fp [.int .i64 (n : Int), W1, O] := ⟨_, _, rfl⟩
  obtain ⟨o, h1, h2⟩ := iter_inv (E := envOf GC fs26) (fuel := 300) (a := lp26x0) (mask := mask26x0) (fun k σ A => ∃ i, i + k = n ∧ σ = st26x0 (webT n p l) (.sl 0 0 n) (.int .i64 (n : Int)) (.int .i64 (i : Int)) ∧ A[0]? = some (.row 1 false (intsA (relN L i z))) ∧ ∀ j, j < i → upL L (relN L j z) = true)
    (fun o => (∃ A' i d6 d7 , i < n ∧ upL L (relN L i z) = false ∧ (∀ j, j < i → upL L (relN L j z) = true) ∧ A'[0]? = some (.row 1 false (intsA (relN L (i + 1) z))) ∧ o = .ret [webT n p l, .sl 0 0 n, .bool true, .sl 0 0 n, .int .i64 (n : Int), .int .i64 (i : Int), d6, d7] A') ∨
      (∃ A', (∀ j, j < n → upL L (relN L j z) = true) ∧ A'[0]? = some (.row 1 false (intsA (relN L n z))) ∧ o = .exit 0 ((st26x0 (webT n p l) (.sl 0 0 n) (.int .i64 (n : Int)) (.int .i64 (n : Int))).set 6 (.bool false)) A'))
    (by
      rintro k σ A ⟨i, hik, rfl, hA, hup⟩
      rw [cl26x0]
      rw [hW] at h37 ⊢
      by_cases hi' : i < n
      · obtain ⟨A', c1, c2⟩ := h37 A i (by omega) hA
        have b1 := lt_nat i n .i64
        rw [decide_eq_true hi'] at b1
        have b3 := add1_nat i (by omega)
        obtain ⟨i1, hi1⟩ : ∃ i1 : Nat, i1 = i + 1 := ⟨_, rfl⟩
        rw [← hi1] at b3
        cases hu : upL L (relN L i z) with
        | true =>
          rw [hu] at c1
          refine .inl ⟨st26x0 (.fp [.int .i64 (n : Int), W1, O]) (.sl 0 0 n) (.int .i64 (n : Int)) (.int .i64 ((i + 1 : Nat) : Int)), A', ?_, k - 1, by omega, i + 1, by omega, rfl, c2.1, fun j hj => ?_⟩
          · rw [← hi1]
            simp [lp26x0, b1, b3, c1, -evBin]
          · by_cases hji : j = i
            · rw [hji]; exact hu
            · exact hup j (by omega)
        | false =>
          rw [hu] at c1
          refine .inr ⟨.ret [.fp [.int .i64 (n : Int), W1, O], .sl 0 0 n, .bool true, .sl 0 0 n, .int .i64 (n : Int), .int .i64 (i : Int), .bool true, .bool true] A', ?_, (fun _ _ h => by cases h), .inl ⟨A', i, _, _, hi', hu, hup, c2.1, rfl⟩⟩
          simp [lp26x0, b1, c1, -evBin]
      · obtain rfl : i = n := by omega
        refine .inr ⟨_, ?_, ?_, .inr ⟨A, hup, hA, rfl⟩⟩
        · simp [lp26x0]
        · intro _ _ h; cases h)
    300 n (st26x0 (webT n p l) (.sl 0 0 n) (.int .i64 (n : Int)) (.int .i64 0)) [.row 1 false (intsA z)] (by omega) ⟨0, by omega, rfl, rfl, fun j hj => by omega⟩
  have mk : evMake 1 8 (.int .i64 0) [] (.int .i64 (n : Int)) (.int .i64 (n : Int)) = some (.sl 0 0 n, [.row 1 false (intsA z)]) := by
    have : intsA z = List.replicate n (.int .i64 0) := by rw [hz]; simp [intsA]
    rw [this]; simp [evMake]; omega
  have hfz : ∀ (A : Arena) (s : List Int), s.length = n → A[0]? = some (.row 1 false (intsA s)) → frz A 4 (.sl 0 0 n) = slA 1 (intsA s) ∧ freshB A 4 (.sl 0 0 n) = true := fun A s hs h0 => by
    constructor
    · show frz A (3 + 1) _ = _
      simp only [frz, h0, List.drop_zero]
      rw [List.take_of_length_le (by simp [intsA]; omega), frz_intsA]
      cases s with
      | nil => simp at hs; omega
      | cons x r => rfl
    · show freshB A (3 + 1) _ = _
      simp only [freshB, h0, List.drop_zero]
      rw [List.take_of_length_le (by simp [intsA]; omega)]
      exact all_fresh _ _ _
  have hf5 : ∀ (A : Arena) (s : List Int) (b : Bool), s.length = n → A[0]? = some (.row 1 false (intsA s)) → frz A 5 (.tup [.sl 0 0 n, .bool b]) = .tup [slA 1 (intsA s), .bool b] ∧ freshB A 5 (.tup [.sl 0 0 n, .bool b]) = true := fun A s b hs h0 => by
    obtain ⟨q1, q2⟩ := hfz A s hs h0
    constructor
    · show AV.tup [frz A 4 (.sl 0 0 n), frz A 4 (.bool b)] = _
      rw [q1]; rfl
    · show [AV.sl 0 0 n, .bool b].all (freshB A 4) = true
      simp only [List.all_cons, q2]; rfl
  have p1 : ∀ b, pack [.sl 0 0 n, .bool b] = .tup [.sl 0 0 n, .bool b] := fun _ => rfl
  have hlev : levels (lar p l) n = lev L n z := by unfold levels; rw [hL, hz]
  rw [hlev, lev_eq]
  unfold M26
  rw [evF_run _ _ rfl]
  rcases h2 with ⟨A', i, d6, d7, hin, hu, hup, hA', rfl⟩ | ⟨A', hup, hA', rfl⟩
  · rw [dif_pos ⟨i, hin, hu⟩]
    have hst : relN L n z = relN L (i + 1) z := by
      have e : ∀ k, relN L (i + k) z = relN L i z := fun k => by
        induction k with
        | zero => rfl
        | succ k ih => rw [show i + (k + 1) = (i + k) + 1 by omega, relN, ih, (upL_false hu).1]
      have h3 := e (n - i)
      have h4 := e 1
      rw [show i + (n - i) = n by omega] at h3
      rw [h3, h4]
    rw [hst]
    obtain ⟨q1, q2⟩ := hf5 A' _ true (by rw [relN_len]; exact hzl) hA'
    rw [hW] at h1 ⊢
    simp [mf26, mk, go26x0 h1, q1, q2, -frz, -evMake]
  · rw [dif_neg (by
      rintro ⟨k, hk, h⟩
      rw [hup k hk] at h; cases h)]
    obtain ⟨A2, c1, c2⟩ : ∃ A2, evFun (envOf GC []) 300 mf37 [webT n p l, .sl (A'.length + 1) 0 n] (A' ++ [.dead, .row 1 false (intsA (relN L n z))]) = some (.bool (upL L (relN L n z)), A2) ∧ SInv (A' ++ [.dead, .row 1 false (intsA (relN L n z))]) (A'.length + 1) (relN L (n + 1) z) A2 := by
      have := call37 (A := A' ++ [.dead, .row 1 false (intsA (relN L n z))]) (id := A'.length + 1) (s := relN L n z) (by rw [relN_len]; exact hzl) hp hv hn32 hl200 (hbd n) (by omega) (by rw [List.getElem?_append_right (by omega)]; simp)
      rw [← hL] at this
      exact this
    have hlt := (List.getElem?_eq_some_iff.1 hA').1
    have h38 := ev38 (envOf GC []) 0 (A := A') (a := .sl 0 0 n) (xs := relN L n z) (.inr ⟨0, 0, false, intsA (relN L n z), by rw [intsA_len, relN_len, hzl], hA', by rw [List.drop_zero, List.take_length]⟩) (by
      intro h
      have := congrArg List.length h
      rw [relN_len, hzl] at this
      simp at this; omega) (by rw [relN_len, hzl]; omega)
    rw [relN_len, hzl] at h38
    have hA2 : A2[0]? = some (.row 1 false (intsA (relN L n z))) := by
      rw [c2.2.2 0 (by omega) (by simp), List.getElem?_append_left hlt, hA']
    obtain ⟨q1, q2⟩ := hf5 A2 _ (!upL L (relN L n z)) (by rw [relN_len]; exact hzl) hA2
    rw [hW] at h1 c1 ⊢
    simp [mf26, mk, go26x0 h1, h38, c1, q1, q2, -frz, -evMake]
end Cy
end Go.Proofs.Ytemklhljjaniaaa
/-
  Cycle: lengths of ways: plus, more.
-/
namespace Go.Proofs.Ytemklhljjaniaaa
namespace Cy
open Go

/-- the length of a way, if there is one -/
abbrev LP := Int × Bool
def lA (x : LP) : AV := .agg [.int .i64 x.1, .bool x.2]
def plusP (x : LP) (n : Int) : LP := if x.2 = false ∧ x.1 = 0 then x else (x.1 + n, x.2)
def moreP (x y : LP) : LP := if x.2 = false ∨ (y.2 = true ∧ y.1 > x.1) then y else x
def M51 : PModel := fun args => match args with
  | [.agg [.int .i64 x, .bool b], .int .i64 n] => if -9223372036854775808 ≤ x + n ∧ x + n ≤ 9223372036854775807 then some (lA (plusP (x, b) n)) else none
  | _ => none
set_option maxRecDepth 100000 in
theorem spec51 : PureSpec Try.prog GC 86 M51 := by
  refine PureSpec.of_ev (E := envOf GC []) (envOf_sound lookM_nil) rfl at51 comp51 2 ?_
  intro args r h
  unfold M51 at h
  split at h
  · rename_i x b n
    simp only [Option.ite_none_right_eq_some, Option.some.injEq] at h
    obtain ⟨h1, rfl⟩ := h
    refine ⟨0, ?_⟩
    have b1 : evBin .add (.int .i64 x) (.int .i64 n) = some (.int .i64 (x + n)) := by
      simp only [evBin]; rw [if_pos trivial, wrapI h1]
    obtain ⟨z, hz⟩ : ∃ z, z = x + n := ⟨_, rfl⟩
    rw [← hz] at b1
    rw [evP_run _ _ rfl]
    unfold plusP lA
    simp only [← hz]
    cases b with
    | true => simp [mf51, b1, -evBin]
    | false =>
      by_cases hx : x = 0
      · subst hx
        simp [mf51, -evBin]
      · simp [mf51, b1, hx, -evBin]
  · cases h
def M52 : PModel := fun args => match args with
  | [.agg [.int .i64 x, .bool b], .agg [.int .i64 y, .bool c]] => some (lA (moreP (x, b) (y, c)))
  | _ => none
set_option maxRecDepth 100000 in
theorem spec52 : PureSpec Try.prog GC 88 M52 := by
  refine PureSpec.of_ev (E := envOf GC []) (envOf_sound lookM_nil) rfl at52 comp52 2 ?_
  intro args r h
  unfold M52 at h
  split at h
  · rename_i x b y c
    injection h with h; subst h
    refine ⟨0, ?_⟩
    have b1 : evBin .gtr (.int .i64 y) (.int .i64 x) = some (.bool (decide (y > x))) := by simp [evBin]
    rw [evP_run _ _ rfl]
    unfold moreP lA
    cases b with
    | false => simp [mf52, -evBin]
    | true =>
      cases c with
      | false => simp [mf52, -evBin]
      | true =>
        by_cases hxy : y > x
        · rw [decide_eq_true hxy] at b1
          simp [mf52, b1, hxy, -evBin]
        · rw [decide_eq_false hxy] at b1
          simp [mf52, b1, hxy, -evBin]
  · cases h
end Cy
end Go.Proofs.Ytemklhljjaniaaa
/-
  Cycle: home: how long ways to a node can be, by the number of arcs.
-/
namespace Go.Proofs.Ytemklhljjaniaaa
namespace Cy
open Go

def noL : LP := (0, false)
def hst (h : List LP) (next : List LP) (a : LArc) : List LP := next.set a.1 (moreP (next.getD a.1 noL) (plusP (h.getD a.2.1 noL) a.2.2))
def homeStep (L : List LArc) (h : List LP) (n : Nat) : List LP := L.foldl (hst h) (List.replicate n noL)
def hm (L : List LArc) (n to : Nat) : Nat → List LP
  | 0 => (List.replicate n noL).set to (0, true)
  | j + 1 => homeStep L (hm L n to j) n
def hmsA (L : List LArc) (n to k : Nat) : List AV := (List.range (k + 1)).map fun j => .fs 2 ((hm L n to j).map lA)
theorem hst_len (h next : List LP) (a : LArc) : (hst h next a).length = next.length := by simp [hst]
theorem foldl_hst_len (h : List LP) : ∀ (L : List LArc) (next : List LP), (L.foldl (hst h) next).length = next.length
  | [], _ => rfl
  | a :: L, next => by rw [List.foldl_cons, foldl_hst_len h L, hst_len]
theorem hm_len (L : List LArc) (n to : Nat) : ∀ j, (hm L n to j).length = n
  | 0 => by simp [hm]
  | j + 1 => by simp [hm, homeStep, foldl_hst_len]
def PB (B : Int) (h : List LP) : Prop := ∀ v, -B ≤ (h.getD v noL).1 ∧ (h.getD v noL).1 ≤ B
theorem getD_setP {α : Type} (s : List α) (i j : Nat) (x d : α) (hi : i < s.length) : (s.set i x).getD j d = if i = j then x else s.getD j d := by
  rw [List.getD_eq_getElem?_getD, List.getD_eq_getElem?_getD]
  by_cases h : i = j
  · subst h
    rw [List.getElem?_set_self hi, if_pos rfl]; rfl
  · rw [List.getElem?_set_ne h, if_neg h]
theorem more_pb {B : Int} {x y : LP} (h1 : -B ≤ x.1 ∧ x.1 ≤ B) (h2 : -B ≤ y.1 ∧ y.1 ≤ B) : -B ≤ (moreP x y).1 ∧ (moreP x y).1 ≤ B := by
  unfold moreP; split
  · exact h2
  · exact h1
theorem plus_pb {B w : Int} {x : LP} (h1 : -B ≤ x.1 ∧ x.1 ≤ B) (h2 : -3000000 ≤ w ∧ w ≤ 3000000) : -(B + 3000000) ≤ (plusP x w).1 ∧ (plusP x w).1 ≤ B + 3000000 := by
  unfold plusP; split
  · omega
  · simp only; omega
theorem hst_pb {B : Int} {h next : List LP} {a : LArc} (h1 : PB B h) (h2 : PB (B + 3000000) next) (hw : -3000000 ≤ a.2.2 ∧ a.2.2 ≤ 3000000) (hf : a.1 < next.length) : PB (B + 3000000) (hst h next a) := fun v => by
  unfold hst
  rw [getD_setP _ _ _ _ _ hf]
  split
  · exact more_pb (h2 _) (plus_pb (h1 _) hw)
  · exact h2 v
theorem rep_pb {B : Int} (hB : 0 ≤ B) (n : Nat) : PB B (List.replicate n noL) := fun v => by
  have : (List.replicate n noL).getD v noL = noL := by
    rw [List.getD_eq_getElem?_getD]
    by_cases h : v < n <;> simp [h]
  rw [this]; simp [noL]; omega
def ArcsOk (n : Nat) (L : List LArc) : Prop := ∀ a ∈ L, a.1 < n ∧ a.2.1 < n ∧ -3000000 ≤ a.2.2 ∧ a.2.2 ≤ 3000000
theorem lar_ok {n : Nat} {p : Int} {l : List CArc} (hn : n ≤ 32) (hp : isPer p) (hv : ∀ x ∈ l, okA n x) : ArcsOk n (lar p l) := fun a ha => by
  obtain ⟨x, hx, rfl⟩ := List.mem_map.1 ha
  obtain ⟨q1, q2, q3, q4⟩ := hv x hx
  have hle := len_in (n := 32) (a := x) ⟨by omega, by omega, q3, q4⟩ hp
  simp only
  omega
theorem foldl_pb {n : Nat} {B : Int} {h : List LP} (h1 : PB B h) : ∀ {L : List LArc} {next : List LP}, ArcsOk n L → next.length = n → PB (B + 3000000) next → PB (B + 3000000) (L.foldl (hst h) next)
  | [], _, _, _, h2 => h2
  | a :: L, next, hL, hn, h2 => by
    rw [List.foldl_cons]
    obtain ⟨q1, q2, q3⟩ := hL a (by simp)
    exact foldl_pb h1 (fun b hb => hL b (by simp [hb])) (by rw [hst_len, hn]) (hst_pb h1 h2 q3 (by omega))
theorem hm_pb {n : Nat} {L : List LArc} (hL : ArcsOk n L) (to : Nat) : ∀ j : Nat, PB (3000000 * j) (hm L n to j)
  | 0 => fun v => by
    unfold hm
    by_cases h : to < n
    · rw [getD_setP _ _ _ _ _ (by simpa using h)]
      split
      · simp
      · have := rep_pb (B := 0) (by omega) n v
        omega
    · rw [List.set_eq_of_length_le (by simp; omega)]
      have := rep_pb (B := 0) (by omega) n v
      omega
  | j + 1 => by
    have h1 := hm_pb hL to j
    have := foldl_pb h1 hL (next := List.replicate n noL) (by simp) (rep_pb (by omega) n)
    intro v
    have := this v
    simp only [hm, homeStep]
    omega
theorem lA_get {h : List LP} {i : Nat} (hi : i < h.length) : (h.map lA)[i]? = some (.agg [.int .i64 (h.getD i noL).1, .bool (h.getD i noL).2]) := by
  simp [hi, lA]

/-! ### home -/
def R48a : MC := .region [⟨none, .indexSl 6 (.var 11) (.var 13), none⟩, ⟨none, .load true 6 (.tmp 0), none⟩, ⟨some 7, .alloc 6 (.agg [.int .i64 0, .int .i64 0, .int .i64 0, .int .i64 0, .int .i64 0, .int .i64 0]), none⟩, ⟨none, .store 6 (.var 7) (.tmp 1), none⟩]
def R48b : MC := .region [⟨none, .mv (.var 6), none⟩, ⟨none, .fieldAddr 0 (.var 7), none⟩, ⟨none, .fieldAddr 0 (.tmp 1), none⟩, ⟨none, .load false 1 (.tmp 2), none⟩, ⟨none, .mv (.var 6), none⟩, ⟨none, .fieldAddr 0 (.var 7), none⟩, ⟨none, .fieldAddr 0 (.tmp 5), none⟩, ⟨none, .load false 1 (.tmp 6), none⟩, ⟨none, .indexSl 2 (.tmp 4) (.tmp 7), none⟩, ⟨none, .load true 2 (.tmp 8), none⟩, ⟨none, .mv (.var 5), none⟩, ⟨none, .fieldAddr 0 (.var 7), none⟩, ⟨none, .fieldAddr 1 (.tmp 11), none⟩, ⟨none, .load false 1 (.tmp 12), none⟩, ⟨none, .indexSl 2 (.tmp 10) (.tmp 13), none⟩, ⟨none, .load true 2 (.tmp 14), none⟩, ⟨none, .fieldAddr 5 (.var 7), none⟩, ⟨none, .load false 1 (.tmp 16), none⟩, ⟨none, .call (.fn 86) [.tmp 15, .tmp 17], none⟩, ⟨none, .call (.fn 88) [.tmp 9, .tmp 18], none⟩, ⟨none, .indexSl 2 (.tmp 0) (.tmp 3), none⟩, ⟨none, .store 2 (.tmp 20) (.tmp 19), none⟩]
theorem R48_eq : lp48x0 = .seq (.region [⟨some 14, .bin .lss (.var 13) (.var 12), none⟩]) (.seq (.cond (.var 14) .skip (.exit 2)) (.seq (.seq (.block 3 (.seq R48a R48b)) (.kill [1, 2, 3, 7, 10, 14])) (.region [⟨none, .bin .add (.var 13) (.cst (.int .i64 1)), none⟩, ⟨some 13, .mv (.tmp 0), none⟩]))) := rfl
noncomputable def fs48 : List (FuncId × HModel) := [(86, pureH 4 M51), (88, pureH 4 M52)]
@[simp] theorem fs48_51 : lookM fs48 86 = some (pureH 4 M51) := rfl
@[simp] theorem fs48_52 : lookM fs48 88 = some (pureH 4 M52) := rfl
theorem sound48 : ∀ f M, lookM fs48 f = some M → FnSpecY Try.prog GC f M := lookM_cons (FnSpecY.of_pure spec51 4) (lookM_cons (FnSpecY.of_pure spec52 4) lookM_nil)
set_option maxRecDepth 100000 in
theorem r48a (E : Env) (fuel : Nat) (K : List KC) (A : Arena) (X : MC) {p : Int} {l : List CArc} {i : Nat} (hi : i < l.length) (v0 v4 v5 v6 v8 v9 v12 v14 : AV) :
    run E fuel (.code (.seq R48a X) :: K) [v0, .undef, .undef, .undef, v4, v5, v6, .undef, v8, v9, .undef, slA 6 (wAs p (num l)), v12, .int .i64 (i : Int), v14] A =
      run E fuel (.code X :: K) [v0, .undef, .undef, .undef, v4, v5, v6, .ptr A.length 0 0, v8, v9, .undef, slA 6 (wAs p (num l)), v12, .int .i64 (i : Int), v14] (A ++ [.row 6 false [wA p (l[i], i)]]) := by
  have x1 := web_at p hi A .i64
  obtain ⟨W, hW⟩ : ∃ W, W = slA 6 (wAs p (num l)) := ⟨_, rfl⟩
  rw [← hW] at x1 ⊢
  simp [R48a, x1, wA, -evIndexSl]
/-- what an arena keeps -/
def Kept (A0 : Arena) (id : Nat) (A : Arena) : Prop := A0.length ≤ A.length ∧ ∀ j, j ≠ id → j < A0.length → A[j]? = A0[j]?
theorem lA_set (h : List LP) (i : Nat) (z : LP) : (h.map lA).set i (lA z) = (h.set i z).map lA := by rw [List.map_set]
set_option maxRecDepth 100000 in
theorem round48 (fuel : Nat) {A0 A : Arena} {n idL idN : Nat} {h nx : List LP} {p : Int} {l : List CArc} (hn : h.length = n) (hx : nx.length = n) (hp : isPer p) (hv : ∀ x ∈ l, okA n x) (hn32 : n ≤ 32) (hl200 : l.length ≤ 200) {i : Nat} (hi : i < l.length) (hb : PB 1000000000 h) (hLN : idL ≠ idN) (hid : idN < A0.length) (hidL : idL < A0.length) (hL : A0[idL]? = some (.row 2 false (h.map lA))) (hN : A[idN]? = some (.row 2 false (nx.map lA))) (hK : Kept A0 idN A) (v0 v4 v8 v9 : AV) :
    ∃ A', run (envOf GC fs48) fuel [.code lp48x0] (st48x0 v0 v4 (.sl idL 0 n) (.sl idN 0 n) v8 v9 (slA 6 (wAs p (num l))) (.int .i64 (l.length : Int)) (.int .i64 (i : Int))) A = some (.normal (st48x0 v0 v4 (.sl idL 0 n) (.sl idN 0 n) v8 v9 (slA 6 (wAs p (num l))) (.int .i64 (l.length : Int)) (.int .i64 ((i + 1 : Nat) : Int))) A') ∧
      A'[idN]? = some (.row 2 false ((hst h nx (l[i].f.toNat, l[i].t.toNat, l[i].len p)).map lA)) ∧ Kept A0 idN A' := by
  obtain ⟨g2, g3⟩ := hK
  have hmem := hv _ (List.getElem_mem hi)
  obtain ⟨f, hf, hfn⟩ := nat_of hmem.1
  obtain ⟨t, ht, htn⟩ := nat_of hmem.2.1
  have hv32 : okA 32 l[i] := by
    obtain ⟨h1, h2, h3, h4⟩ := hmem
    exact ⟨by omega, by omega, h3, h4⟩
  obtain ⟨k1, k2, _, _⟩ := len_in hv32 hp
  obtain ⟨w, hw⟩ : ∃ w, w = l[i].len p := ⟨_, rfl⟩
  obtain ⟨B, hB⟩ : ∃ B, B = A ++ [.row 6 false [wA p (l[i], i)]] := ⟨_, rfl⟩
  have r1 := fun K X => r48a (envOf GC fs48) fuel K A X (p := p) hi v0 v4 (.sl idL 0 n) (.sl idN 0 n) v8 v9 (.int .i64 (l.length : Int)) (.bool true)
  rw [← hB] at r1
  have cN : B[idN]? = some (.row 2 false (nx.map lA)) := by rw [hB, List.getElem?_append_left (by omega)]; exact hN
  have cL : B[idL]? = some (.row 2 false (h.map lA)) := by rw [hB, List.getElem?_append_left (by omega), g3 idL hLN hidL]; exact hL
  have c8 : B[A.length]? = some (.row 6 false [.agg [.int .i64 (f : Int), .int .i64 (t : Int), .int .i64 l[i].w, .int .i64 l[i].k, .int .i64 (i : Int), .int .i64 w]]) := by
    rw [hB, hw]; simp [wA, hf, ht]
  obtain ⟨i8, hi8⟩ : ∃ i8, i8 = A.length := ⟨_, rfl⟩
  rw [← hi8] at r1 c8
  have hBl : A0.length ≤ B.length := by rw [hB]; simp; omega
  have hBo : ∀ j, j ≠ idN → j < A0.length → B[j]? = A0[j]? := fun j hj hl => by rw [hB, List.getElem?_append_left (by omega)]; exact g3 j hj hl
  rw [← hw] at k1 k2
  have e1 : l[i].f.toNat = f := by omega
  have e2 : l[i].t.toNat = t := by omega
  rw [e1, e2, ← hw]
  have ef := lA_get (h := nx) (i := f) (by omega)
  have et := lA_get (h := h) (i := t) (by omega)
  have bt := hb t
  unfold hst
  simp only
  obtain ⟨x, hx1⟩ : ∃ x, x = nx.getD f noL := ⟨_, rfl⟩
  obtain ⟨y, hy1⟩ : ∃ y, y = h.getD t noL := ⟨_, rfl⟩
  rw [← hx1] at ef ⊢
  rw [← hy1] at et bt ⊢
  have m1 : M51 [.agg [.int .i64 y.1, .bool y.2], .int .i64 w] = some (.agg [.int .i64 (plusP y w).1, .bool (plusP y w).2]) := if_pos (by omega)
  have m2 : M52 [.agg [.int .i64 x.1, .bool x.2], .agg [.int .i64 (plusP y w).1, .bool (plusP y w).2]] = some (.agg [.int .i64 (moreP x (plusP y w)).1, .bool (moreP x (plusP y w)).2]) := rfl
  have b1 := lt_nat i l.length .i64
  rw [decide_eq_true hi] at b1
  have b3 := add1_nat i (by omega)
  obtain ⟨i1, hi1⟩ : ∃ i1 : Nat, i1 = i + 1 := ⟨_, rfl⟩
  rw [← hi1] at b3 ⊢
  rw [← lA_set]
  obtain ⟨q, hq⟩ : ∃ q, q = plusP y w := ⟨_, rfl⟩
  rw [← hq] at m1 m2 ⊢
  obtain ⟨z, hz⟩ : ∃ z, z = moreP x q := ⟨_, rfl⟩
  rw [← hz] at m2 ⊢
  obtain ⟨q1, q2⟩ := q
  obtain ⟨z1, z2⟩ := z
  obtain ⟨x1, x2⟩ := x
  obtain ⟨y1, y2⟩ := y
  simp only at m1 m2 ef et
  obtain ⟨W, hW⟩ : ∃ W, W = slA 6 (wAs p (num l)) := ⟨_, rfl⟩
  rw [← hW] at r1 ⊢
  obtain ⟨nxa, hnxa⟩ : ∃ nxa, nxa = nx.map lA := ⟨_, rfl⟩
  obtain ⟨ha, hha⟩ : ∃ ha, ha = h.map lA := ⟨_, rfl⟩
  rw [← hnxa] at cN ef ⊢
  rw [← hha] at cL et
  have hfn' : f < n := by omega
  have htn' : t < n := by omega
  refine ⟨B.set idN (.row 2 false (nxa.set f (lA (z1, z2)))), ?_, ?_, ?_, ?_⟩
  · rw [R48_eq]
    simp [b1, b3, r1, R48b, cN, cL, c8, ef, et, m1, m2, hfn', htn', lA, -evBin]
  · exact List.getElem?_set_self (by omega)
  · simp; omega
  · intro j hj hl
    rw [List.getElem?_set_ne (Ne.symm hj)]; exact hBo j hj hl
theorem loop48 (fuel : Nat) {A : Arena} {n idL idN : Nat} {h : List LP} {p : Int} {l : List CArc} (hn : h.length = n) (hp : isPer p) (hv : ∀ x ∈ l, okA n x) (hn32 : n ≤ 32) (hl200 : l.length ≤ 200) (hf : 200 < fuel) (hb : PB 1000000000 h) (hLN : idL ≠ idN) (hL : A[idL]? = some (.row 2 false (h.map lA))) (hN : A[idN]? = some (.row 2 false ((List.replicate n noL).map lA))) (v0 v4 v8 v9 : AV) :
    ∃ A', iter (evC (envOf GC fs48) fuel lp48x0) mask48x0 fuel (st48x0 v0 v4 (.sl idL 0 n) (.sl idN 0 n) v8 v9 (slA 6 (wAs p (num l))) (.int .i64 (l.length : Int)) (.int .i64 0)) A = some (.exit 2 ((st48x0 v0 v4 (.sl idL 0 n) (.sl idN 0 n) v8 v9 (slA 6 (wAs p (num l))) (.int .i64 (l.length : Int)) (.int .i64 (l.length : Int))).set 14 (.bool false)) A') ∧
      A'[idN]? = some (.row 2 false ((homeStep (lar p l) h n).map lA)) ∧ Kept A idN A' := by
  have hidN := (List.getElem?_eq_some_iff.1 hN).1
  have hidL := (List.getElem?_eq_some_iff.1 hL).1
  have hlen : (lar p l).length = l.length := by simp [lar]
  obtain ⟨o, h1, A', h2, h3, h4⟩ := iter_inv (E := envOf GC fs48) (fuel := fuel) (a := lp48x0) (mask := mask48x0) (fun k σ B => ∃ i, i + k = l.length ∧ σ = st48x0 v0 v4 (.sl idL 0 n) (.sl idN 0 n) v8 v9 (slA 6 (wAs p (num l))) (.int .i64 (l.length : Int)) (.int .i64 (i : Int)) ∧ B[idN]? = some (.row 2 false ((((lar p l).take i).foldl (hst h) (List.replicate n noL)).map lA)) ∧ Kept A idN B)
    (fun o => ∃ A', A'[idN]? = some (.row 2 false ((homeStep (lar p l) h n).map lA)) ∧ Kept A idN A' ∧ o = .exit 2 ((st48x0 v0 v4 (.sl idL 0 n) (.sl idN 0 n) v8 v9 (slA 6 (wAs p (num l))) (.int .i64 (l.length : Int)) (.int .i64 (l.length : Int))).set 14 (.bool false)) A')
    (by
      rintro k σ B ⟨i, hik, rfl, hN', hK⟩
      rw [cl48x0]
      by_cases hi' : i < l.length
      · obtain ⟨B', c1, c2, c3⟩ := round48 fuel (n := n) hn (by rw [foldl_hst_len]; simp) hp hv hn32 hl200 hi' hb hLN hidN hidL hL hN' hK v0 v4 v8 v9
        refine .inl ⟨_, _, c1, k - 1, by omega, i + 1, by omega, rfl, ?_, c3⟩
        rw [c2, List.take_succ_eq_append_getElem (by omega), List.foldl_append]
        simp [lar]
      · obtain rfl : i = l.length := by omega
        refine .inr ⟨_, ?_, ?_, B, ?_, hK, rfl⟩
        · simp [lp48x0]
        · intro _ _ h; cases h
        · rw [hN', List.take_of_length_le (by omega)]; rfl)
    fuel l.length _ A (by omega) ⟨0, by omega, rfl, by simpa using hN, Nat.le_refl _, fun _ _ _ => rfl⟩
  exact ⟨A', by rw [← h4]; exact h1, h2, h3⟩
/-- the arena of home, behind i rounds -/
def HInv (L : List LArc) (n to i : Nat) (A : Arena) : Prop := ∃ (gr : Bool) (os : List AV), A[1]? = some (.row 1 gr os) ∧ os.length = i + 1 ∧ ∀ j, j ≤ i → ∃ id, os[j]? = some (.sl id 0 n) ∧ id ≠ 1 ∧ A[id]? = some (.row 2 false ((hm L n to j).map lA))
set_option maxRecDepth 100000 in
theorem round48b (fuel : Nat) {A : Arena} {n to i : Nat} {p : Int} {l : List CArc} (h1n : 1 ≤ n) (hp : isPer p) (hv : ∀ x ∈ l, okA n x) (hn32 : n ≤ 32) (hl200 : l.length ≤ 200) (hf : 200 < fuel) {k : Nat} (hi : i < k) (hk : k ≤ 32) (hI : HInv (lar p l) n to i A) :
    ∃ A', run (envOf GC fs48) fuel [.code lp48x1] (st48x1 (webT n p l) (.sl 1 0 (i + 1)) (.int .i64 (k : Int)) (.int .i64 (i : Int))) A = some (.normal (st48x1 (webT n p l) (.sl 1 0 (i + 1 + 1)) (.int .i64 (k : Int)) (.int .i64 ((i + 1 : Nat) : Int))) A') ∧ HInv (lar p l) n to (i + 1) A' := by
  obtain ⟨gr, os, g1, g2, g3⟩ := hI
  obtain ⟨id, hid, hid1, hrow⟩ := g3 i (Nat.le_refl _)
  have hid2 := (List.getElem?_eq_some_iff.1 hrow).1
  have h1A := (List.getElem?_eq_some_iff.1 g1).1
  obtain ⟨B, hB⟩ : ∃ B, B = A ++ [.row 2 false ((List.replicate n noL).map lA)] := ⟨_, rfl⟩
  have hBN : B[A.length]? = some (.row 2 false ((List.replicate n noL).map lA)) := by rw [hB]; simp
  have hBo : ∀ j, j < A.length → B[j]? = A[j]? := fun j hj => by rw [hB, List.getElem?_append_left hj]
  have hBl : B.length = A.length + 1 := by rw [hB]; simp
  have hok := lar_ok hn32 hp hv
  have hpb := hm_pb hok to i
  have hpb' : PB 1000000000 (hm (lar p l) n to i) := fun v => by have := hpb v; omega
  have mk : evMake 2 16 (.agg [.int .i64 0, .bool false]) A (.int .i64 (n : Int)) (.int .i64 (n : Int)) = some (.sl A.length 0 n, B) := by
    rw [hB]; simp [evMake, lA, noL]; omega
  obtain ⟨C, c1, c2, c3⟩ := loop48 fuel (A := B) (n := n) (idL := id) (idN := A.length) (hm_len _ n to i) hp hv hn32 hl200 hf hpb' (by omega) (by rw [hBo id hid2]; exact hrow) hBN (webT n p l) (.sl 1 0 (i + 1)) (.int .i64 (k : Int)) (.int .i64 (i : Int))
  have hC1 : C[1]? = some (.row 1 gr os) := by rw [c3.2 1 (by omega) (by omega), hBo 1 h1A]; exact g1
  obtain ⟨nid, hnid⟩ : ∃ nid, nid = A.length := ⟨_, rfl⟩
  have hC1l := (List.getElem?_eq_some_iff.1 hC1).1
  obtain ⟨D, hD⟩ : ∃ D, D = C ++ [.row 1 false [.sl A.length 0 n]] := ⟨_, rfl⟩
  have hDo : ∀ j, j < C.length → D[j]? = C[j]? := fun j hj => by rw [hD, List.getElem?_append_left hj]
  have hDl : D.length = C.length + 1 := by rw [hD]; simp
  have hDn : D[C.length]? = some (.row 1 false [.sl A.length 0 n]) := by rw [hD]; simp
  have ap : evAppend 1 24 D (.sl 1 0 (i + 1)) (.sl C.length 0 1) = some (.sl 1 0 (i + 1 + 1), D.set 1 (.row 1 true (os ++ [.sl A.length 0 n]))) := by
    simp [evAppend, srcElems, hDn, hDo 1 hC1l, hC1, g2]
    omega
  have b0 : evBin .sub (.int .i64 ((i + 1 : Nat) : Int)) (.int .i64 1) = some (.int .i64 (i : Int)) := by
    simp only [evBin]; rw [if_pos trivial, wrapI (by unfold inI; omega)]; congr 2; omega
  have b1 := lt_nat i k .i64
  rw [decide_eq_true hi] at b1
  have b3 := add1_nat i (by omega)
  have hlen2 : evLenSl (slA 6 (wAs p (num l))) = some (.int .i64 (l.length : Int)) := by rw [len_slA, wAs_len]
  have hne : ¬ 1 = A.length := by omega
  refine ⟨D.set 1 (.row 1 true (os ++ [.sl A.length 0 n])), ?_, true, os ++ [.sl A.length 0 n], ?_, ?_, ?_⟩
  · obtain ⟨W1, hW⟩ : ∃ W1, W1 = slA 6 (wAs p (num l)) := ⟨_, rfl⟩
    obtain ⟨O, hO⟩ : ∃ O, webT n p l = .fp [.int .i64 (n : Int), W1, O] := ⟨_, by rw [hW]; rfl⟩
    rw [← hW] at c1 hlen2
    rw [hO] at c1 ⊢
    rw [hD] at ap ⊢
    rw [← hnid] at c1 ap hne mk ⊢
    obtain ⟨i1, hi1⟩ : ∃ i1 : Nat, i1 = i + 1 := ⟨_, rfl⟩
    rw [← hi1] at b0 b3 c1 ap ⊢
    have hii : i < i1 := by omega
    have hls : evLenSl (.sl 1 0 i1) = some (.int .i64 (i1 : Int)) := rfl
    simp [lp48x1, hls, b0, b1, b3, g1, hid, mk, go48x0 c1, ap, hlen2, hne, hii, hnid.symm, -evBin, -evMake, -evLenSl]
  · exact List.getElem?_set_self (by omega)
  · simp [g2]
  · intro j hj
    have hcl := c3.1
    by_cases hji : j = i + 1
    · subst hji
      refine ⟨A.length, by simp [← g2], by omega, ?_⟩
      rw [List.getElem?_set_ne (by omega), hDo _ (by omega)]; exact c2
    · obtain ⟨jd, q1, q2, q3⟩ := g3 j (by omega)
      have hjd := (List.getElem?_eq_some_iff.1 q3).1
      refine ⟨jd, by rw [List.getElem?_append_left (by omega)]; exact q1, q2, ?_⟩
      rw [List.getElem?_set_ne (Ne.symm q2), hDo jd (by omega), c3.2 jd (by omega) (by omega), hBo jd hjd]; exact q3
noncomputable def M48 : PModel := fun args => evF (envOf GC fs48) 300 mf48 5 args
theorem spec48F : PureSpecF Try.prog GC 83 M48 := PureSpecF.of_ev (E := envOf GC fs48) (envOf_sound sound48) rfl at48 comp48 5 fun _ _ h => ⟨300, h⟩
theorem frz_lA (A : Arena) (n : Nat) (h : List LP) : (h.map lA).map (frz A (n + 1)) = h.map lA := by
  rw [List.map_map]; apply List.map_congr_left; intro x _; cases n <;> rfl
theorem HInv.frz {L : List LArc} {n to i : Nat} {A : Arena} (h : HInv L n to i A) (k : Nat) : Proofs.Ytemklhljjaniaaa.frz A (k + 3) (.sl 1 0 (i + 1)) = .fs 1 (hmsA L n to i) ∧ freshB A (k + 3) (.sl 1 0 (i + 1)) = true := by
  obtain ⟨gr, os, g1, g2, g3⟩ := h
  constructor
  · show Proofs.Ytemklhljjaniaaa.frz A (k + 2 + 1) _ = _
    simp only [Proofs.Ytemklhljjaniaaa.frz, g1, List.drop_zero]
    rw [List.take_of_length_le (by omega)]
    congr 1
    apply List.ext_getElem (by simp [g2, hmsA])
    intro j h1 h2
    obtain ⟨id, q1, q2, q3⟩ := g3 j (by simp [hmsA] at h2; omega)
    have e : os[j]'(by simpa using h1) = .sl id 0 n := by
      rw [List.getElem?_eq_getElem (by simpa using h1)] at q1; exact Option.some.inj q1
    simp only [List.getElem_map, e, hmsA, List.getElem_range]
    show Proofs.Ytemklhljjaniaaa.frz A (k + 1 + 1) _ = _
    simp only [Proofs.Ytemklhljjaniaaa.frz, q3, List.drop_zero]
    rw [List.take_of_length_le (by simp [hm_len]), frz_lA]
  · show freshB A (k + 2 + 1) _ = _
    simp only [freshB, g1, List.drop_zero]
    rw [List.take_of_length_le (by omega), List.all_eq_true]
    intro x hx
    obtain ⟨j, hj, rfl⟩ := List.mem_iff_getElem.1 hx
    obtain ⟨id, q1, q2, q3⟩ := g3 j (by omega)
    have e : os[j] = .sl id 0 n := by
      rw [List.getElem?_eq_getElem hj] at q1; exact Option.some.inj q1
    rw [e]
    show freshB A (k + 1 + 1) _ = _
    simp only [freshB, q3, List.drop_zero]
    rw [List.take_of_length_le (by simp [hm_len]), List.all_eq_true]
    intro y hy
    obtain ⟨z, _, rfl⟩ := List.mem_map.1 hy
    cases k <;> simp [lA, freshB]
set_option maxRecDepth 100000 in
theorem M48_eq {n to : Nat} {p : Int} {l : List CArc} (hr : Ready n l p) (hto : to < n) {k : Nat} (hk : k ≤ 32) : M48 [webT n p l, .int .i64 (to : Int), .int .i64 (k : Int)] = some (.fs 1 (hmsA (lar p l) n to k)) := by
  obtain ⟨⟨hn, hl200, hv⟩, hp⟩ := hr
  have hn32 : n ≤ 32 := by omega
  obtain ⟨z, hz⟩ : ∃ z, z = (List.replicate n noL).map lA := ⟨_, rfl⟩
  have mk : evMake 2 16 (.agg [.int .i64 0, .bool false]) [] (.int .i64 (n : Int)) (.int .i64 (n : Int)) = some (.sl 0 0 n, [.row 2 false z]) := by
    rw [hz]; simp [evMake, lA, noL]; omega
  have hz2 : z.set to (.agg [.int .i64 0, .bool true]) = (hm (lar p l) n to 0).map lA := by
    rw [hz]; unfold hm; rw [List.map_set]; rfl
  have hzl : z.length = n := by rw [hz]; simp
  have hz3 : z[to]? = some (.agg [.int .i64 0, .bool false]) := by
    rw [hz]; simp [hto, lA, noL]
  obtain ⟨o, h1, A', h2, rfl⟩ := iter_inv (E := envOf GC fs48) (fuel := 300) (a := lp48x1) (mask := mask48x1) (fun m σ A => ∃ i, i + m = k ∧ σ = st48x1 (webT n p l) (.sl 1 0 (i + 1)) (.int .i64 (k : Int)) (.int .i64 (i : Int)) ∧ HInv (lar p l) n to i A)
    (fun o => ∃ A', HInv (lar p l) n to k A' ∧ o = .exit 0 ((st48x1 (webT n p l) (.sl 1 0 (k + 1)) (.int .i64 (k : Int)) (.int .i64 (k : Int))).set 10 (.bool false)) A')
    (by
      rintro m σ A ⟨i, him, rfl, hI⟩
      rw [cl48x1]
      by_cases hi' : i < k
      · obtain ⟨A', c1, c2⟩ := round48b 300 (by omega) hp hv hn32 hl200 (by omega) hi' hk hI
        exact .inl ⟨_, _, c1, m - 1, by omega, i + 1, by omega, rfl, c2⟩
      · obtain rfl : i = k := by omega
        refine .inr ⟨_, ?_, ?_, A, hI, rfl⟩
        · simp [lp48x1]
        · intro _ _ h; cases h)
    300 k (st48x1 (webT n p l) (.sl 1 0 1) (.int .i64 (k : Int)) (.int .i64 0)) [.row 2 false ((hm (lar p l) n to 0).map lA), .row 1 false [.sl 0 0 n]] (by omega) ⟨0, by omega, rfl, false, [.sl 0 0 n], rfl, rfl, fun j hj => by
      obtain rfl : j = 0 := by omega
      exact ⟨0, rfl, by omega, rfl⟩⟩
  obtain ⟨q1, q2⟩ := h2.frz 2
  unfold M48
  rw [evF_run _ _ rfl]
  rw [← hz2] at h1
  have p1 : pack [.sl 1 0 (k + 1)] = .sl 1 0 (k + 1) := rfl
  obtain ⟨W1, O, hO⟩ : ∃ W1 O, webT n p l = .fp [.int .i64 (n : Int), W1, O] := ⟨_, _, rfl⟩
  rw [hO] at h1 ⊢
  simp [mf48, mk, hz3, hto, go48x1 h1, q1, q2, -frz, -evMake]
end Cy
end Go.Proofs.Ytemklhljjaniaaa
/-
  Cycle: the first choice with which a sum can still become greater than 0.
-/
namespace Go.Proofs.Ytemklhljjaniaaa
namespace Cy
open Go

/-- can the sum still become greater than 0 -/
def good (h : List LP) (p sum : Int) (x : NArc) : Bool := (plusP (h.getD x.1.t.toNat noL) (sum + x.1.len p)).2 && decide ((plusP (h.getD x.1.t.toNat noL) (sum + x.1.len p)).1 > 0)
noncomputable def fs50 : List (FuncId × HModel) := [(86, pureH 4 M51)]
@[simp] theorem fs50_51 : lookM fs50 86 = some (pureH 4 M51) := rfl
theorem sound50 : ∀ f M, lookM fs50 f = some M → FnSpecY Try.prog GC f M := lookM_cons (FnSpecY.of_pure spec51 4) lookM_nil
noncomputable def M50 : PModel := fun args => evP (envOf GC fs50) 0 mf50 1 args
theorem spec50 : PureSpec Try.prog GC 85 M50 := PureSpec.of_ev (E := envOf GC fs50) (envOf_sound sound50) rfl at50 comp50 1 fun _ _ h => ⟨0, h⟩
/-- lists of lengths, by the number of arcs -/
def homT (hs : List (List LP)) : AV := .fs 1 (hs.map fun h => .fs 2 (h.map lA))
def fn50 (hs : List (List LP)) (left sum : Int) : AV := .func (.func 85) [] [.fp [homT hs], .fp [.int .i64 left], .fp [.int .i64 sum]]
set_option maxRecDepth 100000 in
theorem M50_eq {hs : List (List LP)} {left t : Nat} {h : List LP} {p sum : Int} {x : NArc} (hh : hs[left]? = some h) (ht : x.1.t = (t : Int)) (hth : t < h.length) (hpb : PB 1000000000 h) (hs1 : -1000000000 ≤ sum ∧ sum ≤ 1000000000) (hw : -3000000 ≤ x.1.len p ∧ x.1.len p ≤ 3000000) :
    M50 [wA p x, .fp [homT hs], .fp [.int .i64 left], .fp [.int .i64 sum]] = some (.bool (good h p sum x)) := by
  unfold good
  have e1 : x.1.t.toNat = t := by omega
  rw [e1]
  have et := lA_get hth
  have bt := hpb t
  obtain ⟨y, hy1⟩ : ∃ y, y = h.getD t noL := ⟨_, rfl⟩
  rw [← hy1] at et bt ⊢
  obtain ⟨w, hw1⟩ : ∃ w, w = x.1.len p := ⟨_, rfl⟩
  rw [← hw1] at hw ⊢
  have m1 : M51 [.agg [.int .i64 y.1, .bool y.2], .int .i64 (sum + w)] = some (.agg [.int .i64 (plusP y (sum + w)).1, .bool (plusP y (sum + w)).2]) := if_pos (by omega)
  have b2 : evBin .add (.int .i64 sum) (.int .i64 w) = some (.int .i64 (sum + w)) := by
    simp only [evBin]; rw [if_pos trivial, wrapI (by unfold inI; omega)]
  have hx : wA p x = .agg [.int .i64 x.1.f, .int .i64 (t : Int), .int .i64 x.1.w, .int .i64 x.1.k, .int .i64 (x.2 : Int), .int .i64 w] := by unfold wA; rw [ht, hw1]
  rw [hx]
  have hix : ∀ A, evIndexSl 1 A (homT hs) (.int .i64 (left : Int)) = some (.fp [.fs 2 (h.map lA)]) := fun A =>
    (show SlA 1 (hs.map fun h => .fs 2 (h.map lA)) (homT hs) from .inr rfl).index1 (A := A) (by simp [hh]) rfl rfl .i64
  have hix2 : ∀ A, evIndexSl 2 A (.fs 2 (h.map lA)) (.int .i64 (t : Int)) = some (.fp [.int .i64 y.1, .bool y.2]) := fun A =>
    (show SlA 2 (h.map lA) (.fs 2 (h.map lA)) from .inr rfl).index (A := A) (i := t) et rfl (by omega) .i64
  obtain ⟨HT, hHT⟩ : ∃ HT, homT hs = .fs 1 HT := ⟨_, rfl⟩
  rw [hHT] at hix ⊢
  obtain ⟨s, hs'⟩ : ∃ s, s = sum + w := ⟨_, rfl⟩
  rw [← hs'] at m1 b2 ⊢
  obtain ⟨q, hq⟩ : ∃ q, q = plusP y s := ⟨_, rfl⟩
  rw [← hq] at m1 ⊢
  have b3 : evBin .gtr (.int .i64 q.1) (.int .i64 0) = some (.bool (decide (q.1 > 0))) := by simp [evBin]
  obtain ⟨q1, q2⟩ := q
  obtain ⟨y1, y2⟩ := y
  simp only at m1 b3 hix2
  unfold M50
  rw [evP_run _ _ rfl]
  cases q2
  · simp [mf50, hix, hix2, b2, m1, -evBin, -evIndexSl]
  · simp [mf50, hix, hix2, b2, b3, m1, -evBin, -evIndexSl]

/-! ### IndexFunc -/
noncomputable def fs49 : List (FuncId × HModel) := [(85, pureH 4 M50)]
@[simp] theorem fs49_50 : lookM fs49 85 = some (pureH 4 M50) := rfl
theorem sound49 : ∀ f M, lookM fs49 f = some M → FnSpecY Try.prog GC f M := lookM_cons (FnSpecY.of_pure spec50 4) lookM_nil
noncomputable def M49 : PModel := fun args => evP (envOf GC fs49) 300 mf49 1 args
theorem spec49 : PureSpec Try.prog GC 84 M49 := PureSpec.of_ev (E := envOf GC fs49) (envOf_sound sound49) rfl at49 comp49 1 fun _ _ h => ⟨300, h⟩
set_option maxRecDepth 100000 in
theorem M49_eq {hs : List (List LP)} {left : Nat} {h : List LP} {p sum : Int} {xs : List NArc} {ch : AV} (hch : SlA 6 (wAs p xs) ch) (hl : xs.length ≤ 200) (hh : hs[left]? = some h) (ht : ∀ x ∈ xs, 0 ≤ x.1.t ∧ x.1.t < (h.length : Int)) (hpb : PB 1000000000 h) (hs1 : -1000000000 ≤ sum ∧ sum ≤ 1000000000) (hw : ∀ x ∈ xs, -3000000 ≤ x.1.len p ∧ x.1.len p ≤ 3000000) :
    M49 [ch, fn50 hs left sum] = some (.int .i64 (idxZ (good h p sum) xs)) := by
  have hlen := hch.len
  have hlen' : (wAs p xs).length = xs.length := by simp [wAs]
  rw [hlen'] at hlen
  obtain ⟨F, hF⟩ : ∃ F, F = fn50 hs left sum := ⟨_, rfl⟩
  have round : ∀ (A : Arena) (i : Nat) (hi : i < xs.length), run (envOf GC fs49) 300 [.code lp49x0] (st49x0 ch F (.int .i64 (xs.length : Int)) (.int .i64 (i : Int))) A =
      if good h p sum xs[i] = false then some (.normal (st49x0 ch F (.int .i64 (xs.length : Int)) (.int .i64 ((i + 1 : Nat) : Int))) A) else some (.ret [ch, F, .int .i64 (i : Int), .int .i64 (i : Int), .int .i64 (xs.length : Int), .int .i64 (i : Int), .bool true, .bool true] A) := fun A i hi => by
    have hmem := List.getElem_mem hi
    obtain ⟨t, ht1, ht2⟩ : ∃ t : Nat, xs[i].1.t = (t : Int) ∧ t < h.length := by
      have := ht _ hmem
      exact ⟨xs[i].1.t.toNat, by omega, by omega⟩
    have x1 : evIndexSl 6 A ch (.int .i64 (i : Int)) = some (.fp [.int .i64 xs[i].1.f, .int .i64 xs[i].1.t, .int .i64 xs[i].1.w, .int .i64 xs[i].1.k, .int .i64 (xs[i].2 : Int), .int .i64 (xs[i].1.len p)]) :=
      hch.index (A := A) (i := i) (x := wA p xs[i]) (by simp [wAs, hi]) rfl (by omega) .i64
    have m := M50_eq (p := p) hh ht1 ht2 hpb hs1 (hw _ hmem)
    unfold wA at m
    have b1 := lt_nat i xs.length .i64
    rw [decide_eq_true hi] at b1
    have b3 := add1_nat i (by omega)
    obtain ⟨i1, hi1⟩ : ∃ i1 : Nat, i1 = i + 1 := ⟨_, rfl⟩
    rw [← hi1] at b3 ⊢
    obtain ⟨d, hd⟩ : ∃ d, d = good h p sum xs[i] := ⟨_, rfl⟩
    rw [← hd] at m ⊢
    rw [hF]
    obtain ⟨HT, hHT⟩ : ∃ HT, homT hs = .fs 1 HT := ⟨_, rfl⟩
    have fz : ∀ B n, frz B n (.fs 1 HT) = .fs 1 HT := fun B n => by cases n <;> rfl
    unfold fn50
    rw [hHT] at m ⊢
    cases d with
    | false => simp [lp49x0, x1, m, b1, b3, -evBin, -evIndexSl, -evLenSl]
    | true => simp [lp49x0, x1, m, b1, -evBin, -evIndexSl, -evLenSl]
  unfold M49
  rw [evP_run _ _ rfl, ← hF]
  rcases iter_search (E := envOf GC fs49) (fuel := 300) (a := lp49x0) (mask := mask49x0) (fun i => st49x0 ch F (.int .i64 (xs.length : Int)) (.int .i64 (i : Int))) (fun _ => []) xs.length (fun i => ¬ ∀ hi : i < xs.length, good h p sum xs[i] = false)
    (oF := fun i => .ret [ch, F, .int .i64 (i : Int), .int .i64 (i : Int), .int .i64 (xs.length : Int), .int .i64 (i : Int), .bool true, .bool true] []) (oE := .exit 0 ((st49x0 ch F (.int .i64 (xs.length : Int)) (.int .i64 (xs.length : Int))).set 6 (.bool false)) [])
    (fun _ => cl49x0) (fun _ _ _ h => by cases h) (fun _ _ h => by cases h)
    (fun i hi hp => by
      rw [round [] i hi]
      exact if_pos (Classical.not_not.1 hp hi))
    (fun i hi hp => by
      rw [round [] i hi]
      exact if_neg fun h => hp fun _ => h)
    (by simp [lp49x0]) (show xs.length < 300 by omega) with ⟨i, hi, hp, hj, lp⟩ | ⟨hp, lp⟩
  · have lp : iter (evC (envOf GC fs49) 300 lp49x0) mask49x0 300 (st49x0 ch F (.int .i64 (xs.length : Int)) (.int .i64 0)) [] = _ := lp
    have e : idxZ (good h p sum) xs = (i : Int) := idxZ_some hi (by
      cases h' : good h p sum xs[i] with
      | true => rfl
      | false => exact absurd (fun _ => h') hp) (fun j hj' => Classical.not_not.1 (hj j hj') (by omega))
    rw [e]
    simp [mf49, hlen, go49x0 lp, -evBin, -evLenSl]
  · have lp : iter (evC (envOf GC fs49) 300 lp49x0) mask49x0 300 (st49x0 ch F (.int .i64 (xs.length : Int)) (.int .i64 0)) [] = _ := lp
    have e : idxZ (good h p sum) xs = -1 := idxZ_none fun i hi => Classical.not_not.1 (hp i hi) hi
    rw [e]
    simp [mf49, hlen, go49x0 lp, -evBin, -evLenSl]
end Cy
end Go.Proofs.Ytemklhljjaniaaa
/-
  Cycle: walk.
-/
namespace Go.Proofs.Ytemklhljjaniaaa
namespace Cy
open Go

/-- the way that walk takes -/
def walkM (p : Int) (l : List CArc) (hs : Nat → List LP) : Nat → Int → List NArc → List Int → Option (List Int)
  | 0, _, _, out => some out
  | r + 1, sum, ch, out => match ch.find? (good (hs r) p sum) with
    | none => none
    | some b => walkM p l hs r (sum + b.1.len p) (outL l b.1.t.toNat) (out ++ [(b.2 : Int)])
/-- numbers so far, in a row behind the first ones -/
def SlotI (A : Arena) (s : AV) (xs : List Int) : Prop := (s = .nilS ∧ xs = []) ∨ ∃ id gr, s = .sl id 0 xs.length ∧ xs ≠ [] ∧ 5 ≤ id ∧ A[id]? = some (.row 1 gr (intsA xs))
theorem SlotI.keep {A B : Arena} {s : AV} {xs : List Int} (h : SlotI A s xs) (hAB : ∀ id, id ∈ idsOf s → B[id]? = A[id]?) : SlotI B s xs := by
  rcases h with h | ⟨id, gr, rfl, h1, h2, h3⟩
  · exact .inl h
  · exact .inr ⟨id, gr, rfl, h1, h2, by rw [hAB id (by simp [idsOf]), h3]⟩
theorem SlotI.low {A : Arena} {s : AV} {xs : List Int} (h : SlotI A s xs) : ∀ id, id ∈ idsOf s → 5 ≤ id ∧ id < A.length := by
  rcases h with ⟨rfl, _⟩ | ⟨id, gr, rfl, h1, h2, h3⟩
  · intro id h; simp [idsOf] at h
  · intro j hj
    simp only [idsOf, List.mem_singleton] at hj
    subst hj
    exact ⟨h2, (List.getElem?_eq_some_iff.1 h3).1⟩
theorem SlotI.form2 {A : Arena} {s : AV} {xs : List Int} (h : SlotI A s xs) : s = .nilS ∨ ∃ i k, s = .sl i 0 k := by
  rcases h with ⟨rfl, _⟩ | ⟨id, gr, rfl, _⟩
  · exact .inl rfl
  · exact .inr ⟨_, _, rfl⟩
theorem SlotI.append {A : Arena} {s : AV} {xs : List Int} (h : SlotI A s xs) (z : Int) (hA : 5 ≤ A.length) (hl : xs.length ≤ 1000) :
    ∃ s' k A', evAppend 1 8 A s (.fs 1 [.int .i64 z]) = some (.sl s' 0 k, A') ∧ SlotI A' (.sl s' 0 k) (xs ++ [z]) ∧ A.length ≤ A'.length ∧ (∀ j, j < A.length → j ∉ idsOf s → A'[j]? = A[j]?) ∧ (s' ∈ idsOf s ∨ s' = A.length) := by
  rcases h with ⟨rfl, rfl⟩ | ⟨id, gr, rfl, h1, h2, h3⟩
  · refine ⟨A.length, 1, A ++ [.row 1 false [.int .i64 z]], by simp [evAppend, srcElems], .inr ⟨A.length, false, rfl, by simp, hA, by simp [intsA]⟩, by simp, fun j hj _ => by rw [List.getElem?_append_left hj], .inr rfl⟩
  · have hid := (List.getElem?_eq_some_iff.1 h3).1
    refine ⟨id, (xs ++ [z]).length, A.set id (.row 1 true (intsA (xs ++ [z]))), ?_, .inr ⟨id, true, rfl, by simp, h2, by simp [hid]⟩, by simp, fun j hj hn => ?_, .inl (by simp [idsOf])⟩
    · simp only [evAppend, srcElems, h3]
      simp [h1, intsA]
      omega
    · rw [List.getElem?_set_ne (fun e => hn (by simp [idsOf, e]))]
theorem SlotI.out {A : Arena} {s : AV} {xs : List Int} (h : SlotI A s xs) (k : Nat) : frz A (k + 1) s = slA 1 (intsA xs) ∧ freshB A (k + 1) s = true := by
  rcases h with ⟨rfl, rfl⟩ | ⟨id, gr, rfl, h1, h2, h3⟩
  · exact ⟨rfl, rfl⟩
  · constructor
    · simp only [frz, h3, List.drop_zero]
      rw [List.take_of_length_le (by simp [intsA]), frz_intsA]
      cases xs with
      | nil => exact absurd rfl h1
      | cons x r => rfl
    · simp only [freshB, h3, List.drop_zero]
      rw [List.take_of_length_le (by simp [intsA])]
      exact all_fresh _ _ _
/-- choices: given, or in row 3 -/
def Chs (A : Arena) (v : AV) (xs : List AV) : Prop := SlA 6 xs v ∨ (v = .sl 3 0 xs.length ∧ A[3]? = some (.row 6 false xs))

noncomputable def fs43 : List (FuncId × HModel) := [(84, pureH 4 M49)]
@[simp] theorem fs43_49 : lookM fs43 84 = some (pureH 4 M49) := rfl
theorem sound43 : ∀ f M, lookM fs43 f = some M → FnSpecY Try.prog GC f M := lookM_cons (FnSpecY.of_pure spec49 4) lookM_nil
def R43a : MC := .region [⟨none, .load false 1 (.var 11), none⟩, ⟨some 14, .bin .geq (.tmp 0) (.cst (.int .i64 0)), none⟩]
def R43b : MC := .region [⟨none, .mv (.var 10), none⟩, ⟨none, .makeFunc (.func 85) [] [.var 5, .var 11, .var 9], none⟩, ⟨none, .call (.fn 84) [.tmp 0, .tmp 1], none⟩, ⟨some 12, .mv (.tmp 2), none⟩]
def R43c : MC := .region [⟨none, .mv (.var 12), none⟩, ⟨some 15, .bin .lss (.tmp 0) (.cst (.int .i64 0)), none⟩]
def R43d : MC := .region [⟨some 6, .mv (.cst .nilS), none⟩, ⟨some 7, .mv (.cst (.bool false)), none⟩]
def R43e : MC := .region [⟨none, .mv (.var 10), none⟩, ⟨none, .mv (.var 12), none⟩, ⟨none, .indexSl 6 (.tmp 0) (.tmp 1), none⟩, ⟨none, .load true 6 (.tmp 2), none⟩, ⟨some 13, .alloc 6 (.agg [.int .i64 0, .int .i64 0, .int .i64 0, .int .i64 0, .int .i64 0, .int .i64 0]), none⟩, ⟨none, .store 6 (.var 13) (.tmp 3), none⟩]
def R43f : MC := .regionD [] [⟨none, .mv (.var 8), none⟩, ⟨none, .fieldAddr 4 (.var 13), none⟩, ⟨none, .load false 1 (.tmp 1), none⟩, ⟨none, .buildF 1 [.tmp 2], none⟩, ⟨none, .append 1 8 (.tmp 0) (.tmp 3), none⟩, ⟨none, .load false 1 (.var 9), none⟩, ⟨none, .fieldAddr 5 (.var 13), none⟩, ⟨none, .load false 1 (.tmp 6), none⟩, ⟨none, .bin .add (.tmp 5) (.tmp 7), none⟩, ⟨none, .mv (.var 0), none⟩, ⟨none, .nilCheck (.tmp 9), none⟩, ⟨none, .fieldAddr 2 (.tmp 10), none⟩, ⟨none, .load false 1 (.tmp 11), none⟩, ⟨none, .fieldAddr 0 (.var 13), none⟩, ⟨none, .fieldAddr 1 (.tmp 13), none⟩, ⟨none, .load false 1 (.tmp 14), none⟩, ⟨none, .indexSl 1 (.tmp 12) (.tmp 15), none⟩, ⟨none, .load false 1 (.tmp 16), none⟩, ⟨some 8, .mv (.tmp 4), none⟩, ⟨none, .store 1 (.var 9) (.tmp 8), none⟩, ⟨some 10, .mv (.tmp 17), none⟩] [(4, 5), (4, 6), (4, 7), (4, 11), (4, 12), (4, 13), (4, 14), (4, 15), (4, 16), (4, 17), (11, 19), (12, 19), (13, 19), (14, 19), (15, 19), (16, 19), (17, 19)]
def R43g : MC := .region [⟨some 16, .load false 1 (.var 11), none⟩]
def R43h : MC := .region [⟨some 11, .alloc 1 (.int .i64 0), none⟩, ⟨none, .store 1 (.var 11) (.var 16), none⟩]
def R43i : MC := .region [⟨none, .load false 1 (.var 11), none⟩, ⟨none, .bin .sub (.tmp 0) (.cst (.int .i64 1)), none⟩, ⟨none, .store 1 (.var 11) (.tmp 1), none⟩]
theorem R43_eq : lp43x0 = .seq (.seq R43a (.cond (.var 14) .skip (.exit 0))) (.seq (.seq (.block 1 (.seq R43b (.seq (.seq R43c (.cond (.var 15) (.seq R43d .ret) .skip)) (.seq R43e R43f)))) (.kill [1, 2, 3, 4, 6, 7, 12, 13, 14, 15, 16])) (.seq (.seq R43g R43h) R43i)) := rfl
abbrev s43 (W v6 v7 v8 v10 v12 v13 v14 v15 v16 : AV) (lid : Nat) : List AV := [W, .undef, .undef, .undef, .undef, .ptr 1 0 0, v6, v7, v8, .ptr 2 0 0, v10, .ptr lid 0 0, v12, v13, v14, v15, v16]
set_option maxRecDepth 100000 in
theorem r43a (E : Env) (fuel : Nat) (K : List KC) {A : Arena} {W v6 v7 v8 v10 v12 v13 v14 v15 v16 : AV} {lid : Nat} {left : Int} (h : A[lid]? = some (.row 1 false [.int .i64 left])) :
    run E fuel (.code R43a :: K) (s43 W v6 v7 v8 v10 v12 v13 v14 v15 v16 lid) A = run E fuel K (s43 W v6 v7 v8 v10 v12 v13 (.bool (decide (0 ≤ left))) v15 v16 lid) A := by
  have b := geq0 left
  simp [R43a, h, b, -evBin]
set_option maxRecDepth 100000 in
theorem r43b (fuel : Nat) (K : List KC) (X Y : MC) {A : Arena} {W v6 v7 v8 v10 v12 v13 v14 v15 v16 ch F : AV} {lid : Nat} {z : Int} (h1 : frz A 4 v10 = ch) (h2 : frz A 4 (.func (.func 85) [] [.ptr 1 0 0, .ptr lid 0 0, .ptr 2 0 0]) = F) (h3 : M49 [ch, F] = some (.int .i64 z)) :
    run (envOf GC fs43) fuel (.code R43b :: .code (.seq (.seq R43c X) Y) :: K) (s43 W v6 v7 v8 v10 v12 v13 v14 v15 v16 lid) A = run (envOf GC fs43) fuel (.code X :: .code Y :: K) (s43 W v6 v7 v8 v10 (.int .i64 z) v13 v14 (.bool (decide (z < 0))) v16 lid) A := by
  have b : evBin .lss (.int .i64 z) (.int .i64 0) = some (.bool (decide (z < 0))) := by simp [evBin]
  simp [R43b, R43c, h1, h2, h3, b, -evBin, -frz]
set_option maxRecDepth 100000 in
theorem r43e (E : Env) (fuel : Nat) (K : List KC) {A : Arena} {W q v6 v7 v8 v10 v13 v14 v15 v16 : AV} {lid i : Nat} {c1 c2 c3 c4 c5 c6 : Int} (h : evIndexSl 6 A v10 (.int .i64 (i : Int)) = some q) (hq : evLoad true 6 A q = some (.agg [.int .i64 c1, .int .i64 c2, .int .i64 c3, .int .i64 c4, .int .i64 c5, .int .i64 c6])) :
    run E fuel (.code R43e :: K) (s43 W v6 v7 v8 v10 (.int .i64 (i : Int)) v13 v14 v15 v16 lid) A = run E fuel K (s43 W v6 v7 v8 v10 (.int .i64 (i : Int)) (.ptr A.length 0 0) v14 v15 v16 lid) (A ++ [.row 6 false [.agg [.int .i64 c1, .int .i64 c2, .int .i64 c3, .int .i64 c4, .int .i64 c5, .int .i64 c6]]]) := by
  simp [R43e, h, hq, -evIndexSl, -evLoad]
set_option maxRecDepth 100000 in
theorem r43f (E : Env) (fuel : Nat) (K : List KC) {A B : Arena} {W1 v6 v7 so v10 v12 v14 v15 v16 x : AV} {lid bid jo ko t : Nat} {os : List AV} {n c1 c3 c4 c5 c6 sum : Int} (hb : A[bid]? = some (.row 6 false [.agg [.int .i64 c1, .int .i64 (t : Int), .int .i64 c3, .int .i64 c4, .int .i64 c5, .int .i64 c6]]))
    (ap : evAppend 1 8 A so (.fs 1 [.int .i64 c5]) = some (.sl jo 0 ko, B)) (hb' : B[bid]? = some (.row 6 false [.agg [.int .i64 c1, .int .i64 (t : Int), .int .i64 c3, .int .i64 c4, .int .i64 c5, .int .i64 c6]])) (h2 : B[2]? = some (.row 1 false [.int .i64 sum])) (hs : so = .nilS ∨ ∃ i k, so = .sl i 0 k) (hid : ∀ j ∈ idsOf so, j ≠ 2 ∧ j ≠ bid) (hA2 : A.length ≠ 2) (hAb : A.length ≠ bid) (hb2 : bid ≠ 2)
    (hsum : -1000000000 ≤ sum ∧ sum ≤ 1000000000) (hc6 : -3000000 ≤ c6 ∧ c6 ≤ 3000000) (ho : os[t]? = some x) (hx : x.solid = true) (hx2 : cellsOf x = [x]) :
    run E fuel (.code R43f :: K) (s43 (.fp [.int .i64 n, W1, .fs 1 os]) v6 v7 so v10 v12 (.ptr bid 0 0) v14 v15 v16 lid) A = run E fuel K (s43 (.fp [.int .i64 n, W1, .fs 1 os]) v6 v7 (.sl jo 0 ko) x v12 (.ptr bid 0 0) v14 v15 v16 lid) (B.set 2 (.row 1 false [.int .i64 (sum + c6)])) := by
  have b2 : evBin .add (.int .i64 sum) (.int .i64 c6) = some (.int .i64 (sum + c6)) := by
    simp only [evBin]; rw [if_pos trivial, wrapI (by unfold inI; omega)]
  have hix : ∀ C, evIndexSl 1 C (.fs 1 os) (.int .i64 (t : Int)) = some (.fp [x]) := fun C => (show SlA 1 os (.fs 1 os) from .inr rfl).index1 (A := C) ho hx hx2 .i64
  have hA2' : ¬ 2 = A.length := fun e => hA2 e.symm
  have hAb' : ¬ bid = A.length := fun e => hAb e.symm
  have hb2' : ¬ 2 = bid := fun e => hb2 e.symm
  obtain ⟨s, hs'⟩ : ∃ s, s = sum + c6 := ⟨_, rfl⟩
  rw [← hs'] at b2 ⊢
  rcases hs with rfl | ⟨i, k, rfl⟩
  · simp [R43f, hb, ap, hb', h2, b2, hix, hA2, hAb, hb2, -evBin, -evIndexSl]
  · obtain ⟨q1, q2⟩ := hid i (by simp [idsOf])
    have q1' : ¬ 2 = i := fun e => q1 e.symm
    have q2' : ¬ bid = i := fun e => q2 e.symm
    simp [R43f, hb, ap, hb', h2, b2, hix, hA2, hAb, hb2, q1, q2, -evBin, -evIndexSl]
set_option maxRecDepth 100000 in
theorem r43i (E : Env) (fuel : Nat) (K : List KC) {A : Arena} {W v6 v7 v8 v10 v12 v13 v14 v15 v16 : AV} {lid : Nat} {left : Int} (h : A[lid]? = some (.row 1 false [.int .i64 left])) (hl : 0 ≤ left ∧ left ≤ 100) :
    run E fuel (.code (.seq (.seq R43g R43h) R43i) :: K) (s43 W v6 v7 v8 v10 v12 v13 v14 v15 v16 lid) A = run E fuel K (s43 W v6 v7 v8 v10 v12 v13 v14 v15 (.int .i64 left) A.length) (A ++ [.row 1 false [.int .i64 (left - 1)]]) := by
  have b2 : evBin .sub (.int .i64 left) (.int .i64 1) = some (.int .i64 (left - 1)) := by
    simp only [evBin]; rw [if_pos trivial, wrapI (by unfold inI; omega)]
  obtain ⟨s, hs'⟩ : ∃ s, s = left - 1 := ⟨_, rfl⟩
  rw [← hs'] at b2 ⊢
  simp [R43g, R43h, R43i, h, b2, -evBin]
theorem find_idx {α : Type} (q : α → Bool) (l : List α) : (l.find? q = none ∧ idxZ q l = -1) ∨ ∃ (i : Nat) (hi : i < l.length), l.find? q = some l[i] ∧ idxZ q l = (i : Int) ∧ q l[i] = true := by
  unfold idxZ
  cases h : l.findIdx? q with
  | none =>
    left
    refine ⟨?_, rfl⟩
    rw [List.findIdx?_eq_none_iff] at h
    rw [List.find?_eq_none]
    intro x hx; rw [h x hx]; simp
  | some i =>
    right
    obtain ⟨hi, h1, h2⟩ := List.findIdx?_eq_some_iff_getElem.1 h
    refine ⟨i, hi, ?_, rfl, h1⟩
    rw [List.find?_eq_some_iff_getElem]
    exact ⟨h1, i, hi, rfl, fun j hj => by simpa using h2 j hj⟩
theorem chs_frz {A : Arena} {v : AV} {p : Int} {xs : List NArc} (h : Chs A v (wAs p xs)) : SlA 6 (wAs p xs) (frz A 4 v) := by
  rcases h with h | ⟨rfl, h3⟩
  · rw [h.frz]; exact h
  · right
    show frz A (3 + 1) _ = _
    simp only [frz, h3, List.drop_zero]
    rw [List.take_of_length_le (Nat.le_refl _)]
    congr 1
    unfold wAs
    rw [List.map_map]
    apply List.map_congr_left
    intro x _
    exact frz_wA A p x 2
theorem chs_at {A : Arena} {v : AV} {p : Int} {xs : List NArc} (h : Chs A v (wAs p xs)) {i : Nat} (hi : i < xs.length) : ∃ q, evIndexSl 6 A v (.int .i64 (i : Int)) = some q ∧ evLoad true 6 A q = some (wA p xs[i]) := by
  have hx : (wAs p xs)[i]? = some (wA p xs[i]) := by simp [wAs, hi]
  rcases h with h | ⟨rfl, h3⟩
  · exact ⟨_, h.index (A := A) hx rfl (by omega) .i64, by simp [evLoad, wA, cellsOf]⟩
  · refine ⟨.ptr 3 i 0, ?_, ?_⟩
    · simp [evIndexSl, h3]
      simp [wAs]; omega
    · simp only [evLoad, h3, hx]; rfl
/-- walk's arena, and what its variables hold -/
structure KInv (p : Int) (hs : List (List LP)) (r : Nat) (sum : Int) (ch : List NArc) (out : List Int) (so v10 : AV) (lid : Nat) (A : Arena) : Prop where
  a1 : A[1]? = some (.row 1 false [homT hs])
  a2 : A[2]? = some (.row 1 false [.int .i64 sum])
  al : A[lid]? = some (.row 1 false [.int .i64 ((r : Int) - 1)])
  lid4 : 4 ≤ lid
  so_ : SlotI A so out
  lso : lid ∉ idsOf so
  chs : Chs A v10 (wAs p ch)
theorem webT_out {n : Nat} {p : Int} {l : List CArc} {t : Nat} (ht : t < n) : ((List.range n).map fun v => slA 6 (wAs p (outL l v)))[t]? = some (slA 6 (wAs p (outL l t))) := by simp [ht]
theorem walk_loop {n : Nat} {p : Int} {l : List CArc} (hp : isPer p) (hv : ∀ x ∈ l, okA n x) (hn32 : n ≤ 32) (hl200 : l.length ≤ 200) (hsL : List (List LP)) (hs : Nat → List LP) {k : Nat} (hk : k ≤ 32) (hhs : ∀ r, r < k → hsL[r]? = some (hs r) ∧ (hs r).length = n ∧ PB 1000000000 (hs r)) :
    ∀ (r : Nat) (sum : Int) (ch : List NArc) (out : List Int) (so v10 : AV) (lid : Nat) (A : Arena) (m : Nat), r < m → r ≤ k → -(3000000 * ((k : Int) - r)) ≤ sum ∧ sum ≤ 3000000 * ((k : Int) - r) → out.length ≤ k - r → (∀ x ∈ ch, x ∈ num l) → ch.length ≤ 200 → KInv p hsL r sum ch out so v10 lid A →
      ∃ o, iter (evC (envOf GC fs43) 300 lp43x0) mask43x0 m (st43x0 (webT n p l) (.ptr 1 0 0) so (.ptr 2 0 0) v10 (.ptr lid 0 0)) A = some o ∧
        match walkM p l hs r sum ch out with
        | none => ∃ so' v10' lid' v12 v13 v14 v15 v16 A', o = .ret (s43 (webT n p l) .nilS (.bool false) so' v10' v12 v13 v14 v15 v16 lid') A'
        | some res => ∃ so' v10' lid' A', o = .exit 0 ((st43x0 (webT n p l) (.ptr 1 0 0) so' (.ptr 2 0 0) v10' (.ptr lid' 0 0)).set 14 (.bool false)) A' ∧ SlotI A' so' res := by
  intro r
  induction r with
  | zero =>
    intro sum ch out so v10 lid A m hm _ _ _ _ _ hI
    obtain ⟨m, rfl⟩ : ∃ j, m = j + 1 := ⟨m - 1, by omega⟩
    have r1 := fun K => r43a (envOf GC fs43) 300 K (W := webT n p l) (v6 := .undef) (v7 := .undef) (v8 := so) (v10 := v10) (v12 := .undef) (v13 := .undef) (v14 := .undef) (v15 := .undef) (v16 := .undef) hI.al
    simp only [Int.natCast_zero, Int.zero_sub, s43] at r1
    refine ⟨.exit 0 ((st43x0 (webT n p l) (.ptr 1 0 0) so (.ptr 2 0 0) v10 (.ptr lid 0 0)).set 14 (.bool false)) A, ?_, so, v10, lid, A, rfl, hI.so_⟩
    rw [iter_succ, cl43x0, R43_eq]
    obtain ⟨W, hW⟩ : ∃ W, W = webT n p l := ⟨_, rfl⟩
    rw [← hW] at r1 ⊢
    simp [r1]
  | succ r ih =>
    intro sum ch out so v10 lid A m hm hrk hsum hout hch hcl hI
    obtain ⟨m, rfl⟩ : ∃ j, m = j + 1 := ⟨m - 1, by omega⟩
    obtain ⟨hh1, hh2, hh3⟩ := hhs r (by omega)
    have hleft : (((r + 1 : Nat) : Int) - 1) = (r : Int) := by omega
    have hal := hI.al
    rw [hleft] at hal
    have r1 := fun K => r43a (envOf GC fs43) 300 K (W := webT n p l) (v6 := .undef) (v7 := .undef) (v8 := so) (v10 := v10) (v12 := .undef) (v13 := .undef) (v14 := .undef) (v15 := .undef) (v16 := .undef) hal
    rw [decide_eq_true (show (0 : Int) ≤ (r : Int) by omega)] at r1
    have h49 := M49_eq (p := p) (sum := sum) (chs_frz hI.chs) hcl hh1 (fun x hx => by
      obtain ⟨hi, e⟩ := num_mem (hch x hx)
      have := hv _ (List.getElem_mem hi)
      rw [e] at this
      have h2 := this.2.1
      omega) hh3 (by omega) (fun x hx => by
      obtain ⟨hi, e⟩ := num_mem (hch x hx)
      have := hv _ (List.getElem_mem hi)
      rw [e] at this
      obtain ⟨q1, q2, q3, q4⟩ := this
      have := len_in (n := 32) (a := x.1) ⟨by omega, by omega, q3, q4⟩ hp
      omega)
    have hfn : frz A 4 (.func (.func 85) [] [.ptr 1 0 0, .ptr lid 0 0, .ptr 2 0 0]) = fn50 hsL r sum := by
      have a1 := hI.a1
      have a2 := hI.a2
      unfold fn50 homT at *
      simp [frz, a1, a2, hal]
    have r2 := fun K X Y => r43b 300 K X Y (W := webT n p l) (v6 := .undef) (v7 := .undef) (v8 := so) (v10 := v10) (v12 := .undef) (v13 := .undef) (v14 := .bool true) (v15 := .undef) (v16 := .undef) rfl hfn h49
    rw [iter_succ, cl43x0, R43_eq]
    unfold walkM
    rcases find_idx (good (hs r) p sum) ch with ⟨q1, q2⟩ | ⟨i, hi, q1, q2, q3⟩
    · rw [q1]
      rw [q2] at r2
      rw [decide_eq_true (show (-1 : Int) < 0 by omega)] at r2
      refine ⟨.ret (s43 (webT n p l) .nilS (.bool false) so v10 (.int .i64 (-1)) .undef (.bool true) (.bool true) .undef lid) A, ?_, so, v10, lid, _, _, _, _, _, A, rfl⟩
      obtain ⟨W, hW⟩ : ∃ W, W = webT n p l := ⟨_, rfl⟩
      rw [← hW] at r1 r2 ⊢
      simp only [s43] at r1 r2
      simp [r1, r2, R43d]
    · rw [q1]
      rw [q2] at r2
      rw [decide_eq_false (show ¬ (i : Int) < 0 by omega)] at r2
      -- the choice
      obtain ⟨b, hb⟩ : ∃ b, b = ch[i] := ⟨_, rfl⟩
      have hbm := hch _ (List.getElem_mem hi)
      rw [← hb] at hbm
      obtain ⟨hbi, hbe⟩ := num_mem hbm
      have hok := hv _ (List.getElem_mem hbi)
      rw [hbe] at hok
      obtain ⟨o1, o2, o3, o4⟩ := hok
      obtain ⟨t, ht1, ht2⟩ := nat_of o2
      have hw := len_in (n := 32) (a := b.1) ⟨by omega, by omega, o3, o4⟩ hp
      obtain ⟨q, e1, e2⟩ := chs_at hI.chs hi
      rw [← hb] at e2
      have hwb : wA p b = .agg [.int .i64 b.1.f, .int .i64 (t : Int), .int .i64 b.1.w, .int .i64 b.1.k, .int .i64 (b.2 : Int), .int .i64 (b.1.len p)] := by unfold wA; rw [ht1]
      rw [hwb] at e2
      have r3 := fun K => r43e (envOf GC fs43) 300 K (W := webT n p l) (v6 := .undef) (v7 := .undef) (v8 := so) (v13 := .undef) (v14 := .bool true) (v15 := .bool false) (v16 := .undef) (lid := lid) e1 e2
      rw [← hwb] at r3
      obtain ⟨B, hB⟩ : ∃ B, B = A ++ [.row 6 false [wA p b]] := ⟨_, rfl⟩
      rw [← hB] at r3
      have hBo : ∀ j, j < A.length → B[j]? = A[j]? := fun j hj => by rw [hB, List.getElem?_append_left hj]
      have hBl : B.length = A.length + 1 := by rw [hB]; simp
      have hBb : B[A.length]? = some (.row 6 false [wA p b]) := by rw [hB]; simp
      have hlA := (List.getElem?_eq_some_iff.1 hal).1
      have hl4 := hI.lid4
      have hso := hI.so_.low
      have soB : SlotI B so out := hI.so_.keep fun j hj => hBo j (hso j hj).2
      obtain ⟨jo, ko, C, ap, s2, c1, c2, c3⟩ := soB.append (b.2 : Int) (by omega) (by omega)
      have hCo : ∀ j, j < A.length → j ∉ idsOf so → C[j]? = A[j]? := fun j hj hn => by rw [c2 j (by omega) hn, hBo j hj]
      have h2so : 2 ∉ idsOf so := fun h => by have := hso 2 h; omega
      have hC2 := (hCo 2 (by omega) h2so).trans hI.a2
      have hbso : A.length ∉ idsOf so := fun h => by have := hso _ h; omega
      have hCb := (c2 A.length (by omega) hbso).trans hBb
      rw [hwb] at hBb hCb
      have r4 := fun K => r43f (envOf GC fs43) 300 K (A := B) (B := C) (W1 := slA 6 (wAs p (num l))) (v6 := .undef) (v7 := .undef) (so := so) (v10 := v10) (v12 := .int .i64 (i : Int)) (v14 := .bool true) (v15 := .bool false) (v16 := .undef) (x := slA 6 (wAs p (outL l t))) (lid := lid) (bid := A.length) (n := (n : Int)) hBb ap hCb hC2 soB.form2 (fun j hj => ⟨by have := (hso j hj).1; omega, by have := (hso j hj).2; omega⟩) (by omega) (by omega) (by omega) (by omega) (by omega) (webT_out (p := p) (l := l) (show t < n by omega)) (solid_slA _ _) (cellsOf_slA _ _)
      obtain ⟨D, hD⟩ : ∃ D, D = C.set 2 (.row 1 false [.int .i64 (sum + b.1.len p)]) := ⟨_, rfl⟩
      have hDo : ∀ j, j ≠ 2 → D[j]? = C[j]? := fun j hj => by rw [hD, List.getElem?_set_ne (Ne.symm hj)]
      have hDl : D.length = C.length := by rw [hD]; simp
      rw [← hD] at r4
      have hDlid : D[lid]? = some (.row 1 false [.int .i64 (r : Int)]) := by rw [hDo lid (by omega), hCo lid hlA hI.lso]; exact hal
      have r5 := fun K => r43i (envOf GC fs43) 300 K (A := D) (W := webT n p l) (v6 := .undef) (v7 := .undef) (v8 := .sl jo 0 ko) (v10 := slA 6 (wAs p (outL l t))) (v12 := .undef) (v13 := .undef) (v14 := .undef) (v15 := .undef) (v16 := .undef) hDlid (by omega)
      obtain ⟨F, hF⟩ : ∃ F, F = D ++ [.row 1 false [.int .i64 ((r : Int) - 1)]] := ⟨_, rfl⟩
      rw [← hF] at r5
      have hFo : ∀ j, j < D.length → F[j]? = D[j]? := fun j hj => by rw [hF, List.getElem?_append_left hj]
      have htt : b.1.t.toNat = t := by omega
      have hs2 := s2.low
      have hIH := ih (sum + b.1.len p) (outL l t) (out ++ [(b.2 : Int)]) (.sl jo 0 ko) (slA 6 (wAs p (outL l t))) D.length F m (by omega) (by omega) (by omega) (by simp; omega) (fun x hx => (List.mem_filter.1 hx).1) (Nat.le_trans (outL_len l t) hl200) {
        a1 := by
          rw [hFo 1 (by omega), hDo 1 (by omega), hCo 1 (by omega) (fun h => by have := hso 1 h; omega)]; exact hI.a1
        a2 := by rw [hFo 2 (by omega), hD]; exact List.getElem?_set_self (by omega)
        al := by rw [hF]; simp
        lid4 := by omega
        so_ := s2.keep fun j hj => by
          have := hs2 j hj
          rw [hFo j (by omega), hDo j (by omega)]
        lso := fun h => by have := hs2 _ h; omega
        chs := .inl (slA_holds _ _) }
      obtain ⟨o, k1, k2⟩ := hIH
      simp only [← hb, htt]
      refine ⟨o, ?_, k2⟩
      obtain ⟨O, hO⟩ : ∃ O, O = (List.range n).map fun v => slA 6 (wAs p (outL l v)) := ⟨_, rfl⟩
      obtain ⟨W1, hW1⟩ : ∃ W1, W1 = slA 6 (wAs p (num l)) := ⟨_, rfl⟩
      have hW : webT n p l = .fp [.int .i64 (n : Int), W1, .fs 1 O] := by rw [hO, hW1]; rfl
      rw [← hO, ← hW1] at r4
      rw [hW] at r1 r2 r3 r5 k1 ⊢
      obtain ⟨Z, hZ⟩ : ∃ Z, Z = slA 6 (wAs p (outL l t)) := ⟨_, rfl⟩
      rw [← hZ] at r4 r5 k1
      simp only [s43] at r1 r2 r3 r4 r5
      simp [r1, r2, r3, r4, r5]
      rw [← R43_eq, iter_clear, cl43x0]; exact k1
noncomputable def M43 : PModel := fun args => evF (envOf GC fs43) 300 mf43 5 args
theorem spec43F : PureSpecF Try.prog GC 77 M43 := PureSpecF.of_ev (E := envOf GC fs43) (envOf_sound sound43) rfl at43 comp43 5 fun _ _ h => ⟨300, h⟩
def hmsL (L : List LArc) (n to k : Nat) : List (List LP) := (List.range (k + 1)).map fun j => hm L n to j
theorem hmsA_eq (L : List LArc) (n to k : Nat) : .fs 1 (hmsA L n to k) = homT (hmsL L n to k) := by
  unfold hmsA homT hmsL; rw [List.map_map]; rfl
theorem hmsL_get (L : List LArc) (n to : Nat) {k r : Nat} (h : r ≤ k) : (hmsL L n to k)[r]? = some (hm L n to r) := by
  unfold hmsL; rw [List.getElem?_map, List.getElem?_range (by omega)]; rfl
def walkR (r : Option (List Int)) : AV := match r with
  | none => .tup [.nilS, .bool false]
  | some xs => .tup [slA 1 (intsA xs), .bool true]
set_option maxRecDepth 100000 in
theorem M43_eq {n to : Nat} {p : Int} {l : List CArc} (hr : Ready n l p) {k : Nat} (hk1 : 1 ≤ k) (hk : k ≤ 32) {a : NArc} (ha : a ∈ num l) :
    M43 [webT n p l, wA p a, .fs 1 (hmsA (lar p l) n to k), .int .i64 (k : Int)] = some (walkR (walkM p l (hm (lar p l) n to) k 0 [a] [])) := by
  obtain ⟨⟨hn, hl200, hv⟩, hp⟩ := hr
  have hn32 : n ≤ 32 := by omega
  have hok := lar_ok hn32 hp hv
  rw [hmsA_eq]
  have b0 : evBin .sub (.int .i64 (k : Int)) (.int .i64 1) = some (.int .i64 ((k : Int) - 1)) := by
    simp only [evBin]; rw [if_pos trivial, wrapI (by unfold inI; omega)]
  have hI : KInv p (hmsL (lar p l) n to k) k 0 [a] [] .nilS (.sl 3 0 1) 4 [.row 6 false [wA p a], .row 1 false [homT (hmsL (lar p l) n to k)], .row 1 false [.int .i64 0], .row 6 false [wA p a], .row 1 false [.int .i64 ((k : Int) - 1)]] :=
    { a1 := rfl, a2 := rfl, al := rfl, lid4 := by omega, so_ := .inl ⟨rfl, rfl⟩, lso := by simp [idsOf], chs := .inr ⟨rfl, rfl⟩ }
  obtain ⟨o, h1, h2⟩ := walk_loop hp hv hn32 hl200 (hmsL (lar p l) n to k) (hm (lar p l) n to) hk (fun r hr => ⟨hmsL_get _ _ _ (by omega), hm_len _ _ _ _, fun v => by
    have := hm_pb hok to r v
    omega⟩) k 0 [a] [] .nilS (.sl 3 0 1) 4 _ 300 (by omega) (Nat.le_refl _) (by omega) (by simp) (fun x hx => by
    have : x = a := by simpa using hx
    rw [this]; exact ha) (by simp) hI
  unfold M43
  rw [evF_run _ _ rfl]
  obtain ⟨W, hW⟩ : ∃ W, W = webT n p l := ⟨_, rfl⟩
  obtain ⟨HT, hHT⟩ : ∃ HT, homT (hmsL (lar p l) n to k) = .fs 1 HT := ⟨_, rfl⟩
  rw [hHT] at h1 ⊢
  rw [← hW] at h1 h2 ⊢
  unfold wA at h1 ⊢
  obtain ⟨k1, hk1'⟩ : ∃ k1, k1 = (k : Int) - 1 := ⟨_, rfl⟩
  rw [← hk1'] at b0 h1
  cases hw : walkM p l (hm (lar p l) n to) k 0 [a] [] with
  | none =>
    rw [hw] at h2
    obtain ⟨so', v10', lid', v12, v13, v14, v15, v16, A', rfl⟩ := h2
    simp [mf43, b0, go43x0 h1, walkR, pack, freshB, frz, -evBin]
  | some xs =>
    rw [hw] at h2
    obtain ⟨so', v10', lid', A', rfl, hs⟩ := h2
    obtain ⟨q1, q2⟩ := hs.out 3
    have z1 : frz A' 5 (.tup [so', .bool true]) = .tup [slA 1 (intsA xs), .bool true] := by
      show AV.tup [frz A' 4 so', frz A' 4 (.bool true)] = _
      rw [q1]; rfl
    have z2 : freshB A' 5 (.tup [so', .bool true]) = true := by
      show [so', .bool true].all (freshB A' 4) = true
      simp only [List.all_cons, q2]; rfl
    have p1 : pack [so', .bool true] = .tup [so', .bool true] := rfl
    simp [mf43, b0, go43x0 h1, walkR, z1, z2, -evBin, -frz]
end Cy
end Go.Proofs.Ytemklhljjaniaaa
/-
  Cycle: starts: the arcs with which a cycle can begin.
-/
namespace Go.Proofs.Ytemklhljjaniaaa
namespace Cy
open Go

/-- the ways home to a node -/
def homA (p : Int) (l : List CArc) (n k : Nat) (f : Int) : AV := .fs 1 (hmsA (lar p l) n f.toNat k)
def seenN (l : List CArc) : List Int := l.foldl (fun s a => if a.f ∈ s then s else s ++ [a.f]) []
theorem seenN_take (l : List CArc) (i : Nat) (hi : i < l.length) : seenN (l.take (i + 1)) = if l[i].f ∈ seenN (l.take i) then seenN (l.take i) else seenN (l.take i) ++ [l[i].f] := by
  unfold seenN
  rw [List.take_succ_eq_append_getElem hi, List.foldl_append]
  rfl
def kvsG (G : Int → AV) (s : List Int) : List (AV × AV) := s.map fun w => (.int .i64 w, G w)
theorem findG_in (G : Int → AV) (w : Int) : ∀ (s : List Int) (i : Nat), w ∈ s → ∃ q, findA (.int .i64 w) (kvsG G s) i = some (some (q, G w))
  | [], _, h => by cases h
  | x :: s, i, h => by
    by_cases hx : x = w
    · subst hx
      exact ⟨i, by simp [kvsG, findA, keyEq]⟩
    · have hw : w ∈ s := by
        rcases List.mem_cons.1 h with e | e
        · exact absurd e.symm hx
        · exact e
      obtain ⟨q, h1⟩ := findG_in G w s (i + 1) hw
      refine ⟨q, ?_⟩
      simp only [kvsG, List.map_cons, findA, keyEq] at h1 ⊢
      simp only [if_true, beq_eq_false_iff_ne.2 (Ne.symm hx)]
      exact h1
theorem findG_out (G : Int → AV) (w : Int) : ∀ (s : List Int) (i : Nat), w ∉ s → findA (.int .i64 w) (kvsG G s) i = some none
  | [], _, _ => rfl
  | x :: s, i, h => by
    have hx : ¬ w = x := fun e => h (by simp [e])
    have := findG_out G w s (i + 1) (fun e => h (by simp [e]))
    simp only [kvsG, List.map_cons, findA, keyEq] at this ⊢
    simp only [if_true, beq_eq_false_iff_ne.2 hx]
    exact this
theorem lookG_in {G : Int → AV} {s : List Int} {w : Int} {B : Arena} {M : Nat} (hB : B[M]? = some (.map (kvsG G s))) (h : w ∈ s) (ok : Bool) : evLookup ok .nilS B (.map M) (.int .i64 w) = some (if ok then .tup [G w, .bool true] else G w) := by
  obtain ⟨q, h1⟩ := findG_in G w s 0 h
  simp only [evLookup, hB, h1]
theorem lookG_out {G : Int → AV} {s : List Int} {w : Int} {B : Arena} {M : Nat} (hB : B[M]? = some (.map (kvsG G s))) (h : w ∉ s) (ok : Bool) : evLookup ok .nilS B (.map M) (.int .i64 w) = some (if ok then .tup [.nilS, .bool false] else .nilS) := by
  simp only [evLookup, hB, findG_out G w s 0 h]
theorem updG_out {G : Int → AV} {s : List Int} {w : Int} {B : Arena} {M : Nat} (hB : B[M]? = some (.map (kvsG G s))) (h : w ∉ s) : evMapUpdate B (.map M) (.int .i64 w) (G w) = some (B.set M (.map (kvsG G (s ++ [w])))) := by
  simp only [evMapUpdate, hB, findG_out G w s 0 h]
  simp [kvsG]
/-- the copies of arcs -/
def TT (p : Int) (l : List CArc) (i : Nat) : Arena := ((num l).take i).flatMap fun x => [.row 6 false [wA p x], .row 6 false [wA p x]]
theorem TT_succ (p : Int) (l : List CArc) (i : Nat) (hi : i < l.length) : TT p l (i + 1) = TT p l i ++ [.row 6 false [wA p (l[i], i)], .row 6 false [wA p (l[i], i)]] := by
  unfold TT
  have h := num_get l i hi
  obtain ⟨h1, h2⟩ := List.getElem?_eq_some_iff.1 h
  rw [List.take_succ_eq_append_getElem h1, List.flatMap_append, h2]
  rfl
theorem PureIn.consF {G : Nat → Option (List AV)} {fs : List (FuncId × HModel)} {h0 : Handler} {f : FuncId} {pu : List FuncId} {M : PModel} (h : lookM fs f = some (pureFH 4 M)) (hr : PureIn (envY G fs h0) pu) : PureIn (envY G fs h0) (f :: pu) := by
  intro k hk hh args A r A' he
  rcases List.mem_cons.1 hk with rfl | hk
  · simp only [envY, callM, h, pureFH, pureF, List.nil_append, List.append_nil] at he ⊢
    rw [Option.map_eq_some_iff] at he
    obtain ⟨r', hM, he⟩ := he
    simp only [Prod.mk.injEq] at he
    obtain ⟨rfl, rfl⟩ := he
    refine ⟨rfl, fun hn B => ?_⟩
    have hm : args.map (frz B 4) = args.map (frz A 4) := List.map_congr_left fun x hx => noRef_frz 4 x (List.all_eq_true.1 hn x hx)
    rw [hm, hM]; rfl
  · exact hr k hk hh args A r A' he
noncomputable def fs47 : List (FuncId × HModel) := [(83, pureFH 4 M48)]
@[simp] theorem fs47_48 : lookM fs47 83 = some (pureFH 4 M48) := rfl
theorem sound47 : ∀ f M, lookM fs47 f = some M → FnSpecY Try.prog GC f M := lookM_cons (FnSpecY.of_pureF spec48F 4) lookM_nil
noncomputable def H47 : HModel := fun hd => evFun (envY GC fs47 hd) 300 mf47
theorem spec47 : FnSpecY Try.prog GC 82 H47 := evFun_soundY sound47 at47 comp47 (PureIn.consF (M := M48) rfl PureIn.nil)
noncomputable def H42 : HModel := fun hd => evFun (envY GC [] hd) 0 mf42
theorem spec42 : FnSpecY Try.prog GC 76 H42 := evFun_soundY lookM_nil at42 comp42
theorem ev42 (h : Handler) (w : List AV) (k : Int) (A : Arena) : H42 h [.fp w, .int .i64 k] A = some (.func (.func 82) [] [.ptr A.length 0 0, .ptr (A.length + 1) 0 0], A ++ [.row 1 false [.fp w], .row 1 false [.int .i64 k]]) := by
  unfold H42
  rw [evFun_run _ _ rfl]
  simp [mf42]
def R47a : MC := .region [⟨none, .indexSl 6 (.var 6) (.var 8), none⟩, ⟨none, .load true 6 (.tmp 0), none⟩, ⟨some 4, .alloc 6 (.agg [.int .i64 0, .int .i64 0, .int .i64 0, .int .i64 0, .int .i64 0, .int .i64 0]), none⟩, ⟨none, .store 6 (.var 4) (.tmp 1), none⟩]
def R47b : MC := .region [⟨none, .mv (.var 3), none⟩, ⟨none, .fieldAddr 0 (.var 4), none⟩, ⟨none, .fieldAddr 0 (.tmp 1), none⟩, ⟨none, .load false 1 (.tmp 2), none⟩, ⟨none, .lookup 1 true .nilS (.tmp 0) (.tmp 3), none⟩, ⟨none, .mv (.tmp 4), none⟩, ⟨none, .extract (.tmp 5) 0, none⟩, ⟨none, .extract (.tmp 5) 1, none⟩, ⟨none, .mv (.tmp 6), none⟩, ⟨some 5, .mv (.tmp 7), none⟩]
def R47c : MC := .region [⟨none, .mv (.var 5), none⟩, ⟨some 10, .un .not (.tmp 0), none⟩]
def R47d : MC := .region [⟨none, .mv (.var 3), none⟩, ⟨none, .fieldAddr 0 (.var 4), none⟩, ⟨none, .fieldAddr 0 (.tmp 1), none⟩, ⟨none, .load false 1 (.tmp 2), none⟩, ⟨none, .load false 1 (.var 1), none⟩, ⟨none, .fieldAddr 0 (.var 4), none⟩, ⟨none, .fieldAddr 0 (.tmp 5), none⟩, ⟨none, .load false 1 (.tmp 6), none⟩, ⟨none, .load false 1 (.var 2), none⟩, ⟨none, .call (.fn 83) [.tmp 4, .tmp 7, .tmp 8], none⟩, ⟨none, .mapUpdate 1 (.tmp 0) (.tmp 3) (.tmp 9), none⟩]
def R47e : MC := .region [⟨none, .mv (.var 0), none⟩, ⟨none, .load true 6 (.var 4), none⟩, ⟨none, .mv (.var 3), none⟩, ⟨none, .fieldAddr 0 (.var 4), none⟩, ⟨none, .fieldAddr 0 (.tmp 3), none⟩, ⟨none, .load false 1 (.tmp 4), none⟩, ⟨none, .lookup 1 false .nilS (.tmp 2) (.tmp 5), none⟩, ⟨none, .call (.tmp 0) [.tmp 1, .tmp 6], none⟩, ⟨some 11, .un .not (.tmp 7), none⟩]
def R47f : MC := .region [⟨none, .bin .add (.var 8) (.cst (.int .i64 1)), none⟩, ⟨some 8, .mv (.tmp 0), none⟩]
theorem R47_eq : lp47x0 = .seq (.region [⟨some 9, .bin .lss (.var 8) (.var 7), none⟩]) (.seq (.cond (.var 9) .skip (.exit 0)) (.seq (.seq (.block 1 (.seq R47a (.seq (.seq R47b (.seq R47c (.cond (.var 10) R47d .skip))) (.seq R47e (.cond (.var 11) .ret .skip))))) (.kill [4, 5, 9, 10, 11])) R47f)) := rfl
/-- the arena of starts, behind i arcs -/
def A47 (p : Int) (l : List CArc) (n k : Nat) (X : Arena) (i : Nat) : Arena := X ++ .map (kvsG (homA p l n k) (seenN (l.take i))) :: TT p l i
/-- the arena when the i-th arc is offered -/
def P47 (p : Int) (l : List CArc) (n k : Nat) (X : Arena) (i : Nat) (a : CArc) : Arena := X ++ .map (kvsG (homA p l n k) (seenN (l.take (i + 1)))) :: (TT p l i ++ [.row 6 false [wA p (a, i)]])
set_option maxRecDepth 100000 in
theorem r47a (E : Env) (fuel : Nat) (K : List KC) (A : Arena) {p : Int} {l : List CArc} {i : Nat} (hi : i < l.length) (v0 v1 v2 v3 v4 v5 v7 v9 v10 v11 : AV) :
    run E fuel (.code R47a :: K) [v0, v1, v2, v3, v4, v5, slA 6 (wAs p (num l)), v7, .int .i64 (i : Int), v9, v10, v11] A =
      run E fuel K [v0, v1, v2, v3, .ptr A.length 0 0, v5, slA 6 (wAs p (num l)), v7, .int .i64 (i : Int), v9, v10, v11] (A ++ [.row 6 false [wA p (l[i], i)]]) := by
  have x1 := web_at p hi A .i64
  obtain ⟨W, hW⟩ : ∃ W, W = slA 6 (wAs p (num l)) := ⟨_, rfl⟩
  rw [← hW] at x1 ⊢
  simp [R47a, x1, wA, -evIndexSl]
set_option maxRecDepth 100000 in
theorem round47 (h : Handler) (L : Nat) {X : Arena} {n k wp kp : Nat} {p : Int} {l : List CArc} (hr : Ready n l p) (hk : k ≤ 32) (hw : X[wp]? = some (.row 1 false [webT n p l])) (hkp : X[kp]? = some (.row 1 false [.int .i64 (k : Int)])) {i : Nat} (hi : i < l.length) {b : Bool} {A' : Arena}
    (hy : h (.func (.yield L) [] []) [wA p (l[i], i), homA p l n k l[i].f] (P47 p l n k X i l[i]) = some (.bool b, A')) :
    ∃ d4 d5 d9 d10 d11, run (envY GC fs47 h) 300 [.code lp47x0] (st47x0 (.func (.yield L) [] []) (.ptr wp 0 0) (.ptr kp 0 0) (.map X.length) (slA 6 (wAs p (num l))) (.int .i64 (l.length : Int)) (.int .i64 (i : Int))) (A47 p l n k X i) =
      if b = true then some (.normal (st47x0 (.func (.yield L) [] []) (.ptr wp 0 0) (.ptr kp 0 0) (.map X.length) (slA 6 (wAs p (num l))) (.int .i64 (l.length : Int)) (.int .i64 ((i + 1 : Nat) : Int))) A')
      else some (.ret [.func (.yield L) [] [], .ptr wp 0 0, .ptr kp 0 0, .map X.length, d4, d5, slA 6 (wAs p (num l)), .int .i64 (l.length : Int), .int .i64 (i : Int), d9, d10, d11] A') := by
  have hmem := hr.1.2.2 _ (List.getElem_mem hi)
  obtain ⟨f, hf, hfn⟩ := nat_of hmem.1
  have hl200 := hr.1.2.1
  have hn32 := hr.1.1
  obtain ⟨B, hB⟩ : ∃ B, B = A47 p l n k X i ++ [.row 6 false [wA p (l[i], i)]] := ⟨_, rfl⟩
  have hBX : ∀ j, j < X.length → B[j]? = X[j]? := fun j hj => by rw [hB, A47, List.append_assoc, List.getElem?_append_left hj]
  have hwl := (List.getElem?_eq_some_iff.1 hw).1
  have hkl := (List.getElem?_eq_some_iff.1 hkp).1
  have hBw := (hBX wp hwl).trans hw
  have hBk := (hBX kp hkl).trans hkp
  have hBM : B[X.length]? = some (.map (kvsG (homA p l n k) (seenN (l.take i)))) := by
    rw [hB, A47, List.append_assoc, List.getElem?_append_right (Nat.le_refl _)]; simp
  obtain ⟨M, hM⟩ : ∃ M, M = X.length := ⟨_, rfl⟩
  obtain ⟨i8, hi8⟩ : ∃ i8, i8 = (A47 p l n k X i).length := ⟨_, rfl⟩
  have hlow : M < i8 := by rw [hi8, hM]; simp [A47]
  have hB8 : B[i8]? = some (.row 6 false [wA p (l[i], i)]) := by rw [hB, hi8]; simp
  have r1 := fun K => r47a (envY GC fs47 h) 300 K (A47 p l n k X i) (p := p) hi (.func (.yield L) [] []) (.ptr wp 0 0) (.ptr kp 0 0) (.map X.length) .undef .undef (.int .i64 (l.length : Int)) (.bool true) .undef .undef
  rw [← hB, ← hi8, ← hM] at r1
  rw [← hM] at hBM ⊢
  have hst := seenN_take l i hi
  rw [hf] at hst hy
  obtain ⟨G, hG⟩ : ∃ G, G = homA p l n k := ⟨_, rfl⟩
  have m48 : M48 [webT n p l, .int .i64 (f : Int), .int .i64 (k : Int)] = some (G (f : Int)) := by
    rw [M48_eq hr (by omega) hk, hG]; unfold homA; rw [Int.toNat_natCast]
  have hGf : ∃ T, G (f : Int) = .fs 1 T := ⟨hmsA (lar p l) n f k, by rw [hG]; unfold homA; rw [Int.toNat_natCast]⟩
  have b1 := lt_nat i l.length .i64
  rw [decide_eq_true hi] at b1
  have b3 := add1_nat i (by omega)
  obtain ⟨i1, hi1⟩ : ∃ i1 : Nat, i1 = i + 1 := ⟨_, rfl⟩
  rw [← hi1] at b3 ⊢
  rw [← hG] at hBM hy
  obtain ⟨T, hT⟩ := hGf
  have hnw : wA p (l[i], i) = .agg [.int .i64 (f : Int), .int .i64 l[i].t, .int .i64 l[i].w, .int .i64 l[i].k, .int .i64 (i : Int), .int .i64 (l[i].len p)] := by unfold wA; rw [hf]
  rw [hnw] at hB8 hy
  obtain ⟨A1, hA1⟩ : ∃ A1, A1 = A47 p l n k X i := ⟨_, rfl⟩
  rw [← hA1] at r1 ⊢
  obtain ⟨W1, O, hW, hW1⟩ : ∃ W1 O, webT n p l = .fp [.int .i64 (n : Int), W1, O] ∧ W1 = slA 6 (wAs p (num l)) := ⟨_, _, rfl, rfl⟩
  have hWfz : ∀ B n, frz B n W1 = W1 := fun B n => by rw [hW1]; exact frz_slA B n 6 _
  rw [← hW1] at r1 ⊢
  by_cases hs : (f : Int) ∈ seenN (l.take i)
  · rw [if_pos hs] at hst
    have hP : P47 p l n k X i l[i] = B := by
      rw [hB, P47, A47, hst]; simp
    rw [hP] at hy
    have lk := fun ok => lookG_in hBM hs ok
    have lk1 := lk true
    have lk2 := lk false
    simp only [if_true, Bool.false_eq_true, if_false] at lk1 lk2
    cases b with
    | true =>
      refine ⟨.undef, .undef, .undef, .undef, .undef, ?_⟩
      rw [R47_eq]
      simp [b1, b3, r1, R47b, R47c, R47e, R47f, hB8, lk1, lk2, hy, -evBin, -evLookup]
    | false =>
      refine ⟨.ptr i8 0 0, .bool true, .bool true, .bool false, .bool true, ?_⟩
      rw [R47_eq]
      simp [b1, r1, R47b, R47c, R47e, R47f, hB8, lk1, lk2, hy, -evBin, -evLookup]
  · rw [if_neg hs] at hst
    have up := updG_out hBM hs
    obtain ⟨C, hC⟩ : ∃ C, C = B.set M (.map (kvsG G (seenN (l.take i) ++ [(f : Int)]))) := ⟨_, rfl⟩
    have hP : P47 p l n k X i l[i] = C := by
      rw [hC, hB, P47, A47, hst, hM, List.append_assoc, List.set_append_right _ _ (Nat.le_refl _), ← hG]; simp
    rw [hP] at hy
    rw [← hC] at up
    have hCM : C[M]? = some (.map (kvsG G (seenN (l.take i) ++ [(f : Int)]))) := by rw [hC]; exact List.getElem?_set_self (List.getElem?_eq_some_iff.1 hBM).1
    have hC8 := (show C[i8]? = B[i8]? by rw [hC, List.getElem?_set_ne (by omega)]).trans hB8
    have lk1 := lookG_out hBM hs true
    have lk2 := lookG_in hCM (show (f : Int) ∈ seenN (l.take i) ++ [(f : Int)] by simp) false
    simp only [if_true, Bool.false_eq_true, if_false] at lk1 lk2
    rw [hW] at hBw m48
    rw [hT] at up lk2 m48 hy
    have hfz1 : ∀ B, frz B 4 (.fp [.int .i64 (n : Int), W1, O]) = .fp [.int .i64 (n : Int), W1, O] := fun _ => rfl
    cases b with
    | true =>
      refine ⟨.undef, .undef, .undef, .undef, .undef, ?_⟩
      rw [R47_eq]
      simp [b1, b3, r1, R47b, R47c, R47d, R47e, R47f, hB8, hC8, hBw, hBk, lk1, lk2, m48, up, hy, -evBin, -evLookup, -evMapUpdate]
    | false =>
      refine ⟨.ptr i8 0 0, .bool false, .bool true, .bool true, .bool true, ?_⟩
      rw [R47_eq]
      simp [b1, r1, R47b, R47c, R47d, R47e, R47f, hB8, hC8, hBw, hBk, lk1, lk2, m48, up, hy, -evBin, -evLookup, -evMapUpdate]
theorem A47_zero (p : Int) (l : List CArc) (n k : Nat) (X : Arena) : A47 p l n k X 0 = X ++ [.map []] := by
  simp [A47, TT, seenN, kvsG]
/-- starts, its yields given -/
theorem ev47 (h : Handler) (L : Nat) {X : Arena} {n k wp kp : Nat} {p : Int} {l : List CArc} (hr : Ready n l p) (hk : k ≤ 32) (hw : X[wp]? = some (.row 1 false [webT n p l])) (hkp : X[kp]? = some (.row 1 false [.int .i64 (k : Int)])) (m : Nat) (hm : m ≤ l.length)
    (hno : ∀ i (hi : i < l.length), i < m → h (.func (.yield L) [] []) [wA p (l[i], i), homA p l n k l[i].f] (P47 p l n k X i l[i]) = some (.bool true, A47 p l n k X (i + 1)))
    (Z : Arena) (hyes : ∀ hi : m < l.length, h (.func (.yield L) [] []) [wA p (l[m], m), homA p l n k l[m].f] (P47 p l n k X m l[m]) = some (.bool false, Z)) :
    H47 h [.func (.yield L) [] [], .ptr wp 0 0, .ptr kp 0 0] X = some (.tup [], if m < l.length then Z else A47 p l n k X l.length) := by
  have hl200 := hr.1.2.1
  have hwl := (List.getElem?_eq_some_iff.1 hw).1
  have hw' : (X ++ [Ent.map []])[wp]? = some (.row 1 false [webT n p l]) := by rw [List.getElem?_append_left hwl]; exact hw
  have hlen2 : evLenSl (slA 6 (wAs p (num l))) = some (.int .i64 (l.length : Int)) := by rw [len_slA, wAs_len]
  unfold H47
  rw [evFun_run _ _ rfl]
  obtain ⟨W1, O, hW, hW1⟩ : ∃ W1 O, webT n p l = .fp [.int .i64 (n : Int), W1, O] ∧ W1 = slA 6 (wAs p (num l)) := ⟨_, _, rfl, rfl⟩
  by_cases hml : m < l.length
  · rw [if_pos hml]
    obtain ⟨d4, d5, d9, d10, d11, hlast⟩ := round47 h L hr hk hw hkp hml (hyes hml)
    rw [if_neg (by simp)] at hlast
    have lp := iter_up (E := envY GC fs47 h) (fuel := 300) (a := lp47x0) (mask := mask47x0) (fun i => st47x0 (.func (.yield L) [] []) (.ptr wp 0 0) (.ptr kp 0 0) (.map X.length) (slA 6 (wAs p (num l))) (.int .i64 (l.length : Int)) (.int .i64 (i : Int))) (fun i => A47 p l n k X i) m
      (fun _ => cl47x0) (fun _ _ h => by cases h) (fun i hi => by
        obtain ⟨_, _, _, _, _, hl⟩ := round47 h L hr hk hw hkp (show i < l.length by omega) (hno i (by omega) hi)
        rw [if_pos rfl] at hl
        exact hl) hlast (show m < 300 by omega)
    have lp : iter (evC (envY GC fs47 h) 300 lp47x0) mask47x0 300 (st47x0 (.func (.yield L) [] []) (.ptr wp 0 0) (.ptr kp 0 0) (.map X.length) (slA 6 (wAs p (num l))) (.int .i64 (l.length : Int)) (.int .i64 0)) (A47 p l n k X 0) = _ := lp
    rw [A47_zero] at lp
    rw [hW] at hw'
    rw [← hW1] at lp hlen2
    simp [mf47, hw', hlen2, go47x0 lp, pack, -evLenSl]
  · rw [if_neg hml]
    have hml' : m = l.length := by omega
    have lp := iter_up (E := envY GC fs47 h) (fuel := 300) (a := lp47x0) (mask := mask47x0) (fun i => st47x0 (.func (.yield L) [] []) (.ptr wp 0 0) (.ptr kp 0 0) (.map X.length) (slA 6 (wAs p (num l))) (.int .i64 (l.length : Int)) (.int .i64 (i : Int))) (fun i => A47 p l n k X i) l.length
      (o := .exit 0 ((st47x0 (.func (.yield L) [] []) (.ptr wp 0 0) (.ptr kp 0 0) (.map X.length) (slA 6 (wAs p (num l))) (.int .i64 (l.length : Int)) (.int .i64 (l.length : Int))).set 9 (.bool false)) (A47 p l n k X l.length))
      (fun _ => cl47x0) (fun _ _ h => by cases h) (fun i hi => by
        obtain ⟨_, _, _, _, _, hl⟩ := round47 h L hr hk hw hkp hi (hno i hi (by omega))
        rw [if_pos rfl] at hl
        exact hl) (by simp [lp47x0]) (show l.length < 300 by omega)
    have lp : iter (evC (envY GC fs47 h) 300 lp47x0) mask47x0 300 (st47x0 (.func (.yield L) [] []) (.ptr wp 0 0) (.ptr kp 0 0) (.map X.length) (slA 6 (wAs p (num l))) (.int .i64 (l.length : Int)) (.int .i64 0)) (A47 p l n k X 0) = _ := lp
    rw [A47_zero] at lp
    rw [hW] at hw'
    rw [← hW1] at lp hlen2
    simp [mf47, hw', hlen2, go47x0 lp, pack, -evLenSl]
end Cy
end Go.Proofs.Ytemklhljjaniaaa
/-
  Cycle: the first one of the shortest cycles that refute a period.
-/
namespace Go.Proofs.Ytemklhljjaniaaa
namespace Cy
open Go

/-- the way from an arc that leads back -/
def wk (p : Int) (l : List CArc) (n k : Nat) (x : NArc) : Option (List Int) := walkM p l (hm (lar p l) n x.1.f.toNat) k 0 [x] []
def firstK (p : Int) (l : List CArc) (n k : Nat) : Option (List Int) := (num l).findSome? (wk p l n k)
def cycM (p : Int) (l : List CArc) (n : Nat) : Option (List Int) := (List.range n).findSome? fun j => firstK p l n (j + 1)
noncomputable def fs27 : List (FuncId × HModel) := [(76, H42), (77, pureFH 4 M43), (82, H47)]
@[simp] theorem fs27_42 : lookM fs27 76 = some H42 := rfl
@[simp] theorem fs27_43 : lookM fs27 77 = some (pureFH 4 M43) := rfl
@[simp] theorem fs27_47 : lookM fs27 82 = some H47 := rfl
theorem sound27 : ∀ f M, lookM fs27 f = some M → FnSpecY Try.prog GC f M := lookM_cons spec42 (lookM_cons (FnSpecY.of_pureF spec43F 4) (lookM_cons spec47 lookM_nil))

set_option maxRecDepth 100000 in
theorem body27_no (h0 : Handler) {Q : Arena} {n k wb rb kb vid : Nat} {p : Int} {l : List CArc} (hr : Ready n l p) (hk1 : 1 ≤ k) (hk : k ≤ 32) (hw : Q[wb]? = some (.row 1 false [webT n p l])) (hkp : Q[kb]? = some (.row 1 false [.int .i64 (k : Int)])) {i : Nat} (hi : i < l.length) (hv : Q[vid]? = some (.row 6 false [wA p (l[i], i)]))
    (hn : wk p l n k (l[i], i) = none) (v0 v6 v7 v8 v9 v10 v11 v12 v13 : AV) :
    ∃ σ, run (envY GC fs27 h0) 300 [.code lp27x1] [v0, .ptr wb 0 0, .ptr rb 0 0, .ptr kb 0 0, .ptr vid 0 0, homA p l n k l[i].f, v6, v7, v8, v9, v10, v11, v12, v13] Q = some (.normal σ Q) := by
  have m := M43_eq hr hk1 hk (a := (l[i], i)) (show (l[i], i) ∈ num l from List.mem_of_getElem? (num_get l i hi)) (to := l[i].f.toNat)
  unfold wk at hn
  rw [hn] at m
  have hH : ∃ T, homA p l n k l[i].f = .fs 1 T ∧ T = hmsA (lar p l) n l[i].f.toNat k := ⟨_, rfl, rfl⟩
  obtain ⟨T, hT, hT2⟩ := hH
  rw [← hT2] at m
  rw [hT]
  obtain ⟨W1, O, hW⟩ : ∃ W1 O, webT n p l = .fp [.int .i64 (n : Int), W1, O] := ⟨_, _, rfl⟩
  rw [hW] at hw m
  unfold wA at hv m
  simp only [walkR] at m hv
  simp [lp27x1, hw, hkp, hv, m]
set_option maxRecDepth 100000 in
theorem body27_yes (h0 : Handler) {Q : Arena} {n k wb rb kb vid : Nat} {e2 : AV} {p : Int} {l : List CArc} (hr : Ready n l p) (hk1 : 1 ≤ k) (hk : k ≤ 32) (hw : Q[wb]? = some (.row 1 false [webT n p l])) (hkp : Q[kb]? = some (.row 1 false [.int .i64 (k : Int)])) (hrb : Q[rb]? = some (.row 1 false [e2])) {i : Nat} (hi : i < l.length) (hv : Q[vid]? = some (.row 6 false [wA p (l[i], i)]))
    {res : List Int} (hn : wk p l n k (l[i], i) = some res) (v0 v6 v7 v8 v9 v10 v11 v12 v13 : AV) :
    ∃ σ, run (envY GC fs27 h0) 300 [.code lp27x1] [v0, .ptr wb 0 0, .ptr rb 0 0, .ptr kb 0 0, .ptr vid 0 0, homA p l n k l[i].f, v6, v7, v8, v9, v10, v11, v12, v13] Q = some (.ret σ (Q.set rb (.row 1 false [slA 1 (intsA res)]))) := by
  have m := M43_eq hr hk1 hk (a := (l[i], i)) (show (l[i], i) ∈ num l from List.mem_of_getElem? (num_get l i hi)) (to := l[i].f.toNat)
  unfold wk at hn
  rw [hn] at m
  have hH : ∃ T, homA p l n k l[i].f = .fs 1 T ∧ T = hmsA (lar p l) n l[i].f.toNat k := ⟨_, rfl, rfl⟩
  obtain ⟨T, hT, hT2⟩ := hH
  rw [← hT2] at m
  rw [hT]
  obtain ⟨W1, O, hW⟩ : ∃ W1 O, webT n p l = .fp [.int .i64 (n : Int), W1, O] := ⟨_, _, rfl⟩
  rw [hW] at hw m
  unfold wA at hv m
  obtain ⟨R, hR⟩ : ∃ R, R = slA 1 (intsA res) := ⟨_, rfl⟩
  have hR2 : R = .nilS ∨ ∃ T, R = .fs 1 T := by
    rw [hR]; cases intsA res with
    | nil => exact .inl rfl
    | cons x r => exact .inr ⟨_, rfl⟩
  simp only [walkR, ← hR] at m hv
  rw [← hR]
  rcases hR2 with rfl | ⟨T2, rfl⟩
  · simp [lp27x1, hw, hkp, hv, hrb, m]
  · simp [lp27x1, hw, hkp, hv, hrb, m]

theorem A47_app (p : Int) (l : List CArc) (n k : Nat) (X : Arena) {i : Nat} (hi : i < l.length) : P47 p l n k X i l[i] ++ [.row 6 false [wA p (l[i], i)]] = A47 p l n k X (i + 1) := by
  unfold P47 A47
  rw [TT_succ p l i hi]
  simp
theorem A47_old (p : Int) (l : List CArc) (n k : Nat) {X : Arena} (i : Nat) {j : Nat} (hj : j < X.length) : (A47 p l n k X i)[j]? = X[j]? := by
  unfold A47; rw [List.getElem?_append_left hj]
theorem A47_set (p : Int) (l : List CArc) (n k : Nat) {X : Arena} (i : Nat) {j : Nat} (hj : j < X.length) (e : Ent) : (A47 p l n k X i).set j e = A47 p l n k (X.set j e) i := by
  unfold A47; rw [List.set_append_left _ _ hj]
theorem set_back {A : Arena} {n : Nat} {e : Ent} (h : A[n]? = some e) (x : Ent) : (A.set n x).set n e = A := by
  rw [List.set_set]
  apply List.ext_getElem?
  intro i
  by_cases hi : n = i
  · subst hi; rw [List.getElem?_set_self (List.getElem?_eq_some_iff.1 h).1, h]
  · rw [List.getElem?_set_ne hi]
section
variable {h0 : Handler} {X : Arena} {r : Loop} {L n k wb rb kb : Nat} {e2 : AV} {p : Int} {l : List CArc}
set_option maxRecDepth 100000 in
theorem yield27 (hr : Ready n l p) (hk1 : 1 ≤ k) (hk : k ≤ 32) (hw : X[wb]? = some (.row 1 false [webT n p l])) (hkp : X[kb]? = some (.row 1 false [.int .i64 (k : Int)])) (hrb : X[rb]? = some (.row 1 false [e2])) {i : Nat} (hi : i < l.length) (v0 v4 v5 v6 v7 v8 v9 v10 v11 v12 v13 : AV) :
    yieldH X.length L r [v0, .ptr wb 0 0, .ptr rb 0 0, .ptr kb 0 0, v4, v5, v6, v7, v8, v9, v10, v11, v12, v13] [10, 11] (evC (envY GC fs27 h0) 300 lp27x0) (evC (envY GC fs27 h0) 300 lp27x1) h0 (.func (.yield L) [] []) [wA p (l[i], i), homA p l n k l[i].f] (P47 p l n k (X ++ [Ent.loop r 0]) i l[i]) =
      match wk p l n k (l[i], i) with
      | none => some (.bool true, A47 p l n k (X ++ [Ent.loop r 0]) (i + 1))
      | some res => some (.bool false, A47 p l n k ((X ++ [Ent.loop r 1]).set rb (.row 1 false [slA 1 (intsA res)])) (i + 1)) := by
  have hwl := (List.getElem?_eq_some_iff.1 hw).1
  have hkl := (List.getElem?_eq_some_iff.1 hkp).1
  have hrl := (List.getElem?_eq_some_iff.1 hrb).1
  obtain ⟨P, hP⟩ : ∃ P, P = P47 p l n k (X ++ [Ent.loop r 0]) i l[i] := ⟨_, rfl⟩
  have hQ := A47_app p l n k (X ++ [Ent.loop r 0]) hi
  rw [← hP] at hQ ⊢
  have hPn : P[X.length]? = some (.loop r 0) := by rw [hP, P47, List.getElem?_append_left (by simp)]; simp
  obtain ⟨Q, hQ'⟩ : ∃ Q, Q = P ++ [.row 6 false [wA p (l[i], i)]] := ⟨_, rfl⟩
  have hPl : X.length < P.length := (List.getElem?_eq_some_iff.1 hPn).1
  have hQn : Q[X.length]? = some (.loop r 0) := by rw [hQ', List.getElem?_append_left hPl]; exact hPn
  have hQo : ∀ j, j < X.length → (Q.set X.length .dead)[j]? = X[j]? := fun j hj => by
    rw [List.getElem?_set_ne (by omega), hQ', hQ, A47_old _ _ _ _ _ (by simp; omega), List.getElem?_append_left hj]
  have hQv : (Q.set X.length .dead)[P.length]? = some (.row 6 false [wA p (l[i], i)]) := by
    rw [List.getElem?_set_ne (by omega), hQ']; simp
  have hasg : ∀ v0 v1 v2 v3 v4 v5 v6 v7 v8 v9 v12 v13, run (envY GC fs27 h0) 300 [.code lp27x0] [v0, v1, v2, v3, v4, v5, v6, v7, v8, v9, wA p (l[i], i), homA p l n k l[i].f, v12, v13] P = some (.normal [v0, v1, v2, v3, .ptr P.length 0 0, homA p l n k l[i].f, v6, v7, v8, v9, wA p (l[i], i), homA p l n k l[i].f, v12, v13] Q) := by
    intros
    rw [hQ']
    obtain ⟨H, hH⟩ : ∃ H, H = homA p l n k l[i].f := ⟨_, rfl⟩
    rw [← hH]
    unfold wA
    simp [lp27x0]
  cases hwk : wk p l n k (l[i], i) with
  | none =>
    obtain ⟨σ, hb⟩ := body27_no h0 (Q := Q.set X.length .dead) hr hk1 hk ((hQo wb hwl).trans hw) ((hQo kb hkl).trans hkp) (rb := rb) hi hQv hwk v0 v6 v7 v8 v9 (wA p (l[i], i)) (homA p l n k l[i].f) v12 v13
    unfold yieldH
    simp [hPn, setAll, evC_run, hasg, hb, hQn, set_back hQn]
    rw [hQ', hQ]
  | some res =>
    obtain ⟨σ, hb⟩ := body27_yes h0 (Q := Q.set X.length .dead) hr hk1 hk ((hQo wb hwl).trans hw) ((hQo kb hkl).trans hkp) ((hQo rb hrl).trans hrb) hi hQv hwk v0 v6 v7 v8 v9 (wA p (l[i], i)) (homA p l n k l[i].f) v12 v13
    unfold yieldH
    simp [hPn, setAll, evC_run, hasg, hb, hQn]
    rw [hQ', hQ, A47_set _ _ _ _ _ (by simp), A47_set _ _ _ _ _ (by simp; omega), A47_set _ _ _ _ _ (by simp)]
    congr 1
    rw [List.set_comm _ _ (by omega)]
    congr 1
    simp
end
section
variable {X : Arena} {n k wb rb kb wp kp : Nat} {e2 : AV} {p : Int} {l : List CArc}
set_option maxRecDepth 100000 in
theorem range27 (hr : Ready n l p) (hk1 : 1 ≤ k) (hk : k ≤ 32) (hw : X[wb]? = some (.row 1 false [webT n p l])) (hkp : X[kb]? = some (.row 1 false [.int .i64 (k : Int)])) (hrb : X[rb]? = some (.row 1 false [e2])) (hw2 : X[wp]? = some (.row 1 false [webT n p l])) (hk2 : X[kp]? = some (.row 1 false [.int .i64 (k : Int)])) (m : Nat) (hm : m ≤ l.length)
    (hno : ∀ i (hi : i < l.length), i < m → wk p l n k (l[i], i) = none) (res : List Int) (hyes : ∀ hi : m < l.length, wk p l n k (l[m], m) = some res) (v0 v4 v5 v6 v7 v8 v10 v11 v12 v13 : AV) (K : List KC) :
    run (envOf GC fs27) 300 (.code (.rangeFunc (.var 9) [10, 11] lp27x0 lp27x1) :: K) [v0, .ptr wb 0 0, .ptr rb 0 0, .ptr kb 0 0, v4, v5, v6, v7, v8, .func (.func 82) [] [.ptr wp 0 0, .ptr kp 0 0], v10, v11, v12, v13] X =
      after (envOf GC fs27) 300 K (if m < l.length then .ret [v0, .ptr wb 0 0, .ptr rb 0 0, .ptr kb 0 0, v4, v5, v6, v7, v8, .func (.func 82) [] [.ptr wp 0 0, .ptr kp 0 0], v10, v11, v12, v13] (A47 p l n k ((X ++ [Ent.dead]).set rb (.row 1 false [slA 1 (intsA res)])) (m + 1))
        else .normal [v0, .ptr wb 0 0, .ptr rb 0 0, .ptr kb 0 0, v4, v5, v6, v7, v8, .func (.func 82) [] [.ptr wp 0 0, .ptr kp 0 0], v10, v11, v12, v13] (A47 p l n k (X ++ [Ent.dead]) l.length)) := by
  refine run_rangeFunc _ _ _ _ _ fun L r => ?_
  have hrl := (List.getElem?_eq_some_iff.1 hrb).1
  have old : ∀ {q : Nat} {e : Ent}, X[q]? = some e → (X ++ [Ent.loop r 0])[q]? = some e := fun {q} {e} h => by rw [List.getElem?_append_left (List.getElem?_eq_some_iff.1 h).1]; exact h
  have hc := ev47 (yieldH X.length L r [v0, .ptr wb 0 0, .ptr rb 0 0, .ptr kb 0 0, v4, v5, v6, v7, v8, .func (.func 82) [] [.ptr wp 0 0, .ptr kp 0 0], v10, v11, v12, v13] [10, 11] (evC (envY GC fs27 fun _ _ _ => none) 300 lp27x0) (evC (envY GC fs27 fun _ _ _ => none) 300 lp27x1) fun _ _ _ => none) L (X := X ++ [Ent.loop r 0]) hr hk (old hw2) (old hk2) m hm
    (fun i hi him => by rw [yield27 hr hk1 hk hw hkp hrb hi, hno i hi him]) (A47 p l n k ((X ++ [Ent.loop r 1]).set rb (.row 1 false [slA 1 (intsA res)])) (m + 1)) (fun hi => by rw [yield27 hr hk1 hk hw hkp hrb hi, hyes hi])
  have hcall : callM fs27 (yieldH X.length L r [v0, .ptr wb 0 0, .ptr rb 0 0, .ptr kb 0 0, v4, v5, v6, v7, v8, .func (.func 82) [] [.ptr wp 0 0, .ptr kp 0 0], v10, v11, v12, v13] [10, 11] (evC (envY GC fs27 fun _ _ _ => none) 300 lp27x0) (evC (envY GC fs27 fun _ _ _ => none) 300 lp27x1) fun _ _ _ => none)
      (.func (.func 82) [] [.ptr wp 0 0, .ptr kp 0 0]) [.func (.yield L) [] []] (X ++ [Ent.loop r 0]) = _ := hc
  show (match callM fs27 _ (.func (.func 82) [] [.ptr wp 0 0, .ptr kp 0 0]) [.func (.yield L) [] []] (X ++ [Ent.loop r 0]) with
    | some (_, A') => afterR X.length _ A'
    | none => none) = _
  erw [hcall]
  by_cases hml : m < l.length
  · simp only [if_pos hml]
    have e1 : (A47 p l n k ((X ++ [Ent.loop r 1]).set rb (.row 1 false [slA 1 (intsA res)])) (m + 1))[X.length]? = some (.loop r 1) := by
      rw [A47_old _ _ _ _ _ (by simp), List.getElem?_set_ne (by omega)]; simp
    simp only [afterR, e1]
    rw [A47_set _ _ _ _ _ (by simp), List.set_comm _ _ (by omega)]
    have e2 : (X ++ [Ent.loop r 1]).set X.length .dead = X ++ [Ent.dead] := by simp
    rw [e2]; rfl
  · simp only [if_neg hml]
    have e1 : (A47 p l n k (X ++ [Ent.loop r 0]) l.length)[X.length]? = some (.loop r 0) := by
      rw [A47_old _ _ _ _ _ (by simp)]; simp
    simp only [afterR, e1]
    rw [A47_set _ _ _ _ _ (by simp)]
    have e2 : (X ++ [Ent.loop r 0]).set X.length .dead = X ++ [Ent.dead] := by simp
    rw [e2]; rfl
end
/-- the first arc with which a cycle begins, if there is one -/
theorem first_cases {α β : Type} (f : α → Option β) (xs : List α) : (xs.findSome? f = none ∧ ∀ x ∈ xs, f x = none) ∨ ∃ (m : Nat) (hm : m < xs.length) (r : β), xs.findSome? f = some r ∧ f xs[m] = some r ∧ ∀ i (hi : i < m), f (xs[i]'(by omega)) = none := by
  induction xs with
  | nil => exact .inl ⟨rfl, by simp⟩
  | cons x xs ih =>
    cases hx : f x with
    | some r =>
      exact .inr ⟨0, by simp, r, by simp [hx], hx, fun i hi => by omega⟩
    | none =>
      rcases ih with ⟨h1, h2⟩ | ⟨m, hm, r, h1, h2, h3⟩
      · refine .inl ⟨by simp [hx, h1], fun y hy => ?_⟩
        rcases List.mem_cons.1 hy with rfl | hy
        · exact hx
        · exact h2 y hy
      · refine .inr ⟨m + 1, by simp; omega, r, by simp [hx, h1], by simpa using h2, fun i hi => ?_⟩
        cases i with
        | zero => exact hx
        | succ i => simpa using h3 i (by omega)
end Cy
end Go.Proofs.Ytemklhljjaniaaa
/-
  Cycle: cycle; Levels.
-/
namespace Go.Proofs.Ytemklhljjaniaaa
namespace Cy
open Go

noncomputable def M27 : PModel := fun args => evP (envOf GC fs27) 300 mf27 5 args
theorem spec27 : PureSpec Try.prog GC 58 M27 := PureSpec.of_ev (E := envOf GC fs27) (envOf_sound sound27) rfl at27 comp27 5 fun _ _ h => ⟨300, h⟩
/-- the arena of cycle -/
def CInv (n : Nat) (p : Int) (l : List CArc) (k kb : Nat) (A : Arena) : Prop := A[0]? = some (.row 1 false [webT n p l]) ∧ A[1]? = some (.row 1 false [.nilS]) ∧ A[kb]? = some (.row 1 false [.int .i64 (k : Int)]) ∧ 2 ≤ kb
set_option maxRecDepth 100000 in
theorem round27_end {n : Nat} {p : Int} {l : List CArc} {k kb : Nat} {A : Arena} (hI : CInv n p l k kb A) (hk : n < k) : run (envOf GC fs27) 300 [.code lp27x2] (st27x2 (.ptr 0 0 0) (.ptr 1 0 0) (.ptr kb 0 0)) A = some (.exit 0 ((st27x2 (.ptr 0 0 0) (.ptr 1 0 0) (.ptr kb 0 0)).set 8 (.bool false)) A) := by
  obtain ⟨h0, h1, h2, h3⟩ := hI
  obtain ⟨W1, O, hW⟩ : ∃ W1 O, webT n p l = .fp [.int .i64 (n : Int), W1, O] := ⟨_, _, rfl⟩
  rw [hW] at h0
  have b : evBin .leq (.int .i64 (k : Int)) (.int .i64 (n : Int)) = some (.bool false) := by simp [evBin]; omega
  simp [lp27x2, h0, h2, b, -evBin]
set_option maxRecDepth 100000 in
theorem round27 {n : Nat} {p : Int} {l : List CArc} {k kb : Nat} {A : Arena} (hr : Ready n l p) (hI : CInv n p l k kb A) (hk1 : 1 ≤ k) (hk : k ≤ n) :
    (firstK p l n k = none ∧ ∃ A' kb' σ', run (envOf GC fs27) 300 [.code lp27x2] (st27x2 (.ptr 0 0 0) (.ptr 1 0 0) (.ptr kb 0 0)) A = some (.normal σ' A') ∧ clear mask27x2 σ' = st27x2 (.ptr 0 0 0) (.ptr 1 0 0) (.ptr kb' 0 0) ∧ CInv n p l (k + 1) kb' A') ∨
    (∃ res, firstK p l n k = some res ∧ ∃ A' v0 v3 v4 v5 v6 v7 v8 v9 v10 v11 v12 v13, run (envOf GC fs27) 300 [.code lp27x2] (st27x2 (.ptr 0 0 0) (.ptr 1 0 0) (.ptr kb 0 0)) A = some (.ret [v0, .ptr 0 0 0, .ptr 1 0 0, v3, v4, v5, v6, v7, v8, v9, v10, v11, v12, v13] A') ∧ A'[1]? = some (.row 1 false [slA 1 (intsA res)])) := by
  obtain ⟨h0, h1, h2, h3⟩ := hI
  have hn32 := hr.1.1
  have h1l := (List.getElem?_eq_some_iff.1 h1).1
  have h2l := (List.getElem?_eq_some_iff.1 h2).1
  obtain ⟨X, hX⟩ : ∃ X, X = A ++ [.row 1 false [webT n p l], .row 1 false [.int .i64 (k : Int)]] := ⟨_, rfl⟩
  have hXo : ∀ j, j < A.length → X[j]? = A[j]? := fun j hj => by rw [hX, List.getElem?_append_left hj]
  have x0 := (hXo 0 (by omega)).trans h0
  have x1 := (hXo 1 h1l).trans h1
  have x2 := (hXo kb h2l).trans h2
  have x3 : X[A.length]? = some (.row 1 false [webT n p l]) := by rw [hX]; simp
  have x4 : X[A.length + 1]? = some (.row 1 false [.int .i64 (k : Int)]) := by rw [hX, List.getElem?_append_right (by omega)]; simp
  have hXl : X.length = A.length + 2 := by rw [hX]; simp
  have b : evBin .leq (.int .i64 (k : Int)) (.int .i64 (n : Int)) = some (.bool true) := by simp [evBin]; omega
  have c42 : H42 (fun _ _ _ => none) [webT n p l, .int .i64 (k : Int)] A = some (.func (.func 82) [] [.ptr A.length 0 0, .ptr (A.length + 1) 0 0], X) := by
    rw [hX]; exact ev42 _ _ _ _
  have rg := fun m hm hno res hyes => range27 (X := X) (wb := 0) (rb := 1) (kb := kb) (wp := A.length) (kp := A.length + 1) hr hk1 (by omega) x0 x2 x1 x3 x4 m hm hno res hyes .undef .undef .undef .undef .undef (.bool true) .undef .undef .undef .undef
  have b3 := add1_nat k (by omega)
  obtain ⟨k1, hk1'⟩ : ∃ k1 : Nat, k1 = k + 1 := ⟨_, rfl⟩
  rw [← hk1'] at b3 ⊢
  obtain ⟨W1, O, hW⟩ : ∃ W1 O, webT n p l = .fp [.int .i64 (n : Int), W1, O] := ⟨_, _, rfl⟩
  have hlk : lookM fs27 76 = some H42 := rfl
  have hnl := num_len l
  rcases first_cases (wk p l n k) (num l) with ⟨q1, q2⟩ | ⟨m, hm, res, q1, q2, q3⟩
  · left
    refine ⟨q1, ?_⟩
    have rg1 := rg l.length (Nat.le_refl _) (fun i hi _ => q2 _ (List.mem_of_getElem? (num_get l i hi))) [] (fun h => absurd h (Nat.lt_irrefl _))
    rw [if_neg (Nat.lt_irrefl _)] at rg1
    obtain ⟨D, hD⟩ : ∃ D, D = A47 p l n k (X ++ [Ent.dead]) l.length := ⟨_, rfl⟩
    rw [← hD] at rg1
    have hDo : ∀ j, j < X.length → D[j]? = X[j]? := fun j hj => by rw [hD, A47_old _ _ _ _ _ (by simp; omega), List.getElem?_append_left hj]
    have hDl : X.length ≤ D.length := by rw [hD]; simp [A47]
    have d2 := (hDo kb (by omega)).trans x2
    refine ⟨D ++ [.row 1 false [.int .i64 (k1 : Int)]], D.length, [.undef, .ptr 0 0 0, .ptr 1 0 0, .ptr D.length 0 0, .undef, .undef, .undef, .undef, .undef, .undef, .undef, .undef, .undef, .int .i64 (k : Int)], ?_, cl27x2, ?_, ?_, ?_, by omega⟩
    · rw [hW] at h0 c42
      obtain ⟨Z, hZ⟩ : ∃ Z, Z = A.length + 1 := ⟨_, rfl⟩
      obtain ⟨Y, hY⟩ : ∃ Y, Y = A.length := ⟨_, rfl⟩
      rw [← hZ, ← hY] at c42 rg1
      simp [lp27x2, h0, h2, b, c42, rg1, d2, b3, -evBin]
    · rw [List.getElem?_append_left (by omega), hDo 0 (by omega)]; exact x0
    · rw [List.getElem?_append_left (by omega), hDo 1 (by omega)]; exact x1
    · simp
  · right
    refine ⟨res, q1, ?_⟩
    rw [hnl] at hm
    have hnm : ∀ i (hi : i < l.length), (num l)[i]'(by omega) = (l[i], i) := fun i hi => by
      have := num_get l i hi
      rw [List.getElem?_eq_getElem (by omega)] at this
      exact Option.some.inj this
    have rg1 := rg m (by omega) (fun i hi him => by rw [← hnm i hi]; exact q3 i him) res (fun hi => by rw [← hnm m hi]; exact q2)
    rw [if_pos hm] at rg1
    obtain ⟨D, hD⟩ : ∃ D, D = A47 p l n k ((X ++ [Ent.dead]).set 1 (.row 1 false [slA 1 (intsA res)])) (m + 1) := ⟨_, rfl⟩
    rw [← hD] at rg1
    refine ⟨D, .undef, .ptr kb 0 0, .undef, .undef, .undef, .undef, .bool true, .func (.func 82) [] [.ptr A.length 0 0, .ptr (A.length + 1) 0 0], .undef, .undef, .undef, .undef, ?_, ?_⟩
    · rw [hW] at h0 c42
      obtain ⟨Z, hZ⟩ : ∃ Z, Z = A.length + 1 := ⟨_, rfl⟩
      obtain ⟨Y, hY⟩ : ∃ Y, Y = A.length := ⟨_, rfl⟩
      rw [← hZ, ← hY] at c42 rg1 ⊢
      simp [lp27x2, h0, h2, b, c42, rg1, -evBin]
    · rw [hD, A47_old _ _ _ _ _ (by simp; omega), List.getElem?_set_self (by simp; omega)]
set_option maxRecDepth 100000 in
theorem M27_eq {n : Nat} {p : Int} {l : List CArc} (hr : Ready n l p) : M27 [webT n p l] = some (slA 1 (intsA ((cycM p l n).getD []))) := by
  have hn32 := hr.1.1
  obtain ⟨o, h1, h2⟩ := iter_inv (E := envOf GC fs27) (fuel := 300) (a := lp27x2) (mask := mask27x2)
    (fun κ σ A => ∃ k kb, k + κ = n + 1 ∧ 1 ≤ k ∧ clear mask27x2 σ = st27x2 (.ptr 0 0 0) (.ptr 1 0 0) (.ptr kb 0 0) ∧ CInv n p l k kb A ∧ ∀ j, j + 1 < k → firstK p l n (j + 1) = none)
    (fun o => (∃ k res A' v0 v3 v4 v5 v6 v7 v8 v9 v10 v11 v12 v13, k < n ∧ firstK p l n (k + 1) = some res ∧ (∀ j, j < k → firstK p l n (j + 1) = none) ∧ o = .ret [v0, .ptr 0 0 0, .ptr 1 0 0, v3, v4, v5, v6, v7, v8, v9, v10, v11, v12, v13] A' ∧ A'[1]? = some (.row 1 false [slA 1 (intsA res)])) ∨
      ((∀ j, j < n → firstK p l n (j + 1) = none) ∧ ∃ kb A', o = .exit 0 ((st27x2 (.ptr 0 0 0) (.ptr 1 0 0) (.ptr kb 0 0)).set 8 (.bool false)) A' ∧ A'[1]? = some (.row 1 false [.nilS])))
    (by
      rintro κ σ A ⟨k, kb, hk, hk1, hσ, hI, hno⟩
      rw [hσ]
      by_cases hkn : k ≤ n
      · rcases round27 hr hI hk1 hkn with ⟨q1, A', kb', σ', c1, c2, c3⟩ | ⟨res, q1, A', v0, v3, v4, v5, v6, v7, v8, v9, v10, v11, v12, v13, c1, c2⟩
        · refine .inl ⟨σ', A', c1, κ - 1, by omega, k + 1, kb', by omega, by omega, c2, c3, fun j hj => ?_⟩
          by_cases hjk : j + 1 = k
          · rw [hjk]; exact q1
          · exact hno j (by omega)
        · refine .inr ⟨_, c1, (fun _ _ h => by cases h), .inl ⟨k - 1, res, A', v0, v3, v4, v5, v6, v7, v8, v9, v10, v11, v12, v13, by omega, by rw [show k - 1 + 1 = k by omega]; exact q1, fun j hj => hno j (by omega), rfl, c2⟩⟩
      · refine .inr ⟨_, round27_end hI (by omega), (fun _ _ h => by cases h), .inr ⟨fun j hj => hno j (by omega), kb, A, rfl, hI.2.1⟩⟩)
    300 n (st27x2 (.ptr 0 0 0) (.ptr 1 0 0) (.ptr 2 0 0)) [.row 1 false [webT n p l], .row 1 false [.nilS], .row 1 false [.int .i64 1]] (by omega) ⟨1, 2, by omega, by omega, cl27x2, ⟨rfl, rfl, rfl, by omega⟩, fun j hj => by omega⟩
  have hc : ∀ k res, k < n → firstK p l n (k + 1) = some res → (∀ j, j < k → firstK p l n (j + 1) = none) → cycM p l n = some res := fun k res hk h1 h2 => by
    unfold cycM
    rcases first_cases (fun j => firstK p l n (j + 1)) (List.range n) with ⟨q1, q2⟩ | ⟨m, hm, r, q1, q2, q3⟩
    · have := q2 k (by simp; omega)
      rw [h1] at this; cases this
    · simp only [List.getElem_range] at q2 q3
      simp only [List.length_range] at hm
      rw [q1]
      rcases Nat.lt_trichotomy m k with h | h | h
      · rw [h2 m h] at q2; cases q2
      · rw [h] at q2; rw [h1] at q2; exact q2.symm
      · rw [q3 k h] at h1; cases h1
  have hc2 : (∀ j, j < n → firstK p l n (j + 1) = none) → cycM p l n = none := fun h => by
    unfold cycM
    rw [List.findSome?_eq_none_iff]
    intro j hj
    exact h j (by simpa using hj)
  obtain ⟨W1, O, hW⟩ : ∃ W1 O, webT n p l = .fp [.int .i64 (n : Int), W1, O] := ⟨_, _, rfl⟩
  unfold M27
  rw [evP_run _ _ rfl]
  rw [hW] at h1 ⊢
  rcases h2 with ⟨k, res, A', v0, v3, v4, v5, v6, v7, v8, v9, v10, v11, v12, v13, hk, q1, q2, rfl, q3⟩ | ⟨q1, kb, A', rfl, q3⟩
  · rw [hc k res hk q1 q2]
    simp only [Option.getD_some]
    have hfz : frz A' 5 (slA 1 (intsA res)) = slA 1 (intsA res) := frz_slA _ _ _ _
    have hR2 : slA 1 (intsA res) = .nilS ∨ ∃ T, slA 1 (intsA res) = .fs 1 T := by
      cases intsA res with
      | nil => exact .inl rfl
      | cons x r => exact .inr ⟨_, rfl⟩
    rcases hR2 with e | ⟨T, e⟩
    · rw [e] at q3 ⊢
      simp [mf27, go27x2 h1, q3]
    · rw [e] at q3 ⊢
      simp [mf27, go27x2 h1, q3]
  · rw [hc2 q1]
    have hset : (A'.set 1 (.row 1 false [.nilS]))[1]? = some (.row 1 false [.nilS]) := List.getElem?_set_self (List.getElem?_eq_some_iff.1 q3).1
    simp [mf27, go27x2 h1, q3, hset, slA, intsA]

/-! ### Levels -/
noncomputable def fs14 : List (FuncId × HModel) := [(55, pureFH 4 M25), (56, pureFH 4 M26), (58, pureH 4 M27)]
@[simp] theorem fs14_25 : lookM fs14 55 = some (pureFH 4 M25) := rfl
@[simp] theorem fs14_26 : lookM fs14 56 = some (pureFH 4 M26) := rfl
@[simp] theorem fs14_27 : lookM fs14 58 = some (pureH 4 M27) := rfl
theorem sound14 : ∀ f M, lookM fs14 f = some M → FnSpecY Try.prog GC f M := lookM_cons (FnSpecY.of_pureF spec25F 4) (lookM_cons (FnSpecY.of_pureF spec26F 4) (lookM_cons (FnSpecY.of_pure spec27 4) lookM_nil))
noncomputable def H14 : HModel := fun _ => evFun (envOf GC fs14) 0 mf14
theorem spec14 : FnSpecY Try.prog GC 31 H14 := (evFun_sound (envOf_sound sound14) rfl at14 comp14 PureIn.nil).y
open Classical in
/-- what Levels returns -/
noncomputable def lvM (n : Int) (l : List CArc) (p : Int) : List Int × List Int × Bool :=
  if Ready n l p then (if (levels (lar p l) n.toNat).2 = true then ((levels (lar p l) n.toNat).1, [], true) else ([], (cycM p l n.toNat).getD [], false)) else ([], [], false)
noncomputable def lvT (r : List Int × List Int × Bool) : AV := .tup [slA 1 (intsA r.1), slA 1 (intsA r.2.1), .bool r.2.2]
theorem slA_cases (xs : List Int) : slA 1 (intsA xs) = .nilS ∨ ∃ T, slA 1 (intsA xs) = .fs 1 T := by
  cases xs with
  | nil => exact .inl rfl
  | cons x r => exact .inr ⟨_, rfl⟩
open Classical in
set_option maxRecDepth 100000 in
theorem H14_eq (h : Handler) {A : Arena} {a a' : AV} {l : List CArc} (ha : frz A 4 a = a') (hl : arcsOf a' = some l) (n p : Int) : H14 h [.int .i64 n, a, .int .i64 p] A = some (lvT (lvM n l p), A) := by
  have m1 : M25 [.int .i64 n, a', .int .i64 p] = some (if Ready n l p then .tup [webT n.toNat p l, .bool true] else .tup [.nilP, .bool false]) := by simp only [M25, hl, Option.map_some]
  unfold H14
  rw [evFun_run _ _ rfl]
  by_cases hr : Ready n l p
  rotate_left
  · rw [if_neg hr] at m1
    have e : lvM n l p = ([], [], false) := if_neg hr
    rw [e]
    simp [mf14, ha, m1, frz_i, pack, lvT, slA, intsA, -frz]
  rw [if_pos hr] at m1
  obtain ⟨m, rfl⟩ : ∃ m : Nat, n = (m : Int) := ⟨n.toNat, by have := hr.1.1; omega⟩
  rw [Int.toNat_natCast] at m1
  have m2 := M26_eq hr
  have m3 := M27_eq hr
  obtain ⟨W1, O, hW⟩ : ∃ W1 O, webT m p l = .fp [.int .i64 (m : Int), W1, O] := ⟨_, _, rfl⟩
  rw [hW] at m1 m2 m3
  have hfw : ∀ B, frz B 4 (.fp [.int .i64 (m : Int), W1, O]) = .fp [.int .i64 (m : Int), W1, O] := fun _ => rfl
  have hnr : noRefB 4 (.fp [.int .i64 (m : Int), W1, O]) = true := rfl
  by_cases hok : (levels (lar p l) m).2 = true
  · have e : lvM m l p = ((levels (lar p l) m).1, [], true) := by
      unfold lvM; rw [if_pos hr, Int.toNat_natCast, if_pos hok]
    rw [e]
    rw [hok] at m2
    obtain ⟨xs, hxs⟩ : ∃ xs, xs = (levels (lar p l) m).1 := ⟨_, rfl⟩
    rw [← hxs] at m2 ⊢
    obtain ⟨T, hT⟩ : ∃ T, T = slA 1 (intsA xs) := ⟨_, rfl⟩
    rw [← hT] at m2
    simp [mf14, ha, m1, m2, frz_i, hfw, pack, lvT, ← hT, -frz]
    simp [slA, intsA]
  · have e : lvM m l p = ([], (cycM p l m).getD [], false) := by
      unfold lvM; rw [if_pos hr, Int.toNat_natCast, if_neg hok]
    rw [e]
    rw [Bool.not_eq_true] at hok
    rw [hok] at m2
    obtain ⟨S, hS⟩ : ∃ S, S = slA 1 (intsA (levels (lar p l) m).1) := ⟨_, rfl⟩
    rw [← hS] at m2
    obtain ⟨T, hT⟩ : ∃ T, T = slA 1 (intsA ((cycM p l m).getD [])) := ⟨_, rfl⟩
    rw [← hT] at m3
    simp [mf14, ha, m1, m2, m3, frz_i, hfw, pack, lvT, ← hT, -frz]
    simp [slA, intsA]
end Cy
end Go.Proofs.Ytemklhljjaniaaa
/-
  Cycle: numbers that are wrong; Verify.
-/
namespace Go.Proofs.Ytemklhljjaniaaa
namespace Cy
open Go

theorem frz_b (A : Arena) (n : Nat) (b : Bool) : frz A n (.bool b) = .bool b := by cases n <;> rfl
def wrongT (x : Int) : Bool := !decide (0 ≤ x ∧ x ≤ 1000000000)
def M35 : PModel := fun args => match args with
  | [.int .i64 x] => some (.bool (wrongT x))
  | _ => none
theorem spec35 : PureSpec Try.prog GC 59 M35 := by
  refine PureSpec.of_ev (E := envOf GC fsW) (envOf_sound soundW) rfl at35 comp35 1 ?_
  intro args r h
  unfold M35 at h
  split at h
  · rename_i x
    injection h with h; subst h
    refine ⟨0, ?_⟩
    have m := M32_eq x 0 1000000000
    unfold wrongT
    obtain ⟨d, hd⟩ : ∃ d, d = decide (0 ≤ x ∧ x ≤ 1000000000) := ⟨_, rfl⟩
    rw [← hd] at m ⊢
    rw [evP_run _ _ rfl]
    simp [mf35, m, -evBin]
  · cases h
def wrongI (n : Nat) (x : Int) : Bool := !decide (0 ≤ x ∧ x ≤ (n : Int) - 1)
noncomputable def M46 : PModel := fun args => evP (envOf GC fsW) 0 mf46 1 args
theorem spec46 : PureSpec Try.prog GC 75 M46 := PureSpec.of_ev (E := envOf GC fsW) (envOf_sound soundW) rfl at46 comp46 1 fun _ _ h => ⟨0, h⟩
set_option maxRecDepth 100000 in
theorem M46_eq {n : Nat} {p : Int} {l : List CArc} (hl : l.length ≤ 200) (x : Int) : M46 [.int .i64 x, .fp [webT n p l]] = some (.bool (wrongI l.length x)) := by
  have m := M32_eq x 0 ((l.length : Int) - 1)
  have hlen2 : evLenSl (slA 6 (wAs p (num l))) = some (.int .i64 (l.length : Int)) := by rw [len_slA, wAs_len]
  have b0 : evBin .sub (.int .i64 (l.length : Int)) (.int .i64 1) = some (.int .i64 ((l.length : Int) - 1)) := by
    simp only [evBin]; rw [if_pos trivial, wrapI (by unfold inI; omega)]
  obtain ⟨W1, O, hW, hW1⟩ : ∃ W1 O, webT n p l = .fp [.int .i64 (n : Int), W1, O] ∧ W1 = slA 6 (wAs p (num l)) := ⟨_, _, rfl, rfl⟩
  rw [← hW1] at hlen2
  rw [hW]
  unfold wrongI
  obtain ⟨k, hk⟩ : ∃ k, k = (l.length : Int) - 1 := ⟨_, rfl⟩
  rw [← hk] at m b0 ⊢
  obtain ⟨d, hd⟩ : ∃ d, d = decide (0 ≤ x ∧ x ≤ k) := ⟨_, rfl⟩
  rw [← hd] at m ⊢
  unfold M46
  rw [evP_run _ _ rfl]
  simp [mf46, hlen2, b0, m, -evBin, -evLenSl]

/-! ### IndexFunc, ContainsFunc of integers -/
noncomputable def fs45 : List (FuncId × HModel) := [(59, pureH 4 M35), (75, pureH 4 M46)]
@[simp] theorem fs45_35 : lookM fs45 59 = some (pureH 4 M35) := rfl
@[simp] theorem fs45_46 : lookM fs45 75 = some (pureH 4 M46) := rfl
theorem sound45 : ∀ f M, lookM fs45 f = some M → FnSpecY Try.prog GC f M := lookM_cons (FnSpecY.of_pure spec35 4) (lookM_cons (FnSpecY.of_pure spec46 4) lookM_nil)
noncomputable def M45 : PModel := fun args => evP (envOf GC fs45) 300 mf45 1 args
theorem spec45 : PureSpec Try.prog GC 78 M45 := PureSpec.of_ev (E := envOf GC fs45) (envOf_sound sound45) rfl at45 comp45 1 fun _ _ h => ⟨300, h⟩
set_option maxRecDepth 100000 in
theorem M45_eq {f : FuncId} {cap : List AV} {Mf : PModel} (hlk : lookM fs45 f = some (pureH 4 Mf)) {q : Int → Bool} {xs : List Int} (hm : ∀ x ∈ xs, ∀ A, Mf (.int .i64 x :: cap.map (frz A 4)) = some (.bool (q x))) {b : AV} (hb : SlA 1 (intsA xs) b) (hl : xs.length ≤ 200) :
    M45 [b, .func (.func f) [] cap] = some (.int .i64 (idxZ q xs)) := by
  have hlen := hb.len
  rw [intsA_len] at hlen
  have round : ∀ (A : Arena) (i : Nat) (hi : i < xs.length), run (envOf GC fs45) 300 [.code lp45x0] (st45x0 b (.func (.func f) [] cap) (.int .i64 (xs.length : Int)) (.int .i64 (i : Int))) A =
      if q xs[i] = false then some (.normal (st45x0 b (.func (.func f) [] cap) (.int .i64 (xs.length : Int)) (.int .i64 ((i + 1 : Nat) : Int))) A) else some (.ret [b, .func (.func f) [] cap, .int .i64 (i : Int), .int .i64 (i : Int), .int .i64 (xs.length : Int), .int .i64 (i : Int), .bool true, .bool true] A) := fun A i hi => by
    have x1 := hb.int (A := A) _ _ (List.getElem?_eq_getElem hi) .i64
    have m := hm _ (List.getElem_mem hi) A
    have b1 := lt_nat i xs.length .i64
    rw [decide_eq_true hi] at b1
    have b3 := add1_nat i (by omega)
    obtain ⟨i1, hi1⟩ : ∃ i1 : Nat, i1 = i + 1 := ⟨_, rfl⟩
    rw [← hi1] at b3 ⊢
    obtain ⟨d, hd⟩ : ∃ d, d = q xs[i] := ⟨_, rfl⟩
    rw [← hd] at m ⊢
    cases d with
    | false => simp [lp45x0, x1, hlk, m, b1, b3, -evBin, -evIndexSl, -evLenSl]
    | true => simp [lp45x0, x1, hlk, m, b1, -evBin, -evIndexSl, -evLenSl]
  unfold M45
  rw [evP_run _ _ rfl]
  rcases iter_search (E := envOf GC fs45) (fuel := 300) (a := lp45x0) (mask := mask45x0) (fun i => st45x0 b (.func (.func f) [] cap) (.int .i64 (xs.length : Int)) (.int .i64 (i : Int))) (fun _ => []) xs.length (fun i => ¬ ∀ hi : i < xs.length, q xs[i] = false)
    (oF := fun i => .ret [b, .func (.func f) [] cap, .int .i64 (i : Int), .int .i64 (i : Int), .int .i64 (xs.length : Int), .int .i64 (i : Int), .bool true, .bool true] []) (oE := .exit 0 ((st45x0 b (.func (.func f) [] cap) (.int .i64 (xs.length : Int)) (.int .i64 (xs.length : Int))).set 6 (.bool false)) [])
    (fun _ => cl45x0) (fun _ _ _ h => by cases h) (fun _ _ h => by cases h)
    (fun i hi hp => by
      rw [round [] i hi]
      exact if_pos (Classical.not_not.1 hp hi))
    (fun i hi hp => by
      rw [round [] i hi]
      exact if_neg fun h => hp fun _ => h)
    (by simp [lp45x0]) (show xs.length < 300 by omega) with ⟨i, hi, hp, hj, lp⟩ | ⟨hp, lp⟩
  · have lp : iter (evC (envOf GC fs45) 300 lp45x0) mask45x0 300 (st45x0 b (.func (.func f) [] cap) (.int .i64 (xs.length : Int)) (.int .i64 0)) [] = _ := lp
    have e : idxZ q xs = (i : Int) := idxZ_some hi (by
      cases h' : q xs[i] with
      | true => rfl
      | false => exact absurd (fun _ => h') hp) (fun j hj' => Classical.not_not.1 (hj j hj') (by omega))
    rw [e]
    simp [mf45, hlen, go45x0 lp, -evBin, -evLenSl]
  · have lp : iter (evC (envOf GC fs45) 300 lp45x0) mask45x0 300 (st45x0 b (.func (.func f) [] cap) (.int .i64 (xs.length : Int)) (.int .i64 0)) [] = _ := lp
    have e : idxZ q xs = -1 := idxZ_none fun i hi => Classical.not_not.1 (hp i hi) hi
    rw [e]
    simp [mf45, hlen, go45x0 lp, -evBin, -evLenSl]
noncomputable def fs36 : List (FuncId × HModel) := [(78, pureH 4 M45)]
@[simp] theorem fs36_45 : lookM fs36 78 = some (pureH 4 M45) := rfl
theorem sound36 : ∀ f M, lookM fs36 f = some M → FnSpecY Try.prog GC f M := lookM_cons (FnSpecY.of_pure spec45 4) lookM_nil
noncomputable def M36 : PModel := fun args => evP (envOf GC fs36) 0 mf36 1 args
theorem spec36 : PureSpec Try.prog GC 61 M36 := PureSpec.of_ev (E := envOf GC fs36) (envOf_sound sound36) rfl at36 comp36 1 fun _ _ h => ⟨0, h⟩
theorem M36_eq {F : AV} {q : Int → Bool} {xs : List Int} {b : AV} (hb : SlA 1 (intsA xs) b) (hF : ∀ A, frz A 4 F = F) (h : M45 [b, F] = some (.int .i64 (idxZ q xs))) : M36 [b, F] = some (.bool (xs.any q)) := by
  have b1 := geq0 (idxZ q xs)
  rw [idxZ_any] at b1
  have f1 : ∀ A n, frz A n b = b := fun A n => hb.frz n
  obtain ⟨z, hz⟩ : ∃ z, z = idxZ q xs := ⟨_, rfl⟩
  rw [← hz] at h b1
  unfold M36
  rw [evP_run _ _ rfl]
  simp [mf36, f1, hF, h, b1, scalarB, frz_b, -evBin, -frz]
end Cy
end Go.Proofs.Ytemklhljjaniaaa
/-
  Cycle: Verify.
-/
namespace Go.Proofs.Ytemklhljjaniaaa
namespace Cy
open Go

/-- starts keep all arcs -/
def VerOk (n : Int) (l : List CArc) (p : Int) (s : List Int) : Prop := Ready n l p ∧ (s.length : Int) = n ∧ (∀ x ∈ s, 0 ≤ x ∧ x ≤ 1000000000) ∧ Keeps (lar p l) s
open Classical in
noncomputable def M19 : PModel := fun args => match args with
  | [.int .i64 n, a, .int .i64 p, b] => match arcsOf a, intsOf b with
    | some l, some s => some (.bool (decide (VerOk n l p s)))
    | _, _ => none
  | _ => none
noncomputable def fs19 : List (FuncId × HModel) := [(55, pureFH 4 M25), (61, pureH 4 M36), (62, fun _ => evFun (envOf GC []) 300 mf37), (63, fun _ => evFun (envOf GC []) 0 mf38)]
@[simp] theorem fs19_25 : lookM fs19 55 = some (pureFH 4 M25) := rfl
@[simp] theorem fs19_36 : lookM fs19 61 = some (pureH 4 M36) := rfl
@[simp] theorem fs19_37 : lookM fs19 62 = some (fun _ => evFun (envOf GC []) 300 mf37) := rfl
@[simp] theorem fs19_38 : lookM fs19 63 = some (fun _ => evFun (envOf GC []) 0 mf38) := rfl
theorem sound19 : ∀ f M, lookM fs19 f = some M → FnSpecY Try.prog GC f M := lookM_cons (FnSpecY.of_pureF spec25F 4) (lookM_cons (FnSpecY.of_pure spec36 4) (lookM_cons spec37 (lookM_cons spec38 lookM_nil)))
theorem frz_f35 (A : Arena) : frz A 4 (.func (.func 59) [] []) = .func (.func 59) [] [] := rfl
theorem any_wrongT (s : List Int) : s.any wrongT = false ↔ ∀ x ∈ s, 0 ≤ x ∧ x ≤ 1000000000 := by
  rw [List.any_eq_false]; unfold wrongT; simp
open Classical in
set_option maxRecDepth 100000 in
theorem spec19 : PureSpec Try.prog GC 32 M19 := by
  refine PureSpec.of_ev (E := envOf GC fs19) (envOf_sound sound19) rfl at19 comp19 1 ?_
  intro args r h
  unfold M19 at h
  split at h
  rotate_left
  · cases h
  rename_i n a p b
  split at h
  rotate_left
  · cases h
  rename_i l s hl hs
  injection h with h; subst h
  refine ⟨0, ?_⟩
  obtain ⟨hb, _, hsl⟩ := intsOf_some hs
  have f1 : ∀ A n, frz A n a = a := fun A n => arcsOf_frz hl A n
  have f2 : ∀ A n, frz A n b = b := fun A n => hb.frz n
  have f3 := arcsOf_noRef hl
  have f4 := intsOf_noRef hs
  have m1 : M25 [.int .i64 n, a, .int .i64 p] = some (if Ready n l p then .tup [webT n.toNat p l, .bool true] else .tup [.nilP, .bool false]) := by simp only [M25, hl, Option.map_some]
  have hlen := hb.len
  have hlen' : (s.map (AV.int .i64)).length = s.length := by simp
  rw [hlen'] at hlen
  rw [evP_run _ _ rfl]
  by_cases hr : Ready n l p
  rotate_left
  · rw [if_neg hr] at m1
    rw [decide_eq_false (show ¬ VerOk n l p s from fun h => hr h.1)]
    simp [mf19, f1, m1, frz_i, frz_b, -frz, -evLenSl]
  rw [if_pos hr] at m1
  have b1 : evBin .eql (.int .i64 (s.length : Int)) (.int .i64 n) = some (.bool (decide ((s.length : Int) = n))) := by simp [evBin]
  obtain ⟨m, rfl⟩ : ∃ m : Nat, n = (m : Int) := ⟨n.toNat, by have := hr.1.1; omega⟩
  rw [Int.toNat_natCast] at m1
  obtain ⟨W1, O, hW⟩ : ∃ W1 O, webT m p l = .fp [.int .i64 (m : Int), W1, O] := ⟨_, _, rfl⟩
  by_cases h1 : (s.length : Int) = (m : Int)
  rotate_left
  · rw [decide_eq_false h1] at b1
    rw [decide_eq_false (show ¬ VerOk m l p s from fun h => h1 h.2.1)]
    rw [hW] at m1
    simp [mf19, f1, m1, hlen, b1, frz_i, frz_b, -frz, -evLenSl, -evBin]
  rw [decide_eq_true h1] at b1
  have hm32 := hr.1.1
  have m45 := M45_eq (f := 59) (cap := []) (Mf := M35) rfl (q := wrongT) (xs := s) (fun x _ A => rfl) hb (by omega)
  have m36 := M36_eq (q := wrongT) hb (fun A => rfl) m45
  by_cases h2 : ∀ x ∈ s, 0 ≤ x ∧ x ≤ 1000000000
  rotate_left
  · have h2' : s.any wrongT = true := by
      cases h : s.any wrongT with
      | true => rfl
      | false => exact absurd ((any_wrongT s).1 h) h2
    rw [h2'] at m36
    rw [decide_eq_false (show ¬ VerOk m l p s from fun h => h2 h.2.2.1)]
    rw [hW] at m1
    simp [mf19, f1, f2, m1, hlen, b1, m36, frz_i, frz_b, scalarB, frz_f35, -frz, -evLenSl, -evBin]
  rw [(any_wrongT s).2 h2] at m36
  have hsm : s.length = m := by omega
  have hne : s ≠ [] := by
    intro h
    rw [h] at hsm
    simp at hsm; omega
  have c38 := ev38 (envOf GC []) 0 (A := []) (a := b) (xs := s) (.inl hb) hne (by omega)
  obtain ⟨A', c37, _⟩ := call37 (A := [.dead, .row 1 false (intsA s)]) (id := 1) hsm hr.2 hr.1.2.2 (by omega) hr.1.2.1 (hi := 1000000000) (fun v hv => by
    have : s.getD v 0 ∈ s := by rw [List.getD_eq_getElem?_getD, List.getElem?_eq_getElem hv]; simp
    have := h2 _ this
    omega) (by omega) rfl
  have e : decide (VerOk m l p s) = !upL (lar p l) s := by
    cases hu : upL (lar p l) s with
    | true =>
      exact decide_eq_false fun h => by rw [upL_keeps h.2.2.2] at hu; cases hu
    | false =>
      exact decide_eq_true ⟨hr, h1, h2, (upL_false hu).2⟩
  rw [e]
  rw [hsm] at c38
  rw [hW] at m1 c37
  simp at c38
  simp [mf19, f1, f2, m1, hlen, b1, m36, c38, c37, frz_i, frz_b, scalarB, frz_f35, -frz, -evLenSl, -evBin]
end Cy
end Go.Proofs.Ytemklhljjaniaaa
