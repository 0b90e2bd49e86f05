import Derived.Test.YtemklhljjaniaaaU03
set_option maxRecDepth 100000
set_option maxHeartbeats 4000000
noncomputable section
namespace Go.Proofs.Ytemklhljjaniaaa
open Go
def pick (a n : Int) : Int := (if a < 0 then -(a+1) else a).tmod n
theorem bG (a n : Int) (hn : 0 < n) : 0 <= pick a n /\ pick a n < n := by
 unfold pick
 split
 ·exact ⟨Int.tmod_nonneg _ (by omega), Int.tmod_lt_of_pos _ hn⟩
 ·exact ⟨Int.tmod_nonneg _ (by omega), Int.tmod_lt_of_pos _ hn⟩
theorem yN (a : Int) (n : Nat) (hn : 0 < n) : ∃ m : Nat, pick a n = m /\ m < n := by
 have := bG a n (by omega)
 exact ⟨(pick a n).toNat, by omega, by omega⟩
def ag (xs : List Int) : List AV := xs.map (.int .i64)
@[simp] theorem sC (esz : Nat) (es : List AV) : cellsOf (slA esz es) = [slA esz es] := by cases es <;> rfl
@[simp] theorem vG (esz : Nat) (es : List AV) : (slA esz es).solid = true := by cases es <;> rfl
@[simp] theorem DZ (esz : Nat) (es : List AV) : sq (slA esz es) = true := by cases es <;> rfl
@[simp] theorem jl (A : ac) (n esz : Nat) (es : List AV) : frz A n (slA esz es) = slA esz es := by cases es <;> cases n <;> rfl
@[simp] theorem qz (n esz : Nat) (es : List AV) : be n (slA esz es) = true := by cases es <;> cases n <;> rfl
@[simp] theorem pM (esz : Nat) (es : List AV) : aj (slA esz es) = some (.int .i64 (es.length : Int)) := by cases es <;> rfl
def IM (A : ac) (esz : Nat) (a : AV) (xs : List AV) : Prop := SlA esz xs a \/ ∃ id off gr es, a = .sl id off xs.length /\ A[id]? = some (.row esz gr es) /\ (es.drop off).take xs.length = xs
section
variable {A B : ac} {esz : Nat} {a : AV} {xs : List AV}
end
theorem li {s : AV} {xs : List Int} (h : ey s = some xs) (n : Nat) : be n s = true := by
 rcases (dC h).1 with ⟨rfl, _⟩ | rfl <;> cases n <;> rfl
theorem rk (B : ac) (n : Nat) (xs : List Int) : (ag xs).all (aY B n) = true := by
 unfold ag
 rw [List.all_eq_true]
 intro x hx
 obtain ⟨z, _, rfl⟩ := List.mem_map.1 hx
 cases n <;> rfl
theorem qN (A : ac) (n : Nat) (xs : List Int) : (ag xs).map (frz A n) = ag xs := by
 unfold ag; rw [List.map_map]; apply List.map_congr_left; intro x _; cases n <;> rfl
namespace Cy
def GC : Nat -> Option (List AV) := fun _ => none
structure aW where
 f : Int
 t : Int
 w : Int
 k : Int
def bM (a : aW) : AV := .agg [.int .i64 a.f, .int .i64 a.t, .int .i64 a.w, .int .i64 a.k]
def aW.inR (a : aW) : Prop := inI a.f /\ inI a.t /\ inI a.w /\ inI a.k
open Classical in
def zB : AV -> Option aW
 | .agg [.int .i64 f, .int .i64 t, .int .i64 w, .int .i64 k] => if aW.inR ⟨f, t, w, k⟩ then some ⟨f, t, w, k⟩ else none
 | _ => none
theorem pn {x : AV} {a : aW} (h : zB x = some a) : x = bM a /\ a.inR := by
 unfold zB at h
 split at h
 ·simp only [Option.ite_none_right_eq_some, Option.some.injEq] at h
  obtain ⟨h1, rfl⟩ := h
  exact ⟨rfl, h1⟩
 ·cases h
theorem zz {a : aW} (h : a.inR) : zB (bM a) = some a := if_pos h
def Cv {α : Type} (s : Nat) (f : AV -> Option α) : AV -> Option (List α)
 | .nilS => some []
 | .fs s' es => if s' = s /\ es.length <= 9223372036854775807 then sI f es else none
 | _ => none
def aX (a : AV) : Option (List aW) := Cv 4 zB a
theorem gB {a : AV} {l : List aW} (h : aX a = some l) : SlA 4 (l.map bM) a /\ l.length <= 9223372036854775807 /\ ∀ x ∈ l, x.inR := by
 unfold aX Cv at h
 split at h
 ·injection h with h; subst h
  exact ⟨.inl ⟨rfl, rfl⟩, by simp, by simp⟩
 ·rename_i s' es
  simp only [Option.ite_none_right_eq_some] at h
  obtain ⟨⟨rfl, hl⟩, h⟩ := h
  obtain ⟨h1, h2⟩ := kC h
  have e : es = l.map bM := List.ext_getElem (by simpa using h1) fun i k1 k2 => by
   rw [(pn (h2 i k1 (by omega))).1]; simp
  subst e
  refine ⟨.inr rfl, by simpa using hl, fun x hx => ?_⟩
  obtain ⟨i, hi, rfl⟩ := List.mem_iff_getElem.1 hx
  have := h2 i (by simpa using hi) hi
  exact (pn this).2
 ·cases h
theorem xP {a : AV} {l : List aW} (h : SlA 4 (l.map bM) a) (hl : l.length <= 9223372036854775807) (hr : ∀ x ∈ l, x.inR) : aX a = some l := by
 unfold aX Cv
 rcases h with ⟨rfl, h⟩ | rfl
 ·have : l = [] := by simpa using h
  subst this; rfl
 ·simp only [List.length_map]
  rw [if_pos ⟨trivial, hl⟩]
  exact n7 fun x hx => zz (hr x hx)
section
variable {a : AV} {l : List aW}
theorem bN (h : aX a = some l) : aj a = some (.int .i64 (l.length : Int)) /\ l.length <= 9223372036854775807 := by
 obtain ⟨h1, h2, _⟩ := gB h
 have := h1.len
 simp only [List.length_map] at this
 exact ⟨this, h2⟩
theorem de (h : aX a = some l) {i : Nat} (hi : i < l.length) : ∀ A k, ab 4 A a (.int k (i : Int)) = some (.fp [.int .i64 l[i].f, .int .i64 l[i].t, .int .i64 l[i].w, .int .i64 l[i].k]) := fun A k => by
 obtain ⟨h1, h2, _⟩ := gB h
 have hx : (l.map bM)[i]? = some (bM l[i]) := by simp [hi]
 exact h1.index (A := A) hx rfl (by simp) k
theorem bX (h : aX a = some l) (A : ac) (n : Nat) : frz A n a = a := (gB h).1.frz n
theorem bL (h : aX a = some l) (n : Nat) : be n a = true := by
 rcases (gB h).1 with ⟨rfl, _⟩ | rfl <;> cases n <;> rfl
end
theorem eT {l : List aW} (hl : l.length <= 9223372036854775807) (h : ∀ x ∈ l, x.inR) : aX (slA 4 (l.map bM)) = some l := xP (aI _ _) hl h
def M32 : aT := fun args => match args with
 | [.int .i64 n, .int .i64 lo, .int .i64 hi] => some (.bool (decide (lo <= n /\ n <= hi)))
 | _ => none
theorem ee (n lo hi : Int) : M32 [.int .i64 n, .int .i64 lo, .int .i64 hi] = some (.bool (decide (lo <= n /\ n <= hi))) := rfl
theorem sM (n lo hi : Int) : decide (lo <= n /\ n <= hi) = (decide (lo <= n) && decide (n <= hi)) := by
 rw [Bool.eq_iff_iff, decide_eq_true_eq, Bool.and_eq_true, decide_eq_true_eq, decide_eq_true_eq]
theorem vr : aq Try.prog GC 60 M32 := by
 refine aq.of_ev (E := au GC []) (av az) rfl at32 Eh 1 ?_
 intro args r h
 unfold M32 at h
 split at h
 ·rename_i n lo hi
  injection h with h; subst h
  refine ⟨0, ?_⟩
  have b1 : af .geq (.int .i64 n) (.int .i64 lo) = some (.bool (decide (lo <= n))) := by simp [af]
  have b2 : af .leq (.int .i64 n) (.int .i64 hi) = some (.bool (decide (n <= hi))) := by simp [af]
  rw [sM]
  obtain ⟨p, hp⟩ : ∃ p, p = decide (lo <= n) := ⟨_, rfl⟩
  obtain ⟨q, hq⟩ : ∃ q, q = decide (n <= hi) := ⟨_, rfl⟩
  rw [<- hp] at b1 ⊢
  rw [<- hq] at b2 ⊢
  rw [aN _ _ rfl]
  cases p <;> simp [IP, b1, b2, -af]
 ·cases h
theorem mL : aq Try.prog GC 73 M32 := by
 refine aq.of_ev (E := au GC []) (av az) rfl FE tW 1 ?_
 intro args r h
 unfold M32 at h
 split at h
 ·rename_i n lo hi
  injection h with h; subst h
  refine ⟨0, ?_⟩
  have b1 : af .geq (.int .i64 n) (.int .i64 lo) = some (.bool (decide (lo <= n))) := by simp [af]
  have b2 : af .leq (.int .i64 n) (.int .i64 hi) = some (.bool (decide (n <= hi))) := by simp [af]
  rw [sM]
  obtain ⟨p, hp⟩ : ∃ p, p = decide (lo <= n) := ⟨_, rfl⟩
  obtain ⟨q, hq⟩ : ∃ q, q = decide (n <= hi) := ⟨_, rfl⟩
  rw [<- hp] at b1 ⊢
  rw [<- hq] at b2 ⊢
  rw [aN _ _ rfl]
  cases p <;> simp [yd, b1, b2, -af]
 ·cases h
def a8 (p : Int) : Prop := -1000000 <= p /\ p <= 1000000
instance (p : Int) : Decidable (a8 p) := inferInstanceAs (Decidable (_ /\ _))
def M41 : aT := fun args => match args with
 | [.int .i64 p] => some (.bool (decide (a8 p)))
 | _ => none
def fsW : List (FuncId × aL) := [(60, aF 4 M32), (73, aF 4 M32)]
@[simp] theorem IX : aB fsW 60 = some (aF 4 M32) := rfl
@[simp] theorem IW : aB fsW 73 = some (aF 4 M32) := rfl
theorem qt : ∀ f M, aB fsW f = some M -> an Try.prog GC f M := ak (an.of_pure vr 4) (ak (an.of_pure mL 4) az)
theorem sS : aq Try.prog GC 54 M41 := by
 refine aq.of_ev (E := au GC fsW) (av qt) rfl H0 wX 1 ?_
 intro args r h
 unfold M41 at h
 split at h
 ·rename_i p
  injection h with h; subst h
  refine ⟨0, ?_⟩
  have m := ee p (-1000000) 1000000
  rw [show decide (-1000000 <= p /\ p <= 1000000) = decide (a8 p) from rfl] at m
  rw [aN _ _ rfl]
  simp [C3, m]
 ·cases h
def okA (n : Int) (a : aW) : Prop := (0 <= a.f /\ a.f <= n - 1) /\ (0 <= a.t /\ a.t <= n - 1) /\ (-1000000 <= a.w /\ a.w <= 1000000) /\ (-2 <= a.k /\ a.k <= 2)
instance (n : Int) (a : aW) : Decidable (okA n a) := inferInstanceAs (Decidable (_ /\ _))
def cM (n : Int) (a : aW) : Bool := !decide (okA n a)
theorem sL (n : Int) (a : aW) : cM n a = (!decide (0 <= a.f /\ a.f <= n - 1) || !decide (0 <= a.t /\ a.t <= n - 1) || !decide (-1000000 <= a.w /\ a.w <= 1000000) || !decide (-2 <= a.k /\ a.k <= 2)) := by
 unfold cM okA
 by_cases h1 : 0 <= a.f /\ a.f <= n - 1 <;> by_cases h2 : 0 <= a.t /\ a.t <= n - 1 <;> by_cases h3 : -1000000 <= a.w /\ a.w <= 1000000 <;> by_cases h4 : -2 <= a.k /\ a.k <= 2 <;> simp [h1, h2, h3, h4]
def M31 : aT := fun args => match args with
 | [.agg [.int .i64 f, .int .i64 t, .int .i64 w, .int .i64 k], .fp [.int .i64 n]] => if 1 <= n /\ n <= 32 then some (.bool (cM n ⟨f, t, w, k⟩)) else none
 | _ => none
theorem Dr : aq Try.prog GC 80 M31 := by
 refine aq.of_ev (E := au GC fsW) (av qt) rfl at31 Ei 1 ?_
 intro args r h
 unfold M31 at h
 split at h
 ·rename_i f t w k n
  simp only [Option.ite_none_right_eq_some, Option.some.injEq] at h
  obtain ⟨hn, rfl⟩ := h
  refine ⟨0, ?_⟩
  rw [sL]
  have m1 := ee f 0 (n - 1)
  have m2 := ee t 0 (n - 1)
  have m3 := ee w (-1000000) 1000000
  have m4 := ee k (-2) 2
  have b : af .sub (.int .i64 n) (.int .i64 1) = some (.int .i64 (n - 1)) := by
   simp only [af]; rw [if_pos trivial, dl (by unfold inI; omega)]
  simp only
  obtain ⟨p1, hp1⟩ : ∃ p, p = decide (0 <= f /\ f <= n - 1) := ⟨_, rfl⟩
  obtain ⟨p2, hp2⟩ : ∃ p, p = decide (0 <= t /\ t <= n - 1) := ⟨_, rfl⟩
  obtain ⟨p3, hp3⟩ : ∃ p, p = decide (-1000000 <= w /\ w <= 1000000) := ⟨_, rfl⟩
  obtain ⟨p4, hp4⟩ : ∃ p, p = decide (-2 <= k /\ k <= 2) := ⟨_, rfl⟩
  rw [<- hp1] at m1 ⊢
  rw [<- hp2] at m2 ⊢
  rw [<- hp3] at m3 ⊢
  rw [<- hp4] at m4 ⊢
  obtain ⟨n1, hn1⟩ : ∃ n1, n1 = n - 1 := ⟨_, rfl⟩
  rw [<- hn1] at b m1 m2
  rw [aN _ _ rfl]
  cases p1
  ·simp [DD, b, m1, -af]
  ·cases p2
   ·simp [DD, b, m1, m2, -af]
   ·cases p3
    ·simp [DD, b, m1, m2, m3, -af]
    ·simp [DD, b, m1, m2, m3, m4, -af]
 ·cases h
def wE (n : Int) : AV := .func (.func 80) [] [.fp [.int .i64 n]]
def At : List (FuncId × aL) := [(80, aF 4 M31)]
@[simp] theorem Gi : aB At 80 = some (aF 4 M31) := rfl
theorem Bt : ∀ f M, aB At f = some M -> an Try.prog GC f M := ak (an.of_pure Dr 4) az
def cy {α : Type} (p : α -> Bool) (l : List α) : Int := match l.findIdx? p with
 | some i => i
 | none => -1
theorem a9 {α : Type} {p : α -> Bool} {l : List α} {i : Nat} (hi : i < l.length) (h1 : p l[i] = true) (h2 : ∀ j (hj : j < i), p (l[j]'(by omega)) = false) : cy p l = (i : Int) := by
 have : l.findIdx? p = some i := List.findIdx?_eq_some_iff_getElem.2 ⟨hi, h1, fun j hj => by simpa using h2 j hj⟩
 unfold cy; rw [this]
theorem ba {α : Type} {p : α -> Bool} {l : List α} (h : ∀ i (hi : i < l.length), p l[i] = false) : cy p l = -1 := by
 have : l.findIdx? p = none := by
  rw [List.findIdx?_eq_none_iff]
  intro x hx
  obtain ⟨i, hi, rfl⟩ := List.mem_iff_getElem.1 hx
  exact h i hi
 unfold cy; rw [this]
theorem cf {α : Type} (p : α -> Bool) (l : List α) : decide (0 <= cy p l) = l.any p := by
 unfold cy
 cases h : l.findIdx? p with
 | some i =>
  obtain ⟨hi, h1, _⟩ := List.findIdx?_eq_some_iff_getElem.1 h
  show decide (0 <= (i : Int)) = _
  rw [decide_eq_true (by omega), eq_comm, List.any_eq_true]
  exact ⟨_, List.getElem_mem hi, h1⟩
 | none =>
  rw [List.findIdx?_eq_none_iff] at h
  show decide (0 <= (-1 : Int)) = _
  rw [decide_eq_false (by omega), eq_comm, List.any_eq_false]
  intro x hx; rw [h x hx]; simp
theorem ev44 {a : AV} {l : List aW} (ha : aX a = some l) {n : Int} (hn : 1 <= n /\ n <= 32) : evP (au GC At) (l.length + 1) yQ 1 [a, wE n] = some (.int .i64 (cy (cM n) l)) := by
 obtain ⟨hl, hm⟩ := bN ha
 have round : ∀ (A : ac) (i : Nat) (hi : i < l.length), run (au GC At) (l.length + 1) [.code iV] (kL a (wE n) (.int .i64 (l.length : Int)) (.int .i64 (i : Int))) A =
   if cM n l[i] = false then some (.normal (kL a (wE n) (.int .i64 (l.length : Int)) (.int .i64 ((i + 1 : Nat) : Int))) A) else some (.ret [a, wE n, .int .i64 (i : Int), .int .i64 (i : Int), .int .i64 (l.length : Int), .int .i64 (i : Int), .bool true, .bool true] A) := fun A i hi => by
  have x1 := de ha hi A .i64
  have m : M31 [.agg [.int .i64 l[i].f, .int .i64 l[i].t, .int .i64 l[i].w, .int .i64 l[i].k], .fp [.int .i64 n]] = some (.bool (cM n l[i])) := if_pos hn
  have b1 := bc i l.length .i64
  rw [decide_eq_true hi] at b1
  have b3 := aK i (by omega)
  obtain ⟨i1, hi1⟩ : ∃ i1 : Nat, i1 = i + 1 := ⟨_, rfl⟩
  rw [<- hi1] at b3 ⊢
  obtain ⟨d, hd⟩ : ∃ d, d = cM n l[i] := ⟨_, rfl⟩
  rw [<- hd] at m ⊢
  cases d with
  | false => simp [iV, wE, x1, m, frz, b1, b3, -af, -ab, -aj]
  | true => simp [iV, wE, x1, m, frz, b1, -af, -ab, -aj]
 rw [aN _ _ rfl]
 rcases bz (E := au GC At) (fuel := l.length + 1) (a := iV) (mask := iF) (fun i => kL a (wE n) (.int .i64 (l.length : Int)) (.int .i64 (i : Int))) (fun _ => []) l.length (fun i => ¬ ∀ hi : i < l.length, cM n l[i] = false)
  (oF := fun i => .ret [a, wE n, .int .i64 (i : Int), .int .i64 (i : Int), .int .i64 (l.length : Int), .int .i64 (i : Int), .bool true, .bool true] []) (oE := .exit 0 ((kL a (wE n) (.int .i64 (l.length : Int)) (.int .i64 (l.length : Int))).set 6 (.bool false)) [])
  (fun _ => AH) (fun _ _ _ h => by cases h) (fun _ _ h => by cases h)
  (fun i hi hp => by
   rw [round [] i hi]
   exact if_pos (Classical.not_not.1 hp hi))
  (fun i hi hp => by
   rw [round [] i hi]
   exact if_neg fun h => hp fun _ => h)
  (by simp [iV]) (Nat.lt_succ_self _) with ⟨i, hi, hp, hj, lp⟩ | ⟨hp, lp⟩
 ·have lp : bg (evC (au GC At) (l.length + 1) iV) iF (l.length + 1) (kL a (wE n) (.int .i64 (l.length : Int)) (.int .i64 0)) [] = _ := lp
  have e : cy (cM n) l = (i : Int) := a9 hi (by
   cases h : cM n l[i] with
   | true => rfl
   | false => exact absurd (fun _ => h) hp) (fun j hj' => Classical.not_not.1 (hj j hj') (by omega))
  rw [e]
  simp [yQ, hl, Ae lp, -af, -aj]
 ·have lp : bg (evC (au GC At) (l.length + 1) iV) iF (l.length + 1) (kL a (wE n) (.int .i64 (l.length : Int)) (.int .i64 0)) [] = _ := lp
  have e : cy (cM n) l = -1 := ba fun i hi => Classical.not_not.1 (hp i hi) hi
  rw [e]
  simp [yQ, hl, Ae lp, -af, -aj]
def M44 : aT := fun args => match args with
 | [a, .func (.func 80) [] [.fp [.int .i64 n]]] => if 1 <= n /\ n <= 32 then (aX a).map fun l => .int .i64 (cy (cM n) l) else none
 | _ => none
theorem vn : aq Try.prog GC 87 M44 := by
 refine aq.of_ev (E := au GC At) (av Bt) rfl HX wU 1 ?_
 intro args r h
 unfold M44 at h
 split at h
 ·simp only [Option.ite_none_right_eq_some, Option.map_eq_some_iff] at h
  obtain ⟨hn, l, hl, rfl⟩ := h
  exact ⟨_, ev44 hl hn⟩
 ·cases h
def M33 : aT := fun args => match args with
 | [a, .func (.func 80) [] [.fp [.int .i64 n]]] => if 1 <= n /\ n <= 32 then (aX a).map fun l => .bool (l.any (cM n)) else none
 | _ => none
def Gu : List (FuncId × aL) := [(87, aF 4 M44)]
@[simp] theorem Gt : aB Gu 87 = some (aF 4 M44) := rfl
theorem BA : ∀ f M, aB Gu f = some M -> an Try.prog GC f M := ak (an.of_pure vn 4) az
theorem pO (z : Int) : af .geq (.int .i64 z) (.int .i64 0) = some (.bool (decide (0 <= z))) := by simp [af]
theorem vq : aq Try.prog GC 81 M33 := by
 refine aq.of_ev (E := au GC Gu) (av BA) rfl H7 xc 1 ?_
 intro args r h
 unfold M33 at h
 split at h
 ·rename_i a n
  simp only [Option.ite_none_right_eq_some, Option.map_eq_some_iff] at h
  obtain ⟨hn, l, hl, rfl⟩ := h
  refine ⟨0, ?_⟩
  have m : M44 [a, .func (.func 80) [] [.fp [.int .i64 n]]] = some (.int .i64 (cy (cM n) l)) := by
   simp only [M44, hl, Option.map_some]; exact if_pos hn
  have b := pO (cy (cM n) l)
  rw [cf] at b
  have f1 := bX hl
  have f2 := bL hl
  obtain ⟨z, hz⟩ : ∃ z, z = cy (cM n) l := ⟨_, rfl⟩
  rw [<- hz] at m b
  rw [aN _ _ rfl]
  simp [B9, m, b, f1, f2, frz, -af]
 ·cases h
def bj (n : Int) (l : List aW) : Prop := (1 <= n /\ n <= 32) /\ l.length <= 200 /\ ∀ a ∈ l, okA n a
theorem xR (n : Int) (l : List aW) : l.any (cM n) = false ↔ ∀ a ∈ l, okA n a := by
 rw [List.any_eq_false]
 unfold cM
 simp
open Classical in
def M16 : aT := fun args => match args with
 | [.int .i64 n, a] => (aX a).map fun l => .bool (decide (bj n l))
 | _ => none
def wy : List (FuncId × aL) := [(60, aF 4 M32), (81, aF 4 M33), (73, aF 4 M32)]
@[simp] theorem Hr : aB wy 60 = some (aF 4 M32) := rfl
@[simp] theorem Hq : aB wy 81 = some (aF 4 M33) := rfl
@[simp] theorem Hp : aB wy 73 = some (aF 4 M32) := rfl
theorem rL : ∀ f M, aB wy f = some M -> an Try.prog GC f M := ak (an.of_pure vr 4) (ak (an.of_pure vq 4) (ak (an.of_pure mL 4) az))
open Classical in
theorem sY : aq Try.prog GC 74 M16 := by
 refine aq.of_ev (E := au GC wy) (av rL) rfl Ii xo 1 ?_
 intro args r h
 unfold M16 at h
 split at h
 ·rename_i n a
  simp only [Option.map_eq_some_iff] at h
  obtain ⟨l, hl, rfl⟩ := h
  refine ⟨0, ?_⟩
  have m1 := ee n 1 32
  have hlen := (bN hl).1
  have f1 := bX hl
  have f2 := bL hl
  have b1 : af .leq (.int .i64 (l.length : Int)) (.int .i64 200) = some (.bool (decide (l.length <= 200))) := by simp [af]; omega
  rw [aN _ _ rfl]
  by_cases h1 : 1 <= n /\ n <= 32
  rotate_left
  ·rw [decide_eq_false h1] at m1
   rw [decide_eq_false (show ¬ bj n l from fun h => h1 h.1)]
   simp [tA, m1, -af, -aj]
  rw [decide_eq_true h1] at m1
  by_cases h2 : l.length <= 200
  rotate_left
  ·rw [decide_eq_false h2] at b1
   rw [decide_eq_false (show ¬ bj n l from fun h => h2 h.2.1)]
   simp [tA, m1, hlen, b1, -af, -aj]
  rw [decide_eq_true h2] at b1
  have m2 : M33 [a, .func (.func 80) [] [.fp [.int .i64 n]]] = some (.bool (l.any (cM n))) := by
   simp only [M33, hl, Option.map_some]; exact if_pos h1
  have e : decide (bj n l) = !(l.any (cM n)) := by
   rw [Bool.eq_iff_iff, decide_eq_true_eq, Bool.not_eq_true', xR]
   exact ⟨fun h => h.2.2, fun h => ⟨h1, h2, h⟩⟩
  rw [e]
  obtain ⟨d, hd⟩ : ∃ d, d = l.any (cM n) := ⟨_, rfl⟩
  rw [<- hd] at m2 ⊢
  simp [tA, m1, m2, hlen, b1, f1, f2, frz, -af, -aj]
 ·cases h
theorem vK (fuel : Nat) (A : ac) {a : AV} {l : List aW} (ha : aX a = some l) {n : Int} (hn : 1 <= n /\ n <= 32) {i : Nat} (hi : i < l.length) :
  run (au GC fsW) fuel [.code cv] (dL (.int .i64 n) a (.int .i64 (i : Int))) A =
   if cM n l[i] = false then some (.normal (dL (.int .i64 n) a (.int .i64 ((i + 1 : Nat) : Int))) A) else some (.ret [.int .i64 n, a, .bool false, .int .i64 (i : Int), .undef, .bool true, .bool true] A) := by
 obtain ⟨hl, hm⟩ := bN ha
 have x1 := de ha hi A .i64
 rw [sL]
 have m1 := ee l[i].f 0 (n - 1)
 have m2 := ee l[i].t 0 (n - 1)
 have m3 := ee l[i].w (-1000000) 1000000
 have m4 := ee l[i].k (-2) 2
 have b : af .sub (.int .i64 n) (.int .i64 1) = some (.int .i64 (n - 1)) := by
  simp only [af]; rw [if_pos trivial, dl (by unfold inI; omega)]
 have b1 := bc i l.length .i64
 rw [decide_eq_true hi] at b1
 have b3 := aK i (by omega)
 obtain ⟨i1, hi1⟩ : ∃ i1 : Nat, i1 = i + 1 := ⟨_, rfl⟩
 rw [<- hi1] at b3 ⊢
 obtain ⟨p1, hp1⟩ : ∃ p, p = decide (0 <= l[i].f /\ l[i].f <= n - 1) := ⟨_, rfl⟩
 obtain ⟨p2, hp2⟩ : ∃ p, p = decide (0 <= l[i].t /\ l[i].t <= n - 1) := ⟨_, rfl⟩
 obtain ⟨p3, hp3⟩ : ∃ p, p = decide (-1000000 <= l[i].w /\ l[i].w <= 1000000) := ⟨_, rfl⟩
 obtain ⟨p4, hp4⟩ : ∃ p, p = decide (-2 <= l[i].k /\ l[i].k <= 2) := ⟨_, rfl⟩
 rw [<- hp1] at m1 ⊢
 rw [<- hp2] at m2 ⊢
 rw [<- hp3] at m3 ⊢
 rw [<- hp4] at m4 ⊢
 obtain ⟨n1, hn1⟩ : ∃ n1, n1 = n - 1 := ⟨_, rfl⟩
 rw [<- hn1] at b m1 m2
 cases p1
 ·simp [cv, hl, x1, b, b1, m1, -af, -ab, -aj]
 ·cases p2
  ·simp [cv, hl, x1, b, b1, m1, m2, -af, -ab, -aj]
  ·cases p3
   ·simp [cv, hl, x1, b, b1, m1, m2, m3, -af, -ab, -aj]
   ·cases p4
    ·simp [cv, hl, x1, b, b1, m1, m2, m3, m4, -af, -ab, -aj]
    ·simp [cv, hl, x1, b, b1, b3, m1, m2, m3, m4, -af, -ab, -aj]
open Classical in
theorem ev17 {a : AV} {l : List aW} (ha : aX a = some l) (n : Int) : evP (au GC fsW) (l.length + 1) rt 1 [.int .i64 n, a] = some (.bool (decide (bj n l))) := by
 obtain ⟨hl, hm⟩ := bN ha
 have m1 := ee n 1 32
 have b1 : af .gtr (.int .i64 (l.length : Int)) (.int .i64 200) = some (.bool (decide (200 < l.length))) := by simp [af]; omega
 rw [aN _ _ rfl]
 by_cases h1 : 1 <= n /\ n <= 32
 rotate_left
 ·rw [decide_eq_false h1] at m1
  rw [decide_eq_false (show ¬ bj n l from fun h => h1 h.1)]
  simp [rt, m1, -af, -aj]
 rw [decide_eq_true h1] at m1
 by_cases h2 : 200 < l.length
 ·rw [decide_eq_true h2] at b1
  rw [decide_eq_false (show ¬ bj n l from fun h => by have := h.2.1; omega)]
  simp [rt, m1, hl, b1, -af, -aj]
 rw [decide_eq_false h2] at b1
 rcases bz (E := au GC fsW) (fuel := l.length + 1) (a := cv) (mask := cX) (fun i => dL (.int .i64 n) a (.int .i64 (i : Int))) (fun _ => []) l.length (fun i => ¬ ∀ hi : i < l.length, cM n l[i] = false)
  (oF := fun i => .ret [.int .i64 n, a, .bool false, .int .i64 (i : Int), .undef, .bool true, .bool true] []) (oE := .exit 0 ((dL (.int .i64 n) a (.int .i64 (l.length : Int))).set 5 (.bool false)) [])
  (fun _ => nP) (fun _ _ _ h => by cases h) (fun _ _ h => by cases h)
  (fun i hi hp => by
   rw [vK _ [] ha h1 hi]
   exact if_pos (Classical.not_not.1 hp hi))
  (fun i hi hp => by
   rw [vK _ [] ha h1 hi]
   exact if_neg fun h => hp fun _ => h)
  (by simp [cv, hl, -aj]) (Nat.lt_succ_self _) with ⟨i, hi, hp, hj, lp⟩ | ⟨hp, lp⟩
 ·have lp : bg (evC (au GC fsW) (l.length + 1) cv) cX (l.length + 1) (dL (.int .i64 n) a (.int .i64 0)) [] = _ := lp
  rw [decide_eq_false (show ¬ bj n l from fun h => hp fun _ => by
   have := h.2.2 _ (List.getElem_mem hi)
   simp [cM, this])]
  simp [rt, m1, hl, b1, o7 lp, -af, -aj]
 ·have lp : bg (evC (au GC fsW) (l.length + 1) cv) cX (l.length + 1) (dL (.int .i64 n) a (.int .i64 0)) [] = _ := lp
  rw [decide_eq_true (show bj n l from ⟨h1, by omega, fun x hx => by
   obtain ⟨i, hi, rfl⟩ := List.mem_iff_getElem.1 hx
   have := Classical.not_not.1 (hp i hi) hi
   simpa [cM] using this⟩)]
  simp [rt, m1, hl, b1, o7 lp, -af, -aj]
theorem vC : aq Try.prog GC 79 M16 := by
 refine aq.of_ev (E := au GC fsW) (av qt) rfl Ih xn 1 ?_
 intro args r h
 unfold M16 at h
 split at h
 ·simp only [Option.map_eq_some_iff] at h
  obtain ⟨l, hl, rfl⟩ := h
  exact ⟨_, ev17 hl _⟩
 ·cases h
def a6 (n : Int) (l : List aW) (p : Int) : Prop := bj n l /\ a8 p
open Classical in
def M28 : aT := fun args => match args with
 | [.int .i64 n, a, .int .i64 p] => (aX a).map fun l => .bool (decide (a6 n l p))
 | _ => none
def Ft : List (FuncId × aL) := [(79, aF 4 M16), (73, aF 4 M32)]
@[simp] theorem Gx : aB Ft 79 = some (aF 4 M16) := rfl
@[simp] theorem Gw : aB Ft 73 = some (aF 4 M32) := rfl
theorem BB : ∀ f M, aB Ft f = some M -> an Try.prog GC f M := ak (an.of_pure vC 4) (ak (an.of_pure mL 4) az)
open Classical in
theorem vu : aq Try.prog GC 69 M28 := by
 refine aq.of_ev (E := au GC Ft) (av BB) rfl at28 El 1 ?_
 intro args r h
 unfold M28 at h
 split at h
 ·rename_i n a p
  simp only [Option.map_eq_some_iff] at h
  obtain ⟨l, hl, rfl⟩ := h
  refine ⟨0, ?_⟩
  have m1 : M16 [.int .i64 n, a] = some (.bool (decide (bj n l))) := by simp only [M16, hl, Option.map_some]
  have m2 := ee p (-1000000) 1000000
  have f1 := bX hl
  have f2 := bL hl
  have e : decide (a6 n l p) = (decide (bj n l) && decide (-1000000 <= p /\ p <= 1000000)) := by
   rw [Bool.eq_iff_iff, decide_eq_true_eq, Bool.and_eq_true, decide_eq_true_eq, decide_eq_true_eq]; exact Iff.rfl
  rw [e]
  obtain ⟨x, hx⟩ : ∃ x, x = decide (bj n l) := ⟨_, rfl⟩
  obtain ⟨y, hy⟩ : ∃ y, y = decide (-1000000 <= p /\ p <= 1000000) := ⟨_, rfl⟩
  rw [<- hx] at m1 ⊢
  rw [<- hy] at m2 ⊢
  rw [aN _ _ rfl]
  cases x <;> simp [IQ, m1, m2, f1, f2]
 ·cases h
def aW.len (a : aW) (p : Int) : Int := a.w - p * a.k
theorem dT {n p : Int} {a : aW} (h : okA n a) (hp : a8 p) : -3000000 <= a.len p /\ a.len p <= 3000000 /\ -2000000 <= p * a.k /\ p * a.k <= 2000000 := by
 obtain ⟨_, _, h3, h4⟩ := h
 unfold a8 at hp
 unfold aW.len
 have h5 : a.k = -2 \/ a.k = -1 \/ a.k = 0 \/ a.k = 1 \/ a.k = 2 := by omega
 rcases h5 with h | h | h | h | h <;> rw [h] <;> omega
def M39 : aT := fun args => match args with
 | [.agg [.int .i64 f, .int .i64 t, .int .i64 w, .int .i64 k], .int .i64 p] => if okA 32 ⟨f, t, w, k⟩ /\ a8 p then some (.int .i64 (aW.len ⟨f, t, w, k⟩ p)) else none
 | _ => none
theorem qn : aq Try.prog GC 70 M39 := by
 refine aq.of_ev (E := au GC []) (av az) rfl H3 wZ 1 ?_
 intro args r h
 unfold M39 at h
 split at h
 ·rename_i f t w k p
  simp only [Option.ite_none_right_eq_some, Option.some.injEq] at h
  obtain ⟨⟨h1, h2⟩, rfl⟩ := h
  refine ⟨0, ?_⟩
  obtain ⟨k1, k2, k3, k4⟩ := dT h1 h2
  have b1 : af .mul (.int .i64 p) (.int .i64 k) = some (.int .i64 (p * k)) := by
   simp only [af]; rw [if_pos trivial, dl (by simp only at k3 k4; unfold inI; omega)]
  have b2 : af .sub (.int .i64 w) (.int .i64 (p * k)) = some (.int .i64 (aW.len ⟨f, t, w, k⟩ p)) := by
   simp only [af]; rw [if_pos trivial, dl (by simp only [aW.len] at k1 k2; unfold inI; omega)]; rfl
  obtain ⟨pk, hpk⟩ : ∃ pk, pk = p * k := ⟨_, rfl⟩
  rw [<- hpk] at b1 b2
  rw [aN _ _ rfl]
  simp [C4, b1, b2, -af]
 ·cases h
theorem r7 (E : Env) (fuel : Nat) (A : ac) {a b : AV} {xs ys : List Int} (ha : SlA 1 (ag xs) a) (hb : SlA 1 (ag ys) b) (hm : xs.length <= 9223372036854775807) {i : Nat} (hi : i < xs.length) (hj : i < ys.length) :
  run E fuel [.code jY] (gN a b (.int .i64 (i : Int))) A =
   if xs[i] = ys[i] then some (.normal (gN a b (.int .i64 ((i + 1 : Nat) : Int))) A) else some (.ret (((gN a b (.int .i64 (i : Int))).set 5 (.bool true)).set 6 (.bool true) |>.set 2 (.bool false)) A) := by
 have hl := ha.len
 simp only [ag, List.length_map] at hl
 have x1 := ha.int (A := A) _ _ (List.getElem?_eq_getElem hi) .i64
 have x2 := hb.int (A := A) _ _ (List.getElem?_eq_getElem hj) .i64
 have b1 : af .lss (.int .i64 (i : Int)) (.int .i64 (xs.length : Int)) = some (.bool true) := by simp [af]; omega
 have b2 : af .neq (.int .i64 xs[i]) (.int .i64 ys[i]) = some (.bool (decide (xs[i] ≠ ys[i]))) := by simp [af]
 have b3 := aK i (by omega)
 obtain ⟨i1, hi1⟩ : ∃ i1 : Nat, i1 = i + 1 := ⟨_, rfl⟩
 rw [<- hi1] at b3 ⊢
 by_cases h : xs[i] = ys[i]
 ·rw [if_pos h]
  rw [decide_eq_false (not_not_intro h)] at b2
  simp [jY, hl, x1, x2, b1, b2, b3, -af, -ab, -aj]
 ·rw [if_neg h]
  rw [decide_eq_true h] at b2
  simp [jY, hl, x1, x2, b1, b2, -af, -ab, -aj]
theorem ev18 (E : Env) {a b : AV} {xs ys : List Int} (ha : SlA 1 (ag xs) a) (hb : SlA 1 (ag ys) b) (hm : xs.length <= 9223372036854775807) : evP E (xs.length + 1) DE 1 [a, b] = some (.bool (decide (xs = ys))) := by
 have hl := ha.len
 have hl2 := hb.len
 simp only [ag, List.length_map] at hl hl2
 rw [aN _ _ rfl]
 by_cases he : xs.length = ys.length
 ·have b0 : af .neq (.int .i64 (xs.length : Int)) (.int .i64 (ys.length : Int)) = some (.bool false) := by simp [af]; omega
  by_cases hd : ∃ i, ∃ h : i < xs.length, xs[i] ≠ ys[i]'(by omega)
  ·obtain ⟨n, ⟨hn, hne⟩, hmin⟩ := FV hd
   have lp : bg (evC E (xs.length + 1) jY) jQ (xs.length + 1) (gN a b (.int .i64 0)) [] = some (.ret (((gN a b (.int .i64 (n : Int))).set 5 (.bool true)).set 6 (.bool true) |>.set 2 (.bool false)) []) := by
    refine e9 (fun i => gN a b (.int .i64 (i : Int))) (fun _ => []) n (fun _ => xJ) (fun _ _ h => by cases h) (fun i hi => ?_) ?_ (by omega)
    ·rw [r7 E _ [] ha hb hm (by omega) (by omega)]
     exact if_pos (Classical.not_not.1 fun h => hmin i hi ⟨by omega, h⟩)
    ·rw [r7 E _ [] ha hb hm hn (by omega)]
     exact if_neg hne
   have hx : xs ≠ ys := fun h => hne (by subst h; rfl)
   simp [DE, hl, hl2, b0, Ao lp, hx, -af, -aj]
  ·have lp : bg (evC E (xs.length + 1) jY) jQ (xs.length + 1) (gN a b (.int .i64 0)) [] = some (.exit 0 ((gN a b (.int .i64 (xs.length : Int))).set 5 (.bool false)) []) := by
    refine e9 (fun i => gN a b (.int .i64 (i : Int))) (fun _ => []) xs.length (fun _ => xJ) (fun _ _ h => by cases h) (fun i hi => ?_) ?_ (by omega)
    ·rw [r7 E _ [] ha hb hm (by omega) (by omega)]
     exact if_pos (Classical.not_not.1 fun h => hd ⟨i, by omega, h⟩)
    ·simp [jY, hl, -aj]
   have hx : xs = ys := List.ext_getElem he fun i h1 h2 => Classical.not_not.1 fun h => hd ⟨i, h1, h⟩
   rw [decide_eq_true hx]
   simp [DE, hl, hl2, b0, Ao lp, -af, -aj]
 ·have b0 : af .neq (.int .i64 (xs.length : Int)) (.int .i64 (ys.length : Int)) = some (.bool true) := by simp [af]; omega
  have hx : xs ≠ ys := fun h => he (by rw [h])
  simp [DE, hl, hl2, b0, hx, -af, -aj]
def M18 : aT := fun args => match args with
 | [a, b] => match ey a, ey b with
  | some xs, some ys => some (.bool (decide (xs = ys)))
  | _, _ => none
 | _ => none
theorem vB : aq Try.prog GC 18 M18 := by
 refine aq.of_ev (E := au GC []) (av az) rfl at18 Em 1 ?_
 intro args r h
 unfold M18 at h
 split at h
 ·split at h
  ·rename_i xs ys h1 h2
   injection h with h; subst h
   obtain ⟨k1, k2, k3⟩ := dC h1
   obtain ⟨l1, l2, l3⟩ := dC h2
   exact ⟨_, ev18 _ k1 l1 k3⟩
  ·cases h
 ·cases h
theorem ev12 (E : Env) (a n : Int) (ha : inI a) (hn : 0 < n) : evP E 0 zT 1 [.int .i64 a, .int .i64 n] = some (.int .i64 (pick a n)) := by
 have h3 : n ≠ 0 := by omega
 rw [aN _ _ rfl]
 by_cases h : a < 0
 ·have h1 : IntKind.i64.wrap (a + 1) = a + 1 := dl (by unfold inI at *; omega)
  have h2 : IntKind.i64.wrap (-(a + 1)) = -(a + 1) := dl (by unfold inI at *; omega)
  simp [zT, h, h1, h2, h3, pick]
 ·simp [zT, h, h3, pick]
def M12 : aT := fun args => match args with
 | [.int .i64 a, .int .i64 n] => if (-9223372036854775808 <= a /\ a <= 9223372036854775807) /\ 0 < n then some (.int .i64 (pick a n)) else none
 | _ => none
theorem cw {a n : Int} (ha : inI a) (hn : 0 < n) : M12 [.int .i64 a, .int .i64 n] = some (.int .i64 (pick a n)) := if_pos ⟨ha, hn⟩
theorem vD : aq Try.prog GC 30 M12 := by
 refine aq.of_ev (E := au GC []) (av az) rfl Il xr 1 ?_
 intro args r h
 unfold M12 at h
 split at h
 ·simp only [Option.ite_none_right_eq_some, Option.some.injEq] at h
  obtain ⟨⟨h1, h2⟩, rfl⟩ := h
  exact ⟨0, ev12 _ _ _ h1 h2⟩
 ·cases h
abbrev eM := aW × Nat
def num (l : List aW) : List eM := l.zipIdx
def wA (p : Int) (x : eM) : AV := .agg [.int .i64 x.1.f, .int .i64 x.1.t, .int .i64 x.1.w, .int .i64 x.1.k, .int .i64 (x.2 : Int), .int .i64 (x.1.len p)]
def jI (l : List aW) (v : Nat) : List eM := (num l).filter fun x => decide (x.1.f = (v : Int))
def wAs (p : Int) (l : List eM) : List AV := l.map (wA p)
theorem tv (l : List aW) (i : Nat) (hi : i < l.length) : num (l.take (i + 1)) = num (l.take i) ++ [(l[i], i)] := by
 unfold num
 rw [List.take_succ_eq_append_getElem hi, List.zipIdx_append]
 simp
 omega
theorem dB (l : List aW) : (num l).length = l.length := by simp [num]
theorem dc (l : List aW) (i : Nat) (hi : i < l.length) : (num l)[i]? = some (l[i], i) := by
 simp [num, hi]
theorem gi {l : List aW} {x : eM} (h : x ∈ num l) : ∃ hi : x.2 < l.length, l[x.2] = x.1 := by
 obtain ⟨i, hi, rfl⟩ := List.mem_iff_getElem.1 h
 rw [dB] at hi
 have := dc l i hi
 have h2 : (num l)[i]'(by rw [dB]; exact hi) = (l[i], i) := by
  rw [List.getElem?_eq_getElem (by rw [dB]; exact hi)] at this
  exact Option.some.inj this
 rw [h2]
 exact ⟨hi, rfl⟩
theorem vU (l : List aW) (i v : Nat) (hi : i < l.length) : jI (l.take (i + 1)) v = if l[i].f = (v : Int) then jI (l.take i) v ++ [(l[i], i)] else jI (l.take i) v := by
 unfold jI
 rw [tv l i hi, List.filter_append]
 by_cases h : l[i].f = (v : Int) <;> simp [h]
theorem tq (l : List aW) (v : Nat) : (jI l v).length <= l.length := by
 unfold jI
 have := List.length_filter_le (fun x : eM => decide (x.1.f = (v : Int))) (num l)
 rw [dB] at this
 exact this
def qg (A : ac) (s : AV) (xs : List AV) : Prop := (s = .nilS /\ xs = []) \/ ∃ id gr, s = .sl id 0 xs.length /\ xs ≠ [] /\ 2 <= id /\ A[id]? = some (.row 6 gr xs)
theorem qg.keep {A B : ac} {s : AV} {xs : List AV} (h : qg A s xs) (hAB : ∀ id, id ∈ a5 s -> B[id]? = A[id]?) : qg B s xs := by
 rcases h with h | ⟨id, gr, rfl, h1, h2, h3⟩
 ·exact .inl h
 ·exact .inr ⟨id, gr, rfl, h1, h2, by rw [hAB id (by simp [a5]), h3]⟩
theorem qg.low {A : ac} {s : AV} {xs : List AV} (h : qg A s xs) : ∀ id, id ∈ a5 s -> 2 <= id /\ id < A.length := by
 rcases h with ⟨rfl, _⟩ | ⟨id, gr, rfl, h1, h2, h3⟩
 ·intro id h; simp [a5] at h
 ·intro j hj
  simp only [a5, List.mem_singleton] at hj
  subst hj
  exact ⟨h2, (List.getElem?_eq_some_iff.1 h3).1⟩
theorem qg.append {A : ac} {s : AV} {xs : List AV} (h : qg A s xs) (x : AV) (hA : 2 <= A.length) (hl : xs.length <= 1000) :
  ∃ s' k A', aH 6 48 A s (.fs 6 [x]) = some (.sl s' 0 k, A') /\ qg A' (.sl s' 0 k) (xs ++ [x]) /\ A.length <= A'.length /\ (∀ j, j < A.length -> j ∉ a5 s -> A'[j]? = A[j]?) /\ (s' ∈ a5 s \/ s' = A.length) := by
 rcases h with ⟨rfl, rfl⟩ | ⟨id, gr, rfl, h1, h2, h3⟩
 ·refine ⟨A.length, 1, A ++ [.row 6 false [x]], by simp [aH, aU], .inr ⟨A.length, false, rfl, by simp, hA, by simp⟩, by simp, fun j hj _ => by rw [List.getElem?_append_left hj], .inr rfl⟩
 ·have hid := (List.getElem?_eq_some_iff.1 h3).1
  refine ⟨id, (xs ++ [x]).length, A.set id (.row 6 true (xs ++ [x])), ?_, .inr ⟨id, true, rfl, by simp, h2, by simp [hid]⟩, by simp, fun j hj hn => ?_, .inl (by simp [a5])⟩
  ·simp only [aH, aU, h3]
   simp [h1]
   omega
  ·rw [List.getElem?_set_ne (fun e => hn (by simp [a5, e]))]
theorem Au (A : ac) (p : Int) (x : eM) (n : Nat) : frz A (n + 1) (wA p x) = wA p x := by
 cases n <;> simp [frz, wA]
theorem qg.frz {A : ac} {s : AV} {p : Int} {l : List eM} (h : qg A s (wAs p l)) (n : Nat) : frz A (n + 2) s = slA 6 (wAs p l) := by
 have e : (wAs p l).map (Proofs.Ytemklhljjaniaaa.frz A (n + 1)) = wAs p l := by
  unfold wAs
  rw [List.map_map]
  apply List.map_congr_left
  intro x _
  exact Au A p x n
 rcases h with ⟨rfl, h⟩ | ⟨id, gr, rfl, h1, h2, h3⟩
 ·rw [h]; rfl
 ·show Proofs.Ytemklhljjaniaaa.frz A (n + 1 + 1) _ = _
  simp only [Proofs.Ytemklhljjaniaaa.frz, h3]
  rw [List.drop_zero, List.take_of_length_le (Nat.le_refl _), e]
  cases hw : wAs p l with
  | nil => exact absurd hw h1
  | cons y r => rfl
theorem zg (A : ac) (p : Int) (x : eM) (n : Nat) : aY A (n + 1) (wA p x) = true := by
 cases n <;> simp [aY, wA]
theorem qg.fresh {A : ac} {s : AV} {p : Int} {l : List eM} (h : qg A s (wAs p l)) (n : Nat) : aY A (n + 2) s = true := by
 rcases h with ⟨rfl, h⟩ | ⟨id, gr, rfl, h1, h2, h3⟩
 ·rfl
 ·show aY A (n + 1 + 1) _ = _
  simp only [aY, h3]
  rw [List.drop_zero, List.take_of_length_le (Nat.le_refl _), List.all_eq_true]
  intro y hy
  obtain ⟨x, _, rfl⟩ := List.mem_map.1 hy
  exact zg A p x n
def II : MC := .region [⟨none, .mv (.var 12), none⟩, ⟨none, .indexSl 4 (.var 10) (.var 12), none⟩, ⟨none, .load true 4 (.tmp 1), none⟩, ⟨some 7, .alloc 4 (.agg [.int .i64 0, .int .i64 0, .int .i64 0, .int .i64 0]), none⟩, ⟨some 6, .mv (.tmp 0), none⟩, ⟨none, .store 4 (.var 7) (.tmp 2), none⟩]
def IH : MC := .region [⟨none, .load true 4 (.var 7), none⟩, ⟨none, .mv (.var 6), none⟩, ⟨none, .fieldAddr 2 (.var 7), none⟩, ⟨none, .load false 1 (.tmp 2), none⟩, ⟨none, .mv (.var 2), none⟩, ⟨none, .fieldAddr 3 (.var 7), none⟩, ⟨none, .load false 1 (.tmp 5), none⟩, ⟨none, .bin .mul (.tmp 4) (.tmp 6), none⟩, ⟨none, .bin .sub (.tmp 3) (.tmp 7), none⟩, ⟨none, .build [.int .i64 0, .int .i64 0, .int .i64 0, .int .i64 0, .int .i64 0, .int .i64 0] [(0, (4, .tmp 0)), (4, (1, .tmp 1)), (5, (1, .tmp 8))], none⟩, ⟨some 8, .alloc 6 (.agg [.int .i64 0, .int .i64 0, .int .i64 0, .int .i64 0, .int .i64 0, .int .i64 0]), none⟩, ⟨none, .store 6 (.var 8) (.tmp 9), none⟩]
def IG : MC := .region [⟨none, .mv (.var 5), none⟩, ⟨none, .mv (.var 5), none⟩, ⟨none, .nilCheck (.tmp 1), none⟩, ⟨none, .fieldAddr 1 (.tmp 2), none⟩, ⟨none, .load false 1 (.tmp 3), none⟩, ⟨none, .load true 6 (.var 8), none⟩, ⟨none, .buildF 6 [.tmp 5], none⟩, ⟨none, .append 6 48 (.tmp 4) (.tmp 6), none⟩, ⟨none, .nilCheck (.tmp 0), none⟩, ⟨none, .fieldAddr 1 (.tmp 8), none⟩, ⟨none, .store 1 (.tmp 9) (.tmp 7), none⟩]
def FI : MC := .regionD [] [⟨none, .mv (.var 5), none⟩, ⟨none, .nilCheck (.tmp 0), none⟩, ⟨none, .fieldAddr 2 (.tmp 1), none⟩, ⟨none, .load false 1 (.tmp 2), none⟩, ⟨none, .fieldAddr 0 (.var 7), none⟩, ⟨none, .load false 1 (.tmp 4), none⟩, ⟨none, .mv (.var 5), none⟩, ⟨none, .nilCheck (.tmp 6), none⟩, ⟨none, .fieldAddr 2 (.tmp 7), none⟩, ⟨none, .load false 1 (.tmp 8), none⟩, ⟨none, .fieldAddr 0 (.var 7), none⟩, ⟨none, .load false 1 (.tmp 10), none⟩, ⟨none, .indexSl 1 (.tmp 9) (.tmp 11), none⟩, ⟨none, .load false 1 (.tmp 12), none⟩, ⟨none, .load true 6 (.var 8), none⟩, ⟨none, .buildF 6 [.tmp 14], none⟩, ⟨none, .append 6 48 (.tmp 13) (.tmp 15), none⟩, ⟨none, .indexSl 1 (.tmp 3) (.tmp 5), none⟩, ⟨none, .store 1 (.tmp 17) (.tmp 16), none⟩] [(2, 16), (3, 16), (4, 16), (5, 16)]
theorem EG : eu = .seq (.region [⟨some 13, .bin .lss (.var 12) (.var 11), none⟩]) (.seq (.cond (.var 13) .skip (.exit 0)) (.seq (.seq (.block 1 (.seq II (.seq IH (.seq IG FI)))) (.kill [0, 1, 3, 4, 6, 7, 8, 9, 13])) (.region [⟨none, .bin .add (.var 12) (.cst (.int .i64 1)), none⟩, ⟨some 12, .mv (.tmp 0), none⟩]))) := rfl
theorem FP (E : Env) (fuel : Nat) (K : List KC) (A : ac) {a : AV} {l : List aW} (ha : aX a = some l) {p : Int} (hp : a8 p) {i : Nat} (hi : i < l.length) (hv : okA 32 l[i]) (w v13 : AV) (X : MC) :
  run E fuel (.code II :: .code (.seq IH X) :: K) [.undef, .undef, .int .i64 p, .undef, .undef, w, .undef, .undef, .undef, .undef, a, .int .i64 (l.length : Int), .int .i64 (i : Int), v13] A =
   run E fuel (.code X :: K) [.undef, .undef, .int .i64 p, .undef, .undef, w, .int .i64 (i : Int), .ptr A.length 0 0, .ptr (A.length + 1) 0 0, .undef, a, .int .i64 (l.length : Int), .int .i64 (i : Int), v13] (A ++ [.row 4 false [bM l[i]], .row 6 false [wA p (l[i], i)]]) := by
 have x1 := de ha hi A .i64
 obtain ⟨k1, k2, k3, k4⟩ := dT hv hp
 obtain ⟨_, _, h3, h4⟩ := hv
 have b1 : af .mul (.int .i64 p) (.int .i64 l[i].k) = some (.int .i64 (p * l[i].k)) := by
  simp only [af]; rw [if_pos trivial, dl (by unfold inI; omega)]
 have b2 : af .sub (.int .i64 l[i].w) (.int .i64 (p * l[i].k)) = some (.int .i64 (l[i].len p)) := by
  simp only [af]; rw [if_pos trivial, dl (by unfold aW.len at k1 k2; unfold inI; omega)]; rfl
 unfold bM wA
 simp only []
 obtain ⟨pk, hpk⟩ : ∃ pk, pk = p * l[i].k := ⟨_, rfl⟩
 rw [<- hpk] at b1 b2
 simp [II, IH, x1, b1, b2, -af, -ab]
theorem r25c (E : Env) (fuel : Nat) (K : List KC) {B B2 : ac} {v2 v6 v7 v10 v11 v12 v13 n va os : AV} {i8 j k : Nat} {c1 c2 c3 c4 c5 c6 : Int}
  (h1 : B[1]? = some (.row 3 false [.agg [n, va, os]])) (h8 : B[i8]? = some (.row 6 false [.agg [.int .i64 c1, .int .i64 c2, .int .i64 c3, .int .i64 c4, .int .i64 c5, .int .i64 c6]])) (ap : aH 6 48 B va (.fs 6 [.agg [.int .i64 c1, .int .i64 c2, .int .i64 c3, .int .i64 c4, .int .i64 c5, .int .i64 c6]]) = some (.sl j 0 k, B2)) (h1' : B2[1]? = some (.row 3 false [.agg [n, va, os]])) :
  run E fuel (.code IG :: K) [.undef, .undef, v2, .undef, .undef, .ptr 1 0 0, v6, v7, .ptr i8 0 0, .undef, v10, v11, v12, v13] B =
   run E fuel K [.undef, .undef, v2, .undef, .undef, .ptr 1 0 0, v6, v7, .ptr i8 0 0, .undef, v10, v11, v12, v13] (B2.set 1 (.row 3 false [.agg [n, .sl j 0 k, os]])) := by
 simp [IG, h1, h8, ap, h1']
theorem r25d (E : Env) (fuel : Nat) (K : List KC) {B B2 : ac} {v2 v6 v10 v11 v12 v13 n va o : AV} {i7 i8 f m j k : Nat} {os : List AV} {a : aW} {c1 c2 c3 c4 c5 c6 : Int}
  (h1 : B[1]? = some (.row 3 false [.agg [n, va, .sl 0 0 m]])) (h7 : B[i7]? = some (.row 4 false [bM a])) (h8 : B[i8]? = some (.row 6 false [.agg [.int .i64 c1, .int .i64 c2, .int .i64 c3, .int .i64 c4, .int .i64 c5, .int .i64 c6]])) (haf : a.f = (f : Int)) (hfm : f < m)
  (h0 : B[0]? = some (.row 1 false os)) (ho : os[f]? = some o) (hs : o = .nilS \/ ∃ i k, o = .sl i 0 k)
  (ap : aH 6 48 B o (.fs 6 [.agg [.int .i64 c1, .int .i64 c2, .int .i64 c3, .int .i64 c4, .int .i64 c5, .int .i64 c6]]) = some (.sl j 0 k, B2)) (h0' : B2[0]? = some (.row 1 false os)) (hid : ∀ j ∈ a5 o, j ≠ 1 /\ j ≠ i7) (hB1 : B.length ≠ 1) (hB7 : B.length ≠ i7) :
  run E fuel (.code FI :: K) [.undef, .undef, v2, .undef, .undef, .ptr 1 0 0, v6, .ptr i7 0 0, .ptr i8 0 0, .undef, v10, v11, v12, v13] B =
   run E fuel K [.undef, .undef, v2, .undef, .undef, .ptr 1 0 0, v6, .ptr i7 0 0, .ptr i8 0 0, .undef, v10, v11, v12, v13] (B2.set 0 (.row 1 false (os.set f (.sl j 0 k)))) := by
 have hB1' : ¬ 1 = B.length := fun e => hB1 e.symm
 have hB7' : ¬ i7 = B.length := fun e => hB7 e.symm
 simp only [bM, haf] at h7
 rcases hs with rfl | ⟨i, q, rfl⟩
 ·simp [FI, h1, h7, h8, h0, ho, ap, h0', hB1', hB7', hfm]
 ·obtain ⟨hi1, hi7⟩ := hid i (by simp [a5])
  have hi1' : ¬ 1 = i := fun e => hi1 e.symm
  have hi7' : ¬ i7 = i := fun e => hi7 e.symm
  simp [FI, h1, h7, h8, h0, ho, ap, h0', hB1', hB7', hfm, hi1', hi7']
def xX (n : Nat) (p : Int) (l : List aW) (i : Nat) (A : ac) : Prop := ∃ (va : AV) (os : List AV), A[0]? = some (.row 1 false os) /\ A[1]? = some (.row 3 false [.agg [.int .i64 (n : Int), va, .sl 0 0 n]]) /\ os.length = n /\ qg A va (wAs p (num (l.take i))) /\
 (∀ (v : Nat) (o : AV), os[v]? = some o -> qg A o (wAs p (jI (l.take i) v))) /\ (∀ (v : Nat) (o : AV) (j : Nat), os[v]? = some o -> j ∈ a5 o -> j ∉ a5 va) /\ (∀ (u v : Nat) (o q : AV) (j : Nat), u ≠ v -> os[u]? = some o -> os[v]? = some q -> j ∈ a5 o -> j ∉ a5 q)
theorem fN {z : Int} {n : Int} (h : 0 <= z /\ z <= n - 1) : ∃ m : Nat, z = (m : Int) /\ (m : Int) < n := ⟨z.toNat, by omega, by omega⟩
theorem qg.form2 {A : ac} {s : AV} {xs : List AV} (h : qg A s xs) : s = .nilS \/ ∃ i k, s = .sl i 0 k := by
 rcases h with ⟨rfl, _⟩ | ⟨id, gr, rfl, _⟩
 ·exact .inl rfl
 ·exact .inr ⟨_, _, rfl⟩
theorem r6 (E : Env) (fuel : Nat) (A : ac) {a : AV} {l : List aW} (ha : aX a = some l) {p : Int} (hp : a8 p) {n : Nat} (hn : n <= 32) (hl200 : l.length <= 200) (hv : ∀ x ∈ l, okA n x) {i : Nat} (hi : i < l.length) (hI : xX n p l i A) :
  ∃ A', run E fuel [.code eu] (em (.int .i64 p) (.ptr 1 0 0) a (.int .i64 (l.length : Int)) (.int .i64 (i : Int))) A = some (.normal (em (.int .i64 p) (.ptr 1 0 0) a (.int .i64 (l.length : Int)) (.int .i64 ((i + 1 : Nat) : Int))) A') /\ xX n p l (i + 1) A' := by
 obtain ⟨va, os, g0, g1, hos, gs, go, gd1, gd2⟩ := hI
 have hmem := hv _ (List.getElem_mem hi)
 obtain ⟨f, hf, hfn⟩ := fN hmem.1
 have hv32 : okA 32 l[i] := by
  obtain ⟨h1, h2, h3, h4⟩ := hmem
  exact ⟨by omega, by omega, h3, h4⟩
 have hA2 : 2 <= A.length := (List.getElem?_eq_some_iff.1 g1).1
 obtain ⟨B, hB⟩ : ∃ B, B = A ++ [.row 4 false [bM l[i]], .row 6 false [wA p (l[i], i)]] := ⟨_, rfl⟩
 have hAB : ∀ id, id < A.length -> B[id]? = A[id]? := fun id hid => by rw [hB, List.getElem?_append_left hid]
 have h7 : B[A.length]? = some (.row 4 false [bM l[i]]) := by rw [hB]; simp
 have h8 : B[A.length + 1]? = some (.row 6 false [wA p (l[i], i)]) := by rw [hB, List.getElem?_append_right (by omega)]; simp
 have hBl : B.length = A.length + 2 := by rw [hB]; simp
 have k0 := (hAB 0 (by omega)).trans g0
 have k1 := (hAB 1 (by omega)).trans g1
 have gsB : qg B va (wAs p (num (l.take i))) := gs.keep fun id h => hAB id (gs.low id h).2
 have hnl : (wAs p (num (l.take i))).length <= 1000 := by simp [wAs, dB]; omega
 obtain ⟨ja, ka, B2, ap1, s1, len1, keep1, ids1⟩ := gsB.append (wA p (l[i], i)) (by omega) hnl
 have hva := gs.low
 have q1 := (keep1 1 (by omega) fun h => by have := (hva 1 h).1; omega).trans k1
 obtain ⟨B3, hB3⟩ : ∃ B3, B3 = B2.set 1 (.row 3 false [.agg [.int .i64 (n : Int), (.sl ja 0 ka), .sl 0 0 n]]) := ⟨_, rfl⟩
 have hB3l : B3.length = B2.length := by rw [hB3]; simp
 have c1 : B3[1]? = some (.row 3 false [.agg [.int .i64 (n : Int), (.sl ja 0 ka), .sl 0 0 n]]) := by rw [hB3]; exact List.getElem?_set_self (by omega)
 have hB23 : ∀ id, id ≠ 1 -> B3[id]? = B2[id]? := fun id h => by rw [hB3, List.getElem?_set_ne (Ne.symm h)]
 have c0 := ((hB23 0 (by omega)).trans (keep1 0 (by omega) fun h => by have := (hva 0 h).1; omega)).trans k0
 have c7 := ((hB23 A.length (by omega)).trans (keep1 A.length (by omega) fun h => by have := (hva _ h).2; omega)).trans h7
 have c8 := ((hB23 (A.length + 1) (by omega)).trans (keep1 (A.length + 1) (by omega) fun h => by have := (hva _ h).2; omega)).trans h8
 have s1' : qg B3 (.sl ja 0 ka) (wAs p (num (l.take i)) ++ [wA p (l[i], i)]) := s1.keep fun id h => hB23 id (by have := (s1.low id h).1; omega)
 obtain ⟨o, ho⟩ : ∃ o, os[f]? = some o := ⟨os[f]'(by omega), List.getElem?_eq_getElem _⟩
 have keepO : ∀ v q, os[v]? = some q -> qg B3 q (wAs p (jI (l.take i) v)) := fun v q hq => (go v q hq).keep fun id h => by
  have := (go v q hq).low id h
  rw [hB23 id (by omega), keep1 id (by omega) (gd1 v q id hq h), hAB id this.2]
 have so := keepO f o ho
 have hol : (wAs p (jI (l.take i) f)).length <= 1000 := by
  have := tq (l.take i) f
  simp only [wAs, List.length_map]
  simp at this; omega
 obtain ⟨jo, ko, B4, ap2, s2, len2, keep2, ids2⟩ := so.append (wA p (l[i], i)) (by omega) hol
 have hoi := (go f o ho).low
 have d0 := (keep2 0 (by omega) fun h => by have := (hoi 0 h).1; omega).trans c0
 obtain ⟨B5, hB5⟩ : ∃ B5, B5 = B4.set 0 (.row 1 false (os.set f (.sl jo 0 ko))) := ⟨_, rfl⟩
 have hB45 : ∀ id, id ≠ 0 -> B5[id]? = B4[id]? := fun id h => by rw [hB5, List.getElem?_set_ne (Ne.symm h)]
 have ids1' : ∀ x, x ∈ a5 (.sl ja 0 ka) -> x ∈ a5 va \/ x = B.length := fun x hx => by
  simp only [a5, List.mem_singleton] at hx
  rw [hx]; exact ids1
 have ids2' : ∀ x, x ∈ a5 (.sl jo 0 ko) -> x ∈ a5 o \/ x = B3.length := fun x hx => by
  simp only [a5, List.mem_singleton] at hx
  rw [hx]; exact ids2
 refine ⟨B5, ?_, .sl ja 0 ka, os.set f (.sl jo 0 ko), ?_, ?_, ?_, ?_, ?_, ?_, ?_⟩
 ·have r1 := fun K X => FP E fuel K A ha hp hi hv32 (.ptr 1 0 0) (.bool true) X
  rw [<- hB] at r1
  have r2 := fun K => r25c E fuel K (B := B) (B2 := B2) (v2 := .int .i64 p) (v6 := .int .i64 (i : Int)) (v7 := .ptr A.length 0 0) (v10 := a) (v11 := .int .i64 (l.length : Int)) (v12 := .int .i64 (i : Int)) (v13 := .bool true) (n := .int .i64 (n : Int)) (va := va) (j := ja) (k := ka) (os := .sl 0 0 n) (i8 := A.length + 1) k1 h8 ap1 q1
  rw [<- hB3] at r2
  have r3 := fun K => r25d E fuel K (B := B3) (B2 := B4) (v2 := .int .i64 p) (v6 := .int .i64 (i : Int)) (i7 := A.length) (v10 := a) (v11 := .int .i64 (l.length : Int)) (v12 := .int .i64 (i : Int)) (v13 := .bool true) (n := .int .i64 (n : Int)) (va := .sl ja 0 ka) (o := o) (j := jo) (k := ko) (os := os) (m := n) (f := f) (a := l[i]) (i8 := A.length + 1) c1 c7 c8 hf (by omega) c0 ho so.form2 ap2 d0 (fun j hj => ⟨by have := (hoi j hj).1; omega, by have := (hoi j hj).2; omega⟩) (by omega) (by omega)
  rw [<- hB5] at r3
  have b1 := bc i l.length .i64
  rw [decide_eq_true hi] at b1
  have b3 := aK i (by omega)
  obtain ⟨i1, hi1⟩ : ∃ i1 : Nat, i1 = i + 1 := ⟨_, rfl⟩
  rw [<- hi1] at b3 ⊢
  rw [EG]
  simp [b1, b3, r1, r2, r3, -af]
 ·rw [hB5]; exact List.getElem?_set_self (by omega)
 ·rw [hB45 1 (by omega), keep2 1 (by omega) fun h => by have := (hoi 1 h).1; omega]
  exact c1
 ·simp [hos]
 ·rw [tv l i hi, show wAs p (num (l.take i) ++ [(l[i], i)]) = wAs p (num (l.take i)) ++ [wA p (l[i], i)] by simp [wAs]]
  refine s1'.keep fun id h => ?_
  have h1 := s1'.low id h
  rw [hB45 id (by omega), keep2 id h1.2 fun h2 => ?_]
  rcases ids1' id h with h3 | h3
  ·exact gd1 f o id ho h2 h3
  ·have := (hoi id h2).2; omega
 ·intro v q hq
  rw [vU l i v hi]
  by_cases hvf : v = f
  ·subst hvf
   rw [List.getElem?_set_self (by omega)] at hq
   injection hq with hq; subst hq
   rw [if_pos hf, show wAs p (jI (l.take i) v ++ [(l[i], i)]) = wAs p (jI (l.take i) v) ++ [wA p (l[i], i)] by simp [wAs]]
   exact s2.keep fun id h => hB45 id (by have := (s2.low id h).1; omega)
  ·rw [List.getElem?_set_ne (Ne.symm hvf)] at hq
   rw [if_neg (by rw [hf]; omega)]
   refine (keepO v q hq).keep fun id h => ?_
   have h1 := (keepO v q hq).low id h
   rw [hB45 id (by omega), keep2 id h1.2 (gd2 v f q o id hvf hq ho h)]
 ·intro v q j hq hj hj2
  have hnew : j ∈ a5 va \/ j = B.length := ids1' j hj2
  by_cases hvf : v = f
  ·subst hvf
   rw [List.getElem?_set_self (by omega)] at hq
   injection hq with hq; subst hq
   have h5 := (s1.low j hj2).2
   rcases ids2' j hj with h3 | h3
   ·have := (hoi j h3).2
    rcases hnew with h4 | h4
    ·exact gd1 v o j ho h3 h4
    ·omega
   ·omega
  ·rw [List.getElem?_set_ne (Ne.symm hvf)] at hq
   have := ((go v q hq).low j hj).2
   rcases hnew with h4 | h4
   ·exact gd1 v q j hq hj h4
   ·omega
 ·intro u v q r j huv hq hr hj hj2
  by_cases huf : u = f
  ·subst huf
   rw [List.getElem?_set_self (by omega)] at hq
   injection hq with hq; subst hq
   rw [List.getElem?_set_ne huv] at hr
   have := ((go v r hr).low j hj2).2
   rcases ids2' j hj with h3 | h3
   ·exact gd2 u v o r j huv ho hr h3 hj2
   ·omega
  ·rw [List.getElem?_set_ne (Ne.symm huf)] at hq
   have := ((go u q hq).low j hj).2
   by_cases hvf : v = f
   ·subst hvf
    rw [List.getElem?_set_self (by omega)] at hr
    injection hr with hr; subst hr
    rcases ids2' j hj2 with h3 | h3
    ·exact gd2 u v q o j huv hq ho hj h3
    ·omega
   ·rw [List.getElem?_set_ne (Ne.symm hvf)] at hr
    exact gd2 u v q r j huv hq hr hj hj2
theorem aS (A : ac) (n : Nat) (k : IntKind) (z : Int) : frz A n (.int k z) = .int k z := by cases n <;> rfl
def cC (n : Nat) (p : Int) (l : List aW) : AV := .fp [.int .i64 (n : Int), slA 6 (wAs p (num l)), .fs 1 ((List.range n).map fun v => slA 6 (wAs p (jI l v)))]
theorem xX.frz {n : Nat} {p : Int} {l : List aW} {A : ac} (h : xX n p l l.length A) (k : Nat) : Proofs.Ytemklhljjaniaaa.frz A (k + 4) (.ptr 1 0 0) = cC n p l := by
 obtain ⟨va, os, g0, g1, hos, gs, go, _, _⟩ := h
 rw [List.take_length] at gs go
 show Proofs.Ytemklhljjaniaaa.frz A (k + 3 + 1) _ = _
 simp only [Proofs.Ytemklhljjaniaaa.frz, g1, List.getElem?_cons_zero]
 rw [if_pos ⟨rfl, by simp [cellsOf]⟩]
 have e2 : Proofs.Ytemklhljjaniaaa.frz A (k + 3) (.sl 0 0 n) = .fs 1 ((List.range n).map fun v => slA 6 (wAs p (jI l v))) := by
  show Proofs.Ytemklhljjaniaaa.frz A (k + 2 + 1) _ = _
  simp only [Proofs.Ytemklhljjaniaaa.frz, g0]
  rw [List.drop_zero, List.take_of_length_le (by omega)]
  congr 1
  apply List.ext_getElem (by simp [hos])
  intro v h1 h2
  simp only [List.getElem_map, List.getElem_range]
  exact (go v _ (List.getElem?_eq_getElem (by simpa using h1))).frz k
 simp only [cellsOf, List.drop_zero, List.map_cons, List.map_nil, e2]
 rw [show Proofs.Ytemklhljjaniaaa.frz A (k + 3) va = slA 6 (wAs p (num l)) from gs.frz (k + 1)]
 simp [cC, Proofs.Ytemklhljjaniaaa.frz]
theorem xX.fresh {n : Nat} {p : Int} {l : List aW} {A : ac} (h : xX n p l l.length A) (k : Nat) : aY A (k + 4) (.ptr 1 0 0) = true := by
 obtain ⟨va, os, g0, g1, hos, gs, go, _, _⟩ := h
 rw [List.take_length] at gs go
 have e2 : aY A (k + 3) (.sl 0 0 n) = true := by
  show aY A (k + 2 + 1) _ = _
  simp only [aY, g0]
  rw [List.drop_zero, List.take_of_length_le (by omega), List.all_eq_true]
  intro x hx
  obtain ⟨v, hv, rfl⟩ := List.mem_iff_getElem.1 hx
  exact (go v _ (List.getElem?_eq_getElem hv)).fresh k
 have e1 : aY A (k + 3) va = true := gs.fresh (k + 1)
 show aY A (k + 3 + 1) _ = _
 simp only [aY, g1, List.getElem?_cons_zero, cellsOf, AV.solid, List.all_cons, List.all_nil, Bool.and_true, Bool.true_and, List.length_cons, List.length_nil]
 simp only [aY] at e1 e2
 rw [e1, e2]; rfl
theorem vY (E : Env) (fuel : Nat) (A : ac) {a : AV} {l : List aW} (ha : aX a = some l) {p : Int} (hp : a8 p) {n : Nat} (hn : n <= 32) (hl200 : l.length <= 200) (hv : ∀ x ∈ l, okA n x) (hI : xX n p l 0 A) :
  ∃ A', xX n p l l.length A' /\ bg (evC E fuel eu) dP (l.length + 1) (em (.int .i64 p) (.ptr 1 0 0) a (.int .i64 (l.length : Int)) (.int .i64 0)) A = some (.exit 0 ((em (.int .i64 p) (.ptr 1 0 0) a (.int .i64 (l.length : Int)) (.int .i64 (l.length : Int))).set 13 (.bool false)) A') := by
 obtain ⟨o, h1, A', h2, h3⟩ := da (E := E) (fuel := fuel) (a := eu) (mask := dP) (fun k σ A => ∃ i, i + k = l.length /\ σ = em (.int .i64 p) (.ptr 1 0 0) a (.int .i64 (l.length : Int)) (.int .i64 (i : Int)) /\ xX n p l i A)
  (fun o => ∃ A', xX n p l l.length A' /\ o = .exit 0 ((em (.int .i64 p) (.ptr 1 0 0) a (.int .i64 (l.length : Int)) (.int .i64 (l.length : Int))).set 13 (.bool false)) A')
  (by
   rintro k σ A ⟨i, hik, rfl, hI⟩
   rw [q0]
   by_cases hi : i < l.length
   ·obtain ⟨A', h1, h2⟩ := r6 E fuel A ha hp hn hl200 hv hi hI
    exact .inl ⟨_, _, h1, k - 1, by omega, i + 1, by omega, rfl, h2⟩
   ·obtain rfl : i = l.length := by omega
    refine .inr ⟨_, ?_, ?_, A, hI, rfl⟩
    ·simp [eu]
    ·intro _ _ h; cases h)
  (l.length + 1) l.length _ A (by omega) ⟨0, by omega, rfl, hI⟩
 exact ⟨A', h2, by rw [<- h3]; exact h1⟩
open Classical in
def M25 : aT := fun args => match args with
 | [.int .i64 n, a, .int .i64 p] => (aX a).map fun l => if a6 n l p then .tup [cC n.toNat p l, .bool true] else .tup [.nilP, .bool false]
 | _ => none
def uG : List (FuncId × aL) := [(74, aF 4 M16), (54, aF 4 M41)]
@[simp] theorem GM : aB uG 74 = some (aF 4 M16) := rfl
@[simp] theorem GK : aB uG 54 = some (aF 4 M41) := rfl
theorem rH : ∀ f M, aB uG f = some M -> an Try.prog GC f M := ak (an.of_pure sY 4) (ak (an.of_pure sS 4) az)
open Classical in
theorem pB : bk Try.prog GC 55 M25 := by
 refine bk.of_ev (E := au GC uG) (av rH) rfl Ib xf 5 ?_
 intro args r h
 unfold M25 at h
 split at h
 ·rename_i n a p
  simp only [Option.map_eq_some_iff] at h
  obtain ⟨l, hl, rfl⟩ := h
  refine ⟨l.length + 1, ?_⟩
  have m1 : M16 [.int .i64 n, a] = some (.bool (decide (bj n l))) := by simp only [M16, hl, Option.map_some]
  have m2 : M41 [.int .i64 p] = some (.bool (decide (a8 p))) := rfl
  have f1 := bX hl
  have f2 := bL hl
  have hlen := (bN hl).1
  rw [cU _ _ rfl]
  by_cases h1 : bj n l
  rotate_left
  ·rw [if_neg (fun h => h1 h.1)]
   rw [decide_eq_false h1] at m1
   simp [rr, m1, f1, f2, frz, aY, gT]
  rw [decide_eq_true h1] at m1
  by_cases h2 : a8 p
  rotate_left
  ·rw [if_neg (fun h => h2 h.2)]
   rw [decide_eq_false h2] at m2
   simp [rr, m1, m2, f1, f2, frz, aY, gT]
  rw [decide_eq_true h2] at m2
  rw [if_pos ⟨h1, h2⟩]
  obtain ⟨m, rfl⟩ : ∃ m : Nat, n = (m : Int) := ⟨n.toNat, by have := h1.1; omega⟩
  have hm : 1 <= m /\ m <= 32 := by have := h1.1; omega
  have hI : xX m p l 0 [.row 1 false (List.replicate m .nilS), .row 3 false [.agg [.int .i64 (m : Int), .nilS, .sl 0 0 m]]] := by
   refine ⟨.nilS, List.replicate m .nilS, rfl, rfl, by simp, .inl ⟨rfl, rfl⟩, fun v o ho => ?_, fun v o j ho hj => ?_, fun u v o q j _ ho _ hj => ?_⟩
   ·rw [List.getElem?_replicate] at ho
    split at ho
    ·injection ho with ho; subst ho
     exact .inl ⟨rfl, rfl⟩
    ·cases ho
   ·simp [a5]
   ·rw [List.getElem?_replicate] at ho
    split at ho
    ·injection ho with ho; subst ho
     simp [a5] at hj
    ·cases ho
  obtain ⟨A', hW, lp⟩ := vY (au GC uG) (l.length + 1) _ hl h2 hm.2 h1.2.1 h1.2.2 hI
  have z1 : frz A' 5 (.tup [.ptr 1 0 0, .bool true]) = .tup [cC m p l, .bool true] := by
   have := hW.frz 0
   show AV.tup [frz A' 4 (.ptr 1 0 0), frz A' 4 (.bool true)] = _
   rw [this]; rfl
  have z2 : aY A' 5 (.tup [.ptr 1 0 0, .bool true]) = true := by
   have := hW.fresh 0
   show [AV.ptr 1 0 0, .bool true].all (aY A' 4) = true
   simp only [List.all_cons, this]; rfl
  have p1 : gT [.ptr 1 0 0, .bool true] = .tup [.ptr 1 0 0, .bool true] := rfl
  have e1 : (m : Int).toNat = m := by omega
  have hm0 : ¬ m = 0 := by omega
  have mk : bT 1 24 .nilS [] (.int .i64 (m : Int)) (.int .i64 (m : Int)) = some (.sl 0 0 m, [.row 1 false (List.replicate m .nilS)]) := by
   simp [bT]; omega
  rw [e1]
  simp [rr, m1, m2, f1, f2, hlen, ww lp, mk, aS, z1, z2, -aj, -bT, -frz]
 ·cases h
abbrev bZ := Nat × Nat × Int
def isW (L : List bZ) : Nat -> List bZ -> Nat -> Prop
 | u, [], v => u = v
 | u, a :: r, v => a ∈ L /\ a.1 = u /\ isW L a.2.1 r v
def hJ : List bZ -> Int
 | [] => 0
 | a :: r => a.2.2 + hJ r
def Db : Nat -> List bZ -> Nat
 | u, [] => u
 | _, a :: r => Db a.2.1 r
section
variable {L : List bZ}
theorem eP : ∀ (r s : List bZ), hJ (r ++ s) = hJ r + hJ s
 | [], s => by simp [hJ]
 | a :: r, s => by
  simp only [List.cons_append, hJ, eP r s]
  omega
theorem gt : ∀ {r s : List bZ} {u v : Nat}, isW L u (r ++ s) v ↔ ∃ m, isW L u r m /\ isW L m s v
 | [], s, u, v => ⟨fun h => ⟨u, rfl, h⟩, by rintro ⟨m, rfl, h⟩; exact h⟩
 | a :: r, s, u, v => by
  simp only [List.cons_append, isW, gt (r := r) (s := s)]
  constructor
  ·rintro ⟨h1, h2, m, h3, h4⟩; exact ⟨m, ⟨h1, h2, h3⟩, h4⟩
  ·rintro ⟨m, ⟨h1, h2, h3⟩, h4⟩; exact ⟨h1, h2, m, h3, h4⟩
theorem nf : ∀ {r : List bZ} {u v : Nat}, isW L u r v -> Db u r = v
 | [], _, _, h => h
 | a :: r, _, _, ⟨_, _, h⟩ => nf (r := r) (u := a.2.1) h
theorem wP {n : Nat} (hL : ∀ a ∈ L, a.1 < n /\ a.2.1 < n) : ∀ {r : List bZ} {u v : Nat}, u < n -> isW L u r v -> v < n
 | [], _, _, h, e => e ▸ h
 | _ :: _, _, _, _, ⟨h1, _, h3⟩ => wP hL (hL _ h1).2 h3
theorem zQ : ∀ (n : Nat) (s : Nat -> Nat), (∀ i, i <= n -> s i < n) -> ∃ i j, i < j /\ j <= n /\ s i = s j
 | 0, s, h => absurd (h 0 (Nat.le_refl _)) (by omega)
 | n + 1, s, h => by
  by_cases hx : ∃ i, i <= n /\ s i = s (n + 1)
  ·obtain ⟨i, hi, he⟩ := hx
   exact ⟨i, n + 1, by omega, Nat.le_refl _, he⟩
  ·have hx' : ∀ i, i <= n -> s i ≠ s (n + 1) := fun i hi he => hx ⟨i, hi, he⟩
   obtain ⟨i, j, h1, h2, h3⟩ := zQ n (fun i => if s i = n then s (n + 1) else s i) (fun i hi => by
    have a1 := h i (by omega)
    have a2 := h (n + 1) (Nat.le_refl _)
    have a3 := hx' i hi
    show (if s i = n then s (n + 1) else s i) < n
    split <;> omega)
   refine ⟨i, j, h1, by omega, ?_⟩
   have a1 := hx' i (by omega)
   have a2 := hx' j (by omega)
   have h3 : (if s i = n then s (n + 1) else s i) = (if s j = n then s (n + 1) else s j) := h3
   split at h3 <;> split at h3 <;> omega
theorem Cd {n : Nat} (hL : ∀ a ∈ L, a.1 < n /\ a.2.1 < n) {r : List bZ} {u v : Nat} (hu : u < n) (h : isW L u r v) (hn : n <= r.length) :
  ∃ p c q m, r = p ++ c ++ q /\ isW L u p m /\ isW L m c m /\ isW L m q v /\ 1 <= c.length /\ c.length <= n := by
 have key : ∀ i, i <= r.length -> ∃ m, isW L u (r.take i) m /\ isW L m (r.drop i) v := fun i _ => by
  have h' := h
  rw [<- List.take_append_drop i r] at h'
  exact gt.1 h'
 obtain ⟨i, j, hij, hj, he⟩ := zQ n (fun i => Db u (r.take i)) (fun i hi => by
  obtain ⟨m, h1, _⟩ := key i (by omega)
  show Db u (r.take i) < n
  rw [nf h1]
  exact wP hL hu h1)
 obtain ⟨m1, a1, b1⟩ := key i (by omega)
 obtain ⟨m2, a2, b2⟩ := key j (by omega)
 have e1 := nf a1
 have e2 := nf a2
 have he : Db u (r.take i) = Db u (r.take j) := he
 have e3 : m1 = m2 := by rw [<- e1, <- e2, he]
 subst e3
 have hs : r.drop i = (r.drop i).take (j - i) ++ r.drop j := by
  conv => lhs; rw [<- List.take_append_drop (j - i) (r.drop i)]
  rw [List.drop_drop]
  congr 2; omega
 have hs2 : r.take j = r.take i ++ (r.drop i).take (j - i) := by
  have : j = i + (j - i) := by omega
  conv => lhs; rw [this]
  rw [List.take_add]
 rw [hs2] at a2
 obtain ⟨m, c1, c2⟩ := gt.1 a2
 have e4 : m = m1 := by rw [<- nf c1, e1]
 subst e4
 refine ⟨r.take i, (r.drop i).take (j - i), r.drop j, m, ?_, a1, c2, b2, ?_, ?_⟩
 ·rw [List.append_assoc, <- hs, List.take_append_drop]
 ·simp; omega
 ·simp; omega
def x5 (L : List bZ) (n : Nat) : Prop := ∀ u c, isW L u c u -> 1 <= c.length -> c.length <= n -> hJ c <= 0
theorem BF {n : Nat} (hL : ∀ a ∈ L, a.1 < n /\ a.2.1 < n) (hN : x5 L n) : ∀ (k : Nat) (r : List bZ) (u v : Nat), r.length = k -> u < n -> isW L u r v -> ∃ r', isW L u r' v /\ r'.length < n /\ hJ r <= hJ r' := by
 intro k
 induction k using Nat.strongRecOn with
 | ind k ih =>
  intro r u v hk hu h
  by_cases hn : r.length < n
  ·exact ⟨r, h, hn, Int.le_refl _⟩
  ·obtain ⟨p, c, q, m, hr, h1, h2, h3, h4, h5⟩ := Cd hL hu h (by omega)
   have hc := hN m c h2 h4 h5
   obtain ⟨r', k1, k2, k3⟩ := ih (p ++ q).length (by rw [<- hk, hr]; simp; omega) (p ++ q) u v rfl hu (gt.2 ⟨m, h1, h3⟩)
   refine ⟨r', k1, k2, ?_⟩
   rw [hr, eP, eP]
   rw [eP] at k3
   omega
def kD (L : List bZ) (s : List Int) : Prop := ∀ a ∈ L, s.getD a.1 0 + a.2.2 <= s.getD a.2.1 0
theorem h9 {s : List Int} (h : kD L s) : ∀ {r : List bZ} {u v : Nat}, isW L u r v -> s.getD u 0 + hJ r <= s.getD v 0
 | [], u, v, e => by rw [show u = v from e]; simp [hJ]
 | a :: r, u, v, ⟨h1, h2, h3⟩ => by
  have k1 := h a h1
  have k2 := h9 h h3
  rw [h2] at k1
  simp only [hJ]
  omega
theorem sf {s : List Int} (h : kD L s) (n : Nat) : x5 L n := fun u c hc _ _ => by
 have := h9 h hc
 omega
def oe (s : List Int) (a : bZ) : List Int := if s.getD a.1 0 + a.2.2 > s.getD a.2.1 0 then s.set a.2.1 (s.getD a.1 0 + a.2.2) else s
def jx (L : List bZ) (s : List Int) : List Int := L.foldl oe s
def upL : List bZ -> List Int -> Bool
 | [], _ => false
 | a :: L, s => decide (s.getD a.1 0 + a.2.2 > s.getD a.2.1 0) || upL L (oe s a)
theorem l6 (s : List Int) (a : bZ) : (oe s a).length = s.length := by unfold oe; split <;> simp
theorem eO : ∀ (L : List bZ) (s : List Int), (jx L s).length = s.length
 | [], _ => rfl
 | a :: L, s => by
  have := eO L (oe s a)
  simp only [jx, List.foldl_cons] at this ⊢
  rw [this, l6]
theorem zd (s : List Int) (i j : Nat) (x : Int) (hi : i < s.length) : (s.set i x).getD j 0 = if i = j then x else s.getD j 0 := by
 rw [List.getD_eq_getElem?_getD, List.getD_eq_getElem?_getD]
 by_cases h : i = j
 ·subst h
  rw [List.getElem?_set_self hi, if_pos rfl]; rfl
 ·rw [List.getElem?_set_ne h, if_neg h]
theorem pI {s : List Int} {a : bZ} (ha : a.2.1 < s.length) (v : Nat) : (oe s a).getD v 0 = if a.2.1 = v then max (s.getD v 0) (s.getD a.1 0 + a.2.2) else s.getD v 0 := by
 unfold oe
 by_cases h : s.getD a.1 0 + a.2.2 > s.getD a.2.1 0
 ·rw [if_pos h, zd _ _ _ _ ha]
  split
  ·rename_i e
   subst e
   omega
  ·rfl
 ·rw [if_neg h]
  split
  ·rename_i e
   subst e
   omega
  ·rfl
theorem fI : ∀ {L : List bZ} {s : List Int}, upL L s = false -> jx L s = s /\ kD L s
 | [], s, _ => ⟨rfl, fun a h => by cases h⟩
 | a :: L, s, h => by
  simp only [upL, Bool.or_eq_false_iff, decide_eq_false_iff_not] at h
  obtain ⟨h1, h2⟩ := h
  have e : oe s a = s := by unfold oe; rw [if_neg h1]
  rw [e] at h2
  obtain ⟨k1, k2⟩ := fI h2
  refine ⟨?_, fun b hb => ?_⟩
  ·simp only [jx, List.foldl_cons, e]; exact k1
  ·rcases List.mem_cons.1 hb with rfl | hb
   ·omega
   ·exact k2 b hb
theorem mB : ∀ {L : List bZ} {s : List Int}, kD L s -> upL L s = false
 | [], _, _ => rfl
 | a :: L, s, h => by
  have h1 := h a (by simp)
  have e : oe s a = s := by unfold oe; rw [if_neg (by omega)]
  simp only [upL, e, Bool.or_eq_false_iff, decide_eq_false_iff_not]
  exact ⟨by omega, mB fun b hb => h b (by simp [hb])⟩
theorem sa {n : Nat} : ∀ {L : List bZ} {s : List Int}, s.length = n -> (∀ a ∈ L, a.2.1 < n) -> (∀ v, s.getD v 0 <= (jx L s).getD v 0) /\ ∀ a ∈ L, s.getD a.1 0 + a.2.2 <= (jx L s).getD a.2.1 0
 | [], s, _, _ => ⟨fun v => Int.le_refl _, fun a h => by cases h⟩
 | a :: L, s, hs, hL => by
  have ha := hL a (by simp)
  obtain ⟨k1, k2⟩ := sa (L := L) (s := oe s a) (by rw [l6, hs]) (fun b hb => hL b (by simp [hb]))
  have e : jx (a :: L) s = jx L (oe s a) := rfl
  rw [e]
  have g := fun v => pI (s := s) (a := a) (by omega) v
  have g1 : ∀ v, s.getD v 0 <= (oe s a).getD v 0 := fun v => by
   rw [g]; split <;> omega
  refine ⟨fun v => Int.le_trans (g1 v) (k1 v), fun b hb => ?_⟩
  rcases List.mem_cons.1 hb with rfl | hb
  ·refine Int.le_trans ?_ (k1 _)
   rw [g, if_pos rfl]; omega
  ·have := k2 b hb
   have h0 := g1 b.1
   omega
def zE (L : List bZ) (n : Nat) (s : List Int) : Prop := ∀ v, v < n -> ∃ u r, u < n /\ isW L u r v /\ hJ r = s.getD v 0
theorem vQ {n : Nat} {L : List bZ} (hL : ∀ a ∈ L, a.1 < n /\ a.2.1 < n) {s : List Int} (hs : s.length = n) (hw : zE L n s) {a : bZ} (ha : a ∈ L) : zE L n (oe s a) := fun v hv => by
 rw [pI (by have := (hL a ha).2; omega)]
 by_cases h : a.2.1 = v
 ·rw [if_pos h]
  by_cases hm : s.getD a.1 0 + a.2.2 <= s.getD v 0
  ·obtain ⟨u, r, h1, h2, h3⟩ := hw v hv
   exact ⟨u, r, h1, h2, by omega⟩
  ·obtain ⟨u, r, h1, h2, h3⟩ := hw a.1 (hL a ha).1
   refine ⟨u, r ++ [a], h1, gt.2 ⟨a.1, h2, ha, rfl, h⟩, ?_⟩
   rw [eP, h3]
   simp only [hJ]
   omega
 ·rw [if_neg h]; exact hw v hv
theorem mN {n : Nat} {L0 : List bZ} (hL : ∀ a ∈ L0, a.1 < n /\ a.2.1 < n) : ∀ {L : List bZ} {s : List Int}, (∀ a ∈ L, a ∈ L0) -> s.length = n -> zE L0 n s -> zE L0 n (jx L s)
 | [], _, _, _, h => h
 | a :: L, s, hs0, hs, hw => mN hL (L := L) (s := oe s a) (fun b hb => hs0 b (by simp [hb])) (by rw [l6, hs]) (vQ hL hs hw (hs0 a (by simp)))
def lev (L : List bZ) : Nat -> List Int -> List Int × Bool
 | 0, s => (s, !upL L s)
 | m + 1, s => if upL L s = false then (s, true) else lev L m (jx L s)
def a7 (L : List bZ) (n : Nat) : List Int × Bool := lev L n (List.replicate n 0)
theorem sd {n : Nat} {L : List bZ} (hL : ∀ a ∈ L, a.1 < n /\ a.2.1 < n) : ∀ (m : Nat) (s : List Int), s.length = n -> zE L n s -> (∀ v, 0 <= s.getD v 0) ->
  (lev L m s).1.length = n /\ zE L n (lev L m s).1 /\ (∀ v, 0 <= (lev L m s).1.getD v 0) /\ ((lev L m s).2 = true -> kD L (lev L m s).1)
 | 0, s, hs, hw, h0 => ⟨hs, hw, h0, fun h => (fI (by simpa [lev] using h)).2⟩
 | m + 1, s, hs, hw, h0 => by
  unfold lev
  by_cases h : upL L s = false
  ·rw [if_pos h]
   exact ⟨hs, hw, h0, fun _ => (fI h).2⟩
  ·rw [if_neg h]
   exact sd hL m _ (by rw [eO, hs]) (mN hL (fun _ h => h) hs hw) fun v => Int.le_trans (h0 v) ((sa hs (fun a ha => (hL a ha).2)).1 v)
theorem my (L : List bZ) (n : Nat) : zE L n (List.replicate n 0) := fun v hv => ⟨v, [], hv, rfl, by simp [hJ, List.getD_eq_getElem?_getD, hv]⟩
theorem jA (n v : Nat) : (List.replicate n (0 : Int)).getD v 0 = 0 := by
 rw [List.getD_eq_getElem?_getD]
 by_cases h : v < n <;> simp [h]
theorem DK {n : Nat} {L : List bZ} (hL : ∀ a ∈ L, a.1 < n /\ a.2.1 < n) (hN : x5 L n) : ∀ (m k : Nat) (s : List Int), m + k = n -> s.length = n -> zE L n s -> (∀ v, 0 <= s.getD v 0) -> (∀ r u v, isW L u r v -> u < n -> r.length <= k -> hJ r <= s.getD v 0) -> (lev L m s).2 = true := by
 intro m
 induction m with
 | zero =>
  intro k s hk hs hw h0 hr
  have : kD L s := fun a ha => by
   obtain ⟨h1, h2⟩ := hL a ha
   obtain ⟨u, r, k1, k2, k3⟩ := hw a.1 h1
   obtain ⟨r', q1, q2, q3⟩ := BF hL hN _ (r ++ [a]) u a.2.1 rfl k1 (gt.2 ⟨a.1, k2, ha, rfl, rfl⟩)
   have := hr r' u a.2.1 q1 k1 (by omega)
   rw [eP] at q3
   simp only [hJ] at q3
   omega
  simp [lev, mB this]
 | succ m ih =>
  intro k s hk hs hw h0 hr
  unfold lev
  by_cases h : upL L s = false
  ·rw [if_pos h]
  ·rw [if_neg h]
   have hge := sa hs (fun a ha => (hL a ha).2)
   refine ih (k + 1) _ (by omega) (by rw [eO, hs]) (mN hL (fun _ h => h) hs hw) (fun v => Int.le_trans (h0 v) (hge.1 v)) fun r u v hw' hu hl => ?_
   by_cases he : r = []
   ·subst he
    have : u = v := hw'
    subst this
    exact Int.le_trans (by simpa [hJ] using h0 u) (hge.1 u)
   ·obtain ⟨q, a, rfl⟩ : ∃ q a, r = q ++ [a] := ⟨r.dropLast, r.getLast he, (List.dropLast_concat_getLast he).symm⟩
    obtain ⟨m', k1, k2, k3, k4⟩ := gt.1 hw'
    have e : a.2.1 = v := k4
    subst e
    have h1 := hr q u m' k1 hu (by simp at hl; omega)
    have h2 := hge.2 a k2
    rw [<- k3] at h1
    rw [eP]
    simp only [hJ]
    omega
theorem g9 {n : Nat} {L : List bZ} (hL : ∀ a ∈ L, a.1 < n /\ a.2.1 < n) : (a7 L n).2 = true ↔ x5 L n := by
 constructor
 ·intro h
  exact sf ((sd hL n _ (by simp) (my L n) (fun v => by rw [jA]; exact Int.le_refl _)).2.2.2 h) n
 ·intro h
  refine DK hL h n 0 _ (by omega) (by simp) (my L n) (fun v => by rw [jA]; exact Int.le_refl _) fun r u v hw _ hl => ?_
  have : r = [] := List.length_eq_zero_iff.1 (by omega)
  subst this
  rw [jA]; simp [hJ]
theorem dE {n : Nat} {L : List bZ} (hL : ∀ a ∈ L, a.1 < n /\ a.2.1 < n) : (a7 L n).1.length = n /\ (∀ v, 0 <= (a7 L n).1.getD v 0) /\ zE L n (a7 L n).1 /\ ((a7 L n).2 = true -> kD L (a7 L n).1) /\
  ∀ x : List Int, kD L x -> (∀ v, v < n -> 0 <= x.getD v 0) -> ∀ v, v < n -> (a7 L n).1.getD v 0 <= x.getD v 0 := by
 obtain ⟨h1, h2, h3, h4⟩ := sd hL n _ (by simp) (my L n) (fun v => by rw [jA]; exact Int.le_refl _)
 refine ⟨h1, h3, h2, h4, fun x hx h0 v hv => ?_⟩
 obtain ⟨u, r, k1, k2, k3⟩ := h2 v hv
 have := h9 hx k2
 have := h0 u k1
 unfold a7
 omega
end
def lar (p : Int) (l : List aW) : List bZ := l.map fun a => (a.f.toNat, a.t.toNat, a.len p)
theorem pw (p : Int) (l : List aW) : (wAs p (num l)).length = l.length := by simp [wAs, dB]
theorem Df (p : Int) {l : List aW} {i : Nat} (hi : i < l.length) : (wAs p (num l))[i]? = some (wA p (l[i], i)) := by
 simp [wAs, dc l i hi]
theorem qj (p : Int) {l : List aW} {i : Nat} (hi : i < l.length) (A : ac) (k : IntKind) : ab 6 A (slA 6 (wAs p (num l))) (.int k (i : Int)) = some (.fp [.int .i64 l[i].f, .int .i64 l[i].t, .int .i64 l[i].w, .int .i64 l[i].k, .int .i64 (i : Int), .int .i64 (l[i].len p)]) :=
 (aI 6 (wAs p (num l))).index (A := A) (Df p hi) rfl (by omega) k
theorem qI {s : List Int} {i : Nat} (h : i < s.length) : (ag s)[i]? = some (.int .i64 (s.getD i 0)) := by
 simp [ag, h]
def Bd (lo hi : Int) (s : List Int) : Prop := ∀ v, v < s.length -> lo <= s.getD v 0 /\ s.getD v 0 <= hi
theorem vR {lo hi : Int} {s : List Int} {a : bZ} (h : Bd lo hi s) (hf : a.1 < s.length) (ht : a.2.1 < s.length) (hw : a.2.2 <= 3000000) : Bd lo (hi + 3000000) (oe s a) := fun v hv => by
 rw [l6] at hv
 rw [pI ht]
 have h1 := h v hv
 have h2 := h _ hf
 split <;> omega
theorem wj {p : Int} {l : List aW} {i : Nat} (hi : i < l.length) : (lar p l)[i]? = some (l[i].f.toNat, l[i].t.toNat, l[i].len p) := by simp [lar, hi]
theorem mO {L : List bZ} {i : Nat} {a : bZ} (h : L[i]? = some a) (s : List Int) : jx (L.take (i + 1)) s = oe (jx (L.take i) s) a := by
 obtain ⟨hi, rfl⟩ := List.getElem?_eq_some_iff.1 h
 unfold jx
 rw [List.take_succ_eq_append_getElem hi, List.foldl_append]
 rfl
theorem sO : ∀ {L : List bZ} {i : Nat} {a : bZ}, L[i]? = some a -> ∀ s, upL (L.take (i + 1)) s = (upL (L.take i) s || decide ((jx (L.take i) s).getD a.1 0 + a.2.2 > (jx (L.take i) s).getD a.2.1 0))
 | [], i, a, h, s => by simp at h
 | b :: L, 0, a, h, s => by
  simp at h; subst h
  simp [upL, jx]
 | b :: L, i + 1, a, h, s => by
  simp only [List.getElem?_cons_succ] at h
  have := sO h (oe s b)
  simp only [List.take_succ_cons, upL, this, Bool.or_assoc]
  rfl
def IF : MC := .region [⟨none, .indexSl 6 (.var 5) (.var 7), none⟩, ⟨none, .load true 6 (.tmp 0), none⟩, ⟨some 3, .alloc 6 (.agg [.int .i64 0, .int .i64 0, .int .i64 0, .int .i64 0, .int .i64 0, .int .i64 0]), none⟩, ⟨none, .store 6 (.var 3) (.tmp 1), none⟩]
def IE : MC := .region [⟨none, .mv (.var 1), none⟩, ⟨none, .fieldAddr 0 (.var 3), none⟩, ⟨none, .fieldAddr 0 (.tmp 1), none⟩, ⟨none, .load false 1 (.tmp 2), none⟩, ⟨none, .indexSl 1 (.tmp 0) (.tmp 3), none⟩, ⟨none, .load false 1 (.tmp 4), none⟩, ⟨none, .fieldAddr 5 (.var 3), none⟩, ⟨none, .load false 1 (.tmp 6), none⟩, ⟨none, .bin .add (.tmp 5) (.tmp 7), none⟩, ⟨some 4, .mv (.tmp 8), none⟩]
def ID : MC := .region [⟨none, .mv (.var 4), none⟩, ⟨none, .mv (.var 1), none⟩, ⟨none, .fieldAddr 0 (.var 3), none⟩, ⟨none, .fieldAddr 1 (.tmp 2), none⟩, ⟨none, .load false 1 (.tmp 3), none⟩, ⟨none, .indexSl 1 (.tmp 1) (.tmp 4), none⟩, ⟨none, .load false 1 (.tmp 5), none⟩, ⟨some 9, .bin .gtr (.tmp 0) (.tmp 6), none⟩]
def IC : MC := .region [⟨none, .mv (.var 1), none⟩, ⟨none, .fieldAddr 0 (.var 3), none⟩, ⟨none, .fieldAddr 1 (.tmp 1), none⟩, ⟨none, .load false 1 (.tmp 2), none⟩, ⟨none, .mv (.var 4), none⟩, ⟨none, .indexSl 1 (.tmp 0) (.tmp 3), none⟩, ⟨none, .store 1 (.tmp 5) (.tmp 4), none⟩, ⟨some 2, .mv (.cst (.bool true)), none⟩]
theorem AX : eL = .seq (.region [⟨some 8, .bin .lss (.var 7) (.var 6), none⟩]) (.seq (.cond (.var 8) .skip (.exit 0)) (.seq (.seq (.block 1 (.seq IF (.seq IE (.seq ID (.cond (.var 9) IC .skip))))) (.kill [0, 3, 4, 8, 9])) (.region [⟨none, .bin .add (.var 7) (.cst (.int .i64 1)), none⟩, ⟨some 7, .mv (.tmp 0), none⟩]))) := rfl
theorem r37a (E : Env) (fuel : Nat) (K : List KC) (A : ac) (X : MC) {p : Int} {l : List aW} {i : Nat} (hi : i < l.length) (v1 v2 v6 v8 : AV) :
  run E fuel (.code (.seq IF X) :: K) [.undef, v1, v2, .undef, .undef, slA 6 (wAs p (num l)), v6, .int .i64 (i : Int), v8, .undef] A =
   run E fuel (.code X :: K) [.undef, v1, v2, .ptr A.length 0 0, .undef, slA 6 (wAs p (num l)), v6, .int .i64 (i : Int), v8, .undef] (A ++ [.row 6 false [wA p (l[i], i)]]) := by
 have x1 := qj p hi A .i64
 obtain ⟨W, hW⟩ : ∃ W, W = slA 6 (wAs p (num l)) := ⟨_, rfl⟩
 rw [<- hW] at x1 ⊢
 simp [IF, x1, wA, -ab]
def AU (A0 : ac) (id : Nat) (s : List Int) (A : ac) : Prop := A[id]? = some (.row 1 false (ag s)) /\ A0.length <= A.length /\ ∀ j, j ≠ id -> j < A0.length -> A[j]? = A0[j]?
theorem wn (s : List Int) (i : Nat) (z : Int) : (ag s).set i (.int .i64 z) = ag (s.set i z) := by
 unfold ag; rw [List.map_set]
theorem rY (E : Env) (fuel : Nat) {A0 A : ac} {id n : Nat} {s : List Int} {p : Int} {l : List aW} (hn : s.length = n) (hp : a8 p) (hv : ∀ x ∈ l, okA n x) (hn32 : n <= 32) (hl200 : l.length <= 200) {i : Nat} (hi : i < l.length) {b : Bool} (hb : Bd (-100000000000000) 100000000000000 s) (_hid : id < A0.length) (hI : AU A0 id s A) :
  ∃ A', run E fuel [.code eL] (fJ (.sl id 0 n) (.bool b) (slA 6 (wAs p (num l))) (.int .i64 (l.length : Int)) (.int .i64 (i : Int))) A = some (.normal (fJ (.sl id 0 n) (.bool (b || decide (s.getD l[i].f.toNat 0 + l[i].len p > s.getD l[i].t.toNat 0))) (slA 6 (wAs p (num l))) (.int .i64 (l.length : Int)) (.int .i64 ((i + 1 : Nat) : Int))) A') /\ AU A0 id (oe s (l[i].f.toNat, l[i].t.toNat, l[i].len p)) A' := by
 obtain ⟨g1, g2, g3⟩ := hI
 have hmem := hv _ (List.getElem_mem hi)
 obtain ⟨f, hf, hfn⟩ := fN hmem.1
 obtain ⟨t, ht, htn⟩ := fN hmem.2.1
 have hv32 : okA 32 l[i] := by
  obtain ⟨h1, h2, h3, h4⟩ := hmem
  exact ⟨by omega, by omega, h3, h4⟩
 obtain ⟨k1, k2, _, _⟩ := dT hv32 hp
 obtain ⟨w, hw⟩ : ∃ w, w = l[i].len p := ⟨_, rfl⟩
 obtain ⟨B, hB⟩ : ∃ B, B = A ++ [.row 6 false [wA p (l[i], i)]] := ⟨_, rfl⟩
 have r1 := fun K X => r37a E fuel K A X (p := p) hi (.sl id 0 n) (.bool b) (.int .i64 (l.length : Int)) (.bool true)
 rw [<- hB] at r1
 have hidA : id < A.length := (List.getElem?_eq_some_iff.1 g1).1
 have c1 : B[id]? = some (.row 1 false (ag s)) := by rw [hB, List.getElem?_append_left hidA]; exact g1
 have c8 : B[A.length]? = some (.row 6 false [.agg [.int .i64 (f : Int), .int .i64 (t : Int), .int .i64 l[i].w, .int .i64 l[i].k, .int .i64 (i : Int), .int .i64 w]]) := by
  rw [hB, hw]; simp [wA, hf, ht]
 obtain ⟨i8, hi8⟩ : ∃ i8, i8 = A.length := ⟨_, rfl⟩
 rw [<- hi8] at r1 c8
 have hBl : A0.length <= B.length := by rw [hB]; simp; omega
 have hBo : ∀ j, j ≠ id -> j < A0.length -> B[j]? = A0[j]? := fun j hj hl => by rw [hB, List.getElem?_append_left (by omega)]; exact g3 j hj hl
 have ef := qI (s := s) (i := f) (by omega)
 have et := qI (s := s) (i := t) (by omega)
 have bf := hb f (by omega)
 have bt := hb t (by omega)
 rw [<- hw] at k1 k2
 have e1 : l[i].f.toNat = f := by omega
 have e2 : l[i].t.toNat = t := by omega
 rw [e1, e2, <- hw]
 obtain ⟨x, hx⟩ : ∃ x, x = s.getD f 0 := ⟨_, rfl⟩
 obtain ⟨y, hy⟩ : ∃ y, y = s.getD t 0 := ⟨_, rfl⟩
 rw [<- hx] at ef bf ⊢
 rw [<- hy] at et bt ⊢
 have b2 : af .add (.int .i64 x) (.int .i64 w) = some (.int .i64 (x + w)) := by
  simp only [af]; rw [if_pos trivial, dl (by unfold inI; omega)]
 have b4 : af .gtr (.int .i64 (x + w)) (.int .i64 y) = some (.bool (decide (x + w > y))) := by simp [af]
 have b1 := bc i l.length .i64
 rw [decide_eq_true hi] at b1
 have b3 := aK i (by omega)
 obtain ⟨i1, hi1⟩ : ∃ i1 : Nat, i1 = i + 1 := ⟨_, rfl⟩
 rw [<- hi1] at b3 ⊢
 have er : oe s (f, t, w) = if x + w > y then s.set t (x + w) else s := by unfold oe; rw [hx, hy]
 rw [er]
 obtain ⟨z, hz⟩ : ∃ z, z = x + w := ⟨_, rfl⟩
 rw [<- hz] at b2 b4 ⊢
 obtain ⟨W, hW⟩ : ∃ W, W = slA 6 (wAs p (num l)) := ⟨_, rfl⟩
 rw [<- hW] at r1 ⊢
 have hfn' : f < n := by omega
 have htn' : t < n := by omega
 by_cases hc : z > y
 ·rw [if_pos hc]
  rw [decide_eq_true hc] at b4 ⊢
  refine ⟨B.set id (.row 1 false (ag (s.set t z))), ?_, ?_, ?_, ?_⟩
  ·rw [<- wn]
   rw [AX]
   simp [b1, b3, r1, IE, ID, IC, c1, c8, ef, et, b2, b4, hfn', htn', -af]
  ·exact List.getElem?_set_self (by rw [hB]; simp; omega)
  ·simp; omega
  ·intro j hj hl
   rw [List.getElem?_set_ne (Ne.symm hj)]; exact hBo j hj hl
 ·rw [if_neg hc]
  rw [decide_eq_false hc] at b4 ⊢
  refine ⟨B, ?_, c1, hBl, hBo⟩
  rw [AX]
  simp [b1, b3, r1, IE, ID, IC, c1, c8, ef, et, b2, b4, hfn', htn', -af]
theorem Fv {E : Env} {A : ac} {id n : Nat} {s : List Int} {p : Int} {l : List aW} (hn : s.length = n) (hp : a8 p) (hv : ∀ x ∈ l, okA n x) (hn32 : n <= 32) (hl200 : l.length <= 200) {hi : Int} (hb : Bd (-1000000000000) hi s) (hhi : hi <= 1000000000000) (hid : A[id]? = some (.row 1 false (ag s))) :
  ∃ A', cu E 300 pK [cC n p l, .sl id 0 n] A = some (.bool (upL (lar p l) s), A') /\ AU A id (jx (lar p l) s) A' := by
 have hlt := (List.getElem?_eq_some_iff.1 hid).1
 have hlen : (lar p l).length = l.length := by simp [lar]
 have bd : ∀ i, i <= l.length -> Bd (-1000000000000) (hi + 3000000 * i) (jx ((lar p l).take i) s) := by
  intro i
  induction i with
  | zero => intro _; simpa [jx] using hb
  | succ i ih =>
   intro hi'
   have h1 := ih (by omega)
   have h2 := wj (p := p) (l := l) (i := i) (by omega)
   rw [mO h2]
   have hmem := hv _ (List.getElem_mem (show i < l.length by omega))
   obtain ⟨q1, q2, q3, q4⟩ := hmem
   have hle := dT (n := 32) (a := l[i]) ⟨by omega, by omega, q3, q4⟩ hp
   have := vR (a := (l[i].f.toNat, l[i].t.toNat, l[i].len p)) h1 (by rw [eO]; simp only; omega) (by rw [eO]; simp only; omega) (by simp only; omega)
   intro v hv'
   have := this v hv'
   omega
 obtain ⟨o, h1, A', h2, h3⟩ := da (E := E) (fuel := 300) (a := eL) (mask := ek) (fun k σ B => ∃ i, i + k = l.length /\ σ = fJ (.sl id 0 n) (.bool (upL ((lar p l).take i) s)) (slA 6 (wAs p (num l))) (.int .i64 (l.length : Int)) (.int .i64 (i : Int)) /\ AU A id (jx ((lar p l).take i) s) B)
  (fun o => ∃ A', AU A id (jx (lar p l) s) A' /\ o = .exit 0 ((fJ (.sl id 0 n) (.bool (upL (lar p l) s)) (slA 6 (wAs p (num l))) (.int .i64 (l.length : Int)) (.int .i64 (l.length : Int))).set 8 (.bool false)) A')
  (by
   rintro k σ B ⟨i, hik, rfl, hI⟩
   rw [pg]
   by_cases hi' : i < l.length
   ·have hb' := bd i (by omega)
    have h2 := wj (p := p) hi'
    obtain ⟨B', h1, h3⟩ := rY E 300 (s := jx ((lar p l).take i) s) (n := n) (b := upL ((lar p l).take i) s) (by rw [eO, hn]) hp hv hn32 hl200 hi' (fun v hv' => by have := hb' v hv'; omega) hlt hI
    refine .inl ⟨_, _, h1, k - 1, by omega, i + 1, by omega, ?_, ?_⟩
    ·rw [sO h2]
    ·rw [mO h2]; exact h3
   ·obtain rfl : i = l.length := by omega
    rw [List.take_of_length_le (by omega)] at hI ⊢
    refine .inr ⟨_, ?_, ?_, B, hI, rfl⟩
    ·simp [eL]
    ·intro _ _ h; cases h)
  300 l.length (fJ (.sl id 0 n) (.bool false) (slA 6 (wAs p (num l))) (.int .i64 (l.length : Int)) (.int .i64 0)) A (by omega) ⟨0, by omega, by simp [upL], by simpa [jx] using ⟨hid, Nat.le_refl _, fun _ _ _ => rfl⟩⟩
 refine ⟨A', ?_, h2⟩
 subst h3
 rw [bU _ _ rfl]
 have hlen2 : aj (slA 6 (wAs p (num l))) = some (.int .i64 (l.length : Int)) := by rw [pM, pw]
 unfold cC
 obtain ⟨W, hW⟩ : ∃ W, W = slA 6 (wAs p (num l)) := ⟨_, rfl⟩
 rw [<- hW] at h1 hlen2 ⊢
 simp [pK, hlen2, tK h1, gT, -aj]
theorem qp : an Try.prog GC 62 (fun _ => cu (au GC []) 300 pK) := (cI (av az) rfl FD tV bC.nil).y
theorem aA (xs : List Int) : (ag xs).length = xs.length := by simp [ag]
theorem I7 (E : Env) (fuel : Nat) {A : ac} {a : AV} {xs : List Int} (h : IM A 1 a (ag xs)) (hne : xs ≠ []) (hl : xs.length <= 1000) : cu E fuel uT [a] A = some (.sl (A.length + 1) 0 xs.length, A ++ [.dead, .row 1 false (ag xs)]) := by
 have hne' : ag xs ≠ [] := by simpa [ag] using hne
 have hlen : (ag xs).length = xs.length := by simp [ag]
 rw [bU _ _ rfl]
 obtain ⟨es, hes⟩ : ∃ es, es = ag xs := ⟨_, rfl⟩
 rw [<- hes] at h hne' hlen ⊢
 rw [<- hlen] at hl ⊢
 have hb : es.length * 8 <= 140737488355328 := by omega
 rcases h with h | ⟨id, off, gr, rs, rfl, h1, h2⟩
 ·rcases h with ⟨_, h⟩ | rfl
  ·exact absurd h hne'
  ·simp [uT, gT, aH, aU, hb]
 ·have hid := (List.getElem?_eq_some_iff.1 h1).1
  have h1' : ∀ T, (A ++ T)[id]? = some (.row 1 gr rs) := fun T => by rw [List.getElem?_append_left hid, h1]
  simp [uT, gT, aH, aU, h1', h2, hb]
theorem qo : an Try.prog GC 63 (fun _ => cu (au GC []) 0 uT) := (cI (av az) rfl H4 w9 bC.nil).y
def uF : List (FuncId × aL) := [(62, fun _ => cu (au GC []) 300 pK), (63, fun _ => cu (au GC []) 0 uT)]
@[simp] theorem GH : aB uF 62 = some (fun _ => cu (au GC []) 300 pK) := rfl
@[simp] theorem GG : aB uF 63 = some (fun _ => cu (au GC []) 0 uT) := rfl
theorem rG : ∀ f M, aB uF f = some M -> an Try.prog GC f M := ak qp (ak qo az)
def M26 : aT := fun args => evF (au GC uF) 300 uB 5 args
theorem vw : bk Try.prog GC 56 M26 := bk.of_ev (E := au GC uF) (av rG) rfl Ia xe 5 fun _ _ h => ⟨300, h⟩
theorem BS {n : Nat} {p : Int} {l : List aW} (hp : a8 p) (hv : ∀ x ∈ l, okA n x) (hn32 : n <= 32) (hl200 : l.length <= 200) {lo hi : Int} {s : List Int} (hs : s.length = n) (hb : Bd lo hi s) : Bd lo (hi + 600000000) (jx (lar p l) s) := by
 have hlen : (lar p l).length = l.length := by simp [lar]
 have bd : ∀ i, i <= l.length -> Bd lo (hi + 3000000 * i) (jx ((lar p l).take i) s) := by
  intro i
  induction i with
  | zero => intro _; simpa [jx] using hb
  | succ i ih =>
   intro hi'
   have h1 := ih (by omega)
   have h2 := wj (p := p) (l := l) (i := i) (by omega)
   rw [mO h2]
   have hmem := hv _ (List.getElem_mem (show i < l.length by omega))
   obtain ⟨q1, q2, q3, q4⟩ := hmem
   have hle := dT (n := 32) (a := l[i]) ⟨by omega, by omega, q3, q4⟩ hp
   have := vR (a := (l[i].f.toNat, l[i].t.toNat, l[i].len p)) h1 (by rw [eO]; simp only; omega) (by rw [eO]; simp only; omega) (by simp only; omega)
   intro v hv'
   have := this v hv'
   omega
 have := bd l.length (Nat.le_refl _)
 rw [List.take_of_length_le (by omega)] at this
 intro v hv'
 have := this v hv'
 omega
theorem xL {A : ac} {id n : Nat} {s : List Int} {p : Int} {l : List aW} (hn : s.length = n) (hp : a8 p) (hv : ∀ x ∈ l, okA n x) (hn32 : n <= 32) (hl200 : l.length <= 200) {hi : Int} (hb : Bd (-1000000000000) hi s) (hhi : hi <= 1000000000000) (hid : A[id]? = some (.row 1 false (ag s))) :
  ∃ A', cu (au GC []) 300 pK [cC n p l, .sl id 0 n] A = some (.bool (upL (lar p l) s), A') /\ AU A id (jx (lar p l) s) A' := Fv hn hp hv hn32 hl200 hb hhi hid
def fk (L : List bZ) : Nat -> List Int -> List Int
 | 0, s => s
 | k + 1, s => jx L (fk L k s)
theorem ej (L : List bZ) (s : List Int) : ∀ k, (fk L k s).length = s.length
 | 0 => rfl
 | k + 1 => by rw [fk, eO, ej L s k]
theorem vP {L : List bZ} {s : List Int} (h : upL L s = false) : ∀ k, fk L k s = s
 | 0 => rfl
 | k + 1 => by rw [fk, vP h k, (fI h).1]
theorem jF (L : List bZ) (s : List Int) : ∀ k, fk L (k + 1) s = fk L k (jx L s)
 | 0 => rfl
 | k + 1 => by rw [fk, jF L s k]; rfl
theorem z3 (L : List bZ) : ∀ (m : Nat) (s : List Int), lev L m s = if _h : ∃ k, k < m /\ upL L (fk L k s) = false then (fk L m s, true) else (fk L m s, !upL L (fk L m s))
 | 0, s => by
  rw [dif_neg (by rintro ⟨k, h, _⟩; omega)]; rfl
 | m + 1, s => by
  unfold lev
  by_cases h : upL L s = false
  ·rw [if_pos h, dif_pos ⟨0, by omega, h⟩, vP h]
  ·rw [if_neg h, z3 L m, jF]
   by_cases h2 : ∃ k, k < m /\ upL L (fk L k (jx L s)) = false
   ·rw [dif_pos h2]
    obtain ⟨k, hk, h3⟩ := h2
    rw [dif_pos ⟨k + 1, by omega, by rw [jF]; exact h3⟩]
   ·rw [dif_neg h2, dif_neg]
    rintro ⟨k, hk, h3⟩
    cases k with
    | zero => exact h h3
    | succ k => exact h2 ⟨k, by omega, by rw [jF] at h3; exact h3⟩
theorem lD {n : Nat} {p : Int} {l : List aW} (hr : a6 n l p) : M26 [cC n p l] = some (.tup [slA 1 (ag (a7 (lar p l) n).1), .bool (a7 (lar p l) n).2]) := by
 obtain ⟨⟨hn, hl200, hv⟩, hp⟩ := hr
 have hn32 : n <= 32 := by omega
 obtain ⟨L, hL⟩ : ∃ L, L = lar p l := ⟨_, rfl⟩
 obtain ⟨z, hz⟩ : ∃ z, z = List.replicate n (0 : Int) := ⟨_, rfl⟩
 have hzl : z.length = n := by rw [hz]; simp
 have hbd : ∀ k : Nat, Bd (-1000000000000) (600000000 * k) (fk L k z) := by
  intro k
  induction k with
  | zero =>
   intro v hv'
   have : (fk L 0 z).getD v 0 = 0 := by rw [fk, hz]; exact jA n v
   rw [this]; omega
  | succ k ih =>
   rw [fk]
   have := BS hp hv hn32 hl200 (by rw [ej]; exact hzl) ih
   rw [<- hL] at this
   intro v hv'
   have := this v hv'
   omega
 have h37 : ∀ (A : ac) (k : Nat), k <= 33 -> A[0]? = some (.row 1 false (ag (fk L k z))) -> ∃ A', cu (au GC []) 300 pK [cC n p l, .sl 0 0 n] A = some (.bool (upL L (fk L k z)), A') /\ AU A 0 (fk L (k + 1) z) A' := fun A k hk hA => by
  have := xL (s := fk L k z) (by rw [ej]; exact hzl) hp hv hn32 hl200 (hbd k) (by omega) hA
  rw [<- hL] at this
  exact this
 obtain ⟨W1, O, hW⟩ : ∃ W1 O, cC n p l = .fp [.int .i64 (n : Int), W1, O] := ⟨_, _, rfl⟩
 obtain ⟨o, h1, h2⟩ := da (E := au GC uF) (fuel := 300) (a := m8) (mask := me) (fun k σ A => ∃ i, i + k = n /\ σ = oK (cC n p l) (.sl 0 0 n) (.int .i64 (n : Int)) (.int .i64 (i : Int)) /\ A[0]? = some (.row 1 false (ag (fk L i z))) /\ ∀ j, j < i -> upL L (fk L j z) = true)
  (fun o => (∃ A' i d6 d7 , i < n /\ upL L (fk L i z) = false /\ (∀ j, j < i -> upL L (fk L j z) = true) /\ A'[0]? = some (.row 1 false (ag (fk L (i + 1) z))) /\ o = .ret [cC n p l, .sl 0 0 n, .bool true, .sl 0 0 n, .int .i64 (n : Int), .int .i64 (i : Int), d6, d7] A') \/
   (∃ A', (∀ j, j < n -> upL L (fk L j z) = true) /\ A'[0]? = some (.row 1 false (ag (fk L n z))) /\ o = .exit 0 ((oK (cC n p l) (.sl 0 0 n) (.int .i64 (n : Int)) (.int .i64 (n : Int))).set 6 (.bool false)) A'))
  (by
   rintro k σ A ⟨i, hik, rfl, hA, hup⟩
   rw [AK]
   rw [hW] at h37 ⊢
   by_cases hi' : i < n
   ·obtain ⟨A', c1, c2⟩ := h37 A i (by omega) hA
    have b1 := bc i n .i64
    rw [decide_eq_true hi'] at b1
    have b3 := aK i (by omega)
    obtain ⟨i1, hi1⟩ : ∃ i1 : Nat, i1 = i + 1 := ⟨_, rfl⟩
    rw [<- hi1] at b3
    cases hu : upL L (fk L i z) with
    | true =>
     rw [hu] at c1
     refine .inl ⟨oK (.fp [.int .i64 (n : Int), W1, O]) (.sl 0 0 n) (.int .i64 (n : Int)) (.int .i64 ((i + 1 : Nat) : Int)), A', ?_, k - 1, by omega, i + 1, by omega, rfl, c2.1, fun j hj => ?_⟩
     ·rw [<- hi1]
      simp [m8, b1, b3, c1, -af]
     ·by_cases hji : j = i
      ·rw [hji]; exact hu
      ·exact hup j (by omega)
    | false =>
     rw [hu] at c1
     refine .inr ⟨.ret [.fp [.int .i64 (n : Int), W1, O], .sl 0 0 n, .bool true, .sl 0 0 n, .int .i64 (n : Int), .int .i64 (i : Int), .bool true, .bool true] A', ?_, (fun _ _ h => by cases h), .inl ⟨A', i, _, _, hi', hu, hup, c2.1, rfl⟩⟩
     simp [m8, b1, c1, -af]
   ·obtain rfl : i = n := by omega
    refine .inr ⟨_, ?_, ?_, .inr ⟨A, hup, hA, rfl⟩⟩
    ·simp [m8]
    ·intro _ _ h; cases h)
  300 n (oK (cC n p l) (.sl 0 0 n) (.int .i64 (n : Int)) (.int .i64 0)) [.row 1 false (ag z)] (by omega) ⟨0, by omega, rfl, rfl, fun j hj => by omega⟩
 have mk : bT 1 8 (.int .i64 0) [] (.int .i64 (n : Int)) (.int .i64 (n : Int)) = some (.sl 0 0 n, [.row 1 false (ag z)]) := by
  have : ag z = List.replicate n (.int .i64 0) := by rw [hz]; simp [ag]
  rw [this]; simp [bT]; omega
 have hfz : ∀ (A : ac) (s : List Int), s.length = n -> A[0]? = some (.row 1 false (ag s)) -> frz A 4 (.sl 0 0 n) = slA 1 (ag s) /\ aY A 4 (.sl 0 0 n) = true := fun A s hs h0 => by
  constructor
  ·show frz A (3 + 1) _ = _
   simp only [frz, h0, List.drop_zero]
   rw [List.take_of_length_le (by simp [ag]; omega), qN]
   cases s with
   | nil => simp at hs; omega
   | cons x r => rfl
  ·show aY A (3 + 1) _ = _
   simp only [aY, h0, List.drop_zero]
   rw [List.take_of_length_le (by simp [ag]; omega)]
   exact rk _ _ _
 have hf5 : ∀ (A : ac) (s : List Int) (b : Bool), s.length = n -> A[0]? = some (.row 1 false (ag s)) -> frz A 5 (.tup [.sl 0 0 n, .bool b]) = .tup [slA 1 (ag s), .bool b] /\ aY A 5 (.tup [.sl 0 0 n, .bool b]) = true := fun A s b hs h0 => by
  obtain ⟨q1, q2⟩ := hfz A s hs h0
  constructor
  ·show AV.tup [frz A 4 (.sl 0 0 n), frz A 4 (.bool b)] = _
   rw [q1]; rfl
  ·show [AV.sl 0 0 n, .bool b].all (aY A 4) = true
   simp only [List.all_cons, q2]; rfl
 have p1 : ∀ b, gT [.sl 0 0 n, .bool b] = .tup [.sl 0 0 n, .bool b] := fun _ => rfl
 have hlev : a7 (lar p l) n = lev L n z := by unfold a7; rw [hL, hz]
 rw [hlev, z3]
 unfold M26
 rw [cU _ _ rfl]
 rcases h2 with ⟨A', i, d6, d7, hin, hu, hup, hA', rfl⟩ | ⟨A', hup, hA', rfl⟩
 ·rw [dif_pos ⟨i, hin, hu⟩]
  have hst : fk L n z = fk L (i + 1) z := by
   have e : ∀ k, fk L (i + k) z = fk L i z := fun k => by
    induction k with
    | zero => rfl
    | succ k ih => rw [show i + (k + 1) = (i + k) + 1 by omega, fk, ih, (fI hu).1]
   have h3 := e (n - i)
   have h4 := e 1
   rw [show i + (n - i) = n by omega] at h3
   rw [h3, h4]
  rw [hst]
  obtain ⟨q1, q2⟩ := hf5 A' _ true (by rw [ej]; exact hzl) hA'
  rw [hW] at h1 ⊢
  simp [uB, mk, Aj h1, q1, q2, -frz, -bT]
 ·rw [dif_neg (by
   rintro ⟨k, hk, h⟩
   rw [hup k hk] at h; cases h)]
  obtain ⟨A2, c1, c2⟩ : ∃ A2, cu (au GC []) 300 pK [cC n p l, .sl (A'.length + 1) 0 n] (A' ++ [.dead, .row 1 false (ag (fk L n z))]) = some (.bool (upL L (fk L n z)), A2) /\ AU (A' ++ [.dead, .row 1 false (ag (fk L n z))]) (A'.length + 1) (fk L (n + 1) z) A2 := by
   have := xL (A := A' ++ [.dead, .row 1 false (ag (fk L n z))]) (id := A'.length + 1) (s := fk L n z) (by rw [ej]; exact hzl) hp hv hn32 hl200 (hbd n) (by omega) (by rw [List.getElem?_append_right (by omega)]; simp)
   rw [<- hL] at this
   exact this
  have hlt := (List.getElem?_eq_some_iff.1 hA').1
  have h38 := I7 (au GC []) 0 (A := A') (a := .sl 0 0 n) (xs := fk L n z) (.inr ⟨0, 0, false, ag (fk L n z), by rw [aA, ej, hzl], hA', by rw [List.drop_zero, List.take_length]⟩) (by
   intro h
   have := congrArg List.length h
   rw [ej, hzl] at this
   simp at this; omega) (by rw [ej, hzl]; omega)
  rw [ej, hzl] at h38
  have hA2 : A2[0]? = some (.row 1 false (ag (fk L n z))) := by
   rw [c2.2.2 0 (by omega) (by simp), List.getElem?_append_left hlt, hA']
  obtain ⟨q1, q2⟩ := hf5 A2 _ (!upL L (fk L n z)) (by rw [ej]; exact hzl) hA2
  rw [hW] at h1 c1 ⊢
  simp [uB, mk, Aj h1, h38, c1, q1, q2, -frz, -bT]
abbrev LP := Int × Bool
def lA (x : LP) : AV := .agg [.int .i64 x.1, .bool x.2]
def dN (x : LP) (n : Int) : LP := if x.2 = false /\ x.1 = 0 then x else (x.1 + n, x.2)
def gk (x y : LP) : LP := if x.2 = false \/ (y.2 = true /\ y.1 > x.1) then y else x
def M51 : aT := fun args => match args with
 | [.agg [.int .i64 x, .bool b], .int .i64 n] => if -9223372036854775808 <= x + n /\ x + n <= 9223372036854775807 then some (lA (dN (x, b) n)) else none
 | _ => none
theorem zN : aq Try.prog GC 86 M51 := by
 refine aq.of_ev (E := au GC []) (av az) rfl at51 Ee 2 ?_
 intro args r h
 unfold M51 at h
 split at h
 ·rename_i x b n
  simp only [Option.ite_none_right_eq_some, Option.some.injEq] at h
  obtain ⟨h1, rfl⟩ := h
  refine ⟨0, ?_⟩
  have b1 : af .add (.int .i64 x) (.int .i64 n) = some (.int .i64 (x + n)) := by
   simp only [af]; rw [if_pos trivial, dl h1]
  obtain ⟨z, hz⟩ : ∃ z, z = x + n := ⟨_, rfl⟩
  rw [<- hz] at b1
  rw [aN _ _ rfl]
  unfold dN lA
  simp only [<- hz]
  cases b with
  | true => simp [Ff, b1, -af]
  | false =>
   by_cases hx : x = 0
   ·subst hx
    simp [Ff, -af]
   ·simp [Ff, b1, hx, -af]
 ·cases h
def M52 : aT := fun args => match args with
 | [.agg [.int .i64 x, .bool b], .agg [.int .i64 y, .bool c]] => some (lA (gk (x, b) (y, c)))
 | _ => none
theorem Dm : aq Try.prog GC 88 M52 := by
 refine aq.of_ev (E := au GC []) (av az) rfl at52 Ed 2 ?_
 intro args r h
 unfold M52 at h
 split at h
 ·rename_i x b y c
  injection h with h; subst h
  refine ⟨0, ?_⟩
  have b1 : af .gtr (.int .i64 y) (.int .i64 x) = some (.bool (decide (y > x))) := by simp [af]
  rw [aN _ _ rfl]
  unfold gk lA
  cases b with
  | false => simp [DC, -af]
  | true =>
   cases c with
   | false => simp [DC, -af]
   | true =>
    by_cases hxy : y > x
    ·rw [decide_eq_true hxy] at b1
     simp [DC, b1, hxy, -af]
    ·rw [decide_eq_false hxy] at b1
     simp [DC, b1, hxy, -af]
 ·cases h
def noL : LP := (0, false)
def hst (h : List LP) (next : List LP) (a : bZ) : List LP := next.set a.1 (gk (next.getD a.1 noL) (dN (h.getD a.2.1 noL) a.2.2))
def j7 (L : List bZ) (h : List LP) (n : Nat) : List LP := L.foldl (hst h) (List.replicate n noL)
def hm (L : List bZ) (n to : Nat) : Nat -> List LP
 | 0 => (List.replicate n noL).set to (0, true)
 | j + 1 => j7 L (hm L n to j) n
def uV (L : List bZ) (n to k : Nat) : List AV := (List.range (k + 1)).map fun j => .fs 2 ((hm L n to j).map lA)
theorem sh (h next : List LP) (a : bZ) : (hst h next a).length = next.length := by simp [hst]
theorem gu (h : List LP) : ∀ (L : List bZ) (next : List LP), (L.foldl (hst h) next).length = next.length
 | [], _ => rfl
 | a :: L, next => by rw [List.foldl_cons, gu h L, sh]
theorem tI (L : List bZ) (n to : Nat) : ∀ j, (hm L n to j).length = n
 | 0 => by simp [hm]
 | j + 1 => by simp [hm, j7, gu]
def PB (B : Int) (h : List LP) : Prop := ∀ v, -B <= (h.getD v noL).1 /\ (h.getD v noL).1 <= B
theorem ic {α : Type} (s : List α) (i j : Nat) (x d : α) (hi : i < s.length) : (s.set i x).getD j d = if i = j then x else s.getD j d := by
 rw [List.getD_eq_getElem?_getD, List.getD_eq_getElem?_getD]
 by_cases h : i = j
 ·subst h
  rw [List.getElem?_set_self hi, if_pos rfl]; rfl
 ·rw [List.getElem?_set_ne h, if_neg h]
theorem BZ {B : Int} {x y : LP} (h1 : -B <= x.1 /\ x.1 <= B) (h2 : -B <= y.1 /\ y.1 <= B) : -B <= (gk x y).1 /\ (gk x y).1 <= B := by
 unfold gk; split
 ·exact h2
 ·exact h1
theorem BU {B w : Int} {x : LP} (h1 : -B <= x.1 /\ x.1 <= B) (h2 : -3000000 <= w /\ w <= 3000000) : -(B + 3000000) <= (dN x w).1 /\ (dN x w).1 <= B + 3000000 := by
 unfold dN; split
 ·omega
 ·simp only; omega
theorem DN {B : Int} {h next : List LP} {a : bZ} (h1 : PB B h) (h2 : PB (B + 3000000) next) (hw : -3000000 <= a.2.2 /\ a.2.2 <= 3000000) (hf : a.1 < next.length) : PB (B + 3000000) (hst h next a) := fun v => by
 unfold hst
 rw [ic _ _ _ _ _ hf]
 split
 ·exact BZ (h2 _) (BU (h1 _) hw)
 ·exact h2 v
theorem vO {B : Int} (hB : 0 <= B) (n : Nat) : PB B (List.replicate n noL) := fun v => by
 have : (List.replicate n noL).getD v noL = noL := by
  rw [List.getD_eq_getElem?_getD]
  by_cases h : v < n <;> simp [h]
 rw [this]; simp [noL]; omega
def fC (n : Nat) (L : List bZ) : Prop := ∀ a ∈ L, a.1 < n /\ a.2.1 < n /\ -3000000 <= a.2.2 /\ a.2.2 <= 3000000
theorem lf {n : Nat} {p : Int} {l : List aW} (hn : n <= 32) (hp : a8 p) (hv : ∀ x ∈ l, okA n x) : fC n (lar p l) := fun a ha => by
 obtain ⟨x, hx, rfl⟩ := List.mem_map.1 ha
 obtain ⟨q1, q2, q3, q4⟩ := hv x hx
 have hle := dT (n := 32) (a := x) ⟨by omega, by omega, q3, q4⟩ hp
 simp only
 omega
theorem tO {n : Nat} {B : Int} {h : List LP} (h1 : PB B h) : ∀ {L : List bZ} {next : List LP}, fC n L -> next.length = n -> PB (B + 3000000) next -> PB (B + 3000000) (L.foldl (hst h) next)
 | [], _, _, _, h2 => h2
 | a :: L, next, hL, hn, h2 => by
  rw [List.foldl_cons]
  obtain ⟨q1, q2, q3⟩ := hL a (by simp)
  exact tO h1 (fun b hb => hL b (by simp [hb])) (by rw [sh, hn]) (DN h1 h2 q3 (by omega))
theorem CB {n : Nat} {L : List bZ} (hL : fC n L) (to : Nat) : ∀ j : Nat, PB (3000000 * j) (hm L n to j)
 | 0 => fun v => by
  unfold hm
  by_cases h : to < n
  ·rw [ic _ _ _ _ _ (by simpa using h)]
   split
   ·simp
   ·have := vO (B := 0) (by omega) n v
    omega
  ·rw [List.set_eq_of_length_le (by simp; omega)]
   have := vO (B := 0) (by omega) n v
   omega
 | j + 1 => by
  have h1 := CB hL to j
  have := tO h1 hL (next := List.replicate n noL) (by simp) (vO (by omega) n)
  intro v
  have := this v
  simp only [hm, j7]
  omega
theorem wl {h : List LP} {i : Nat} (hi : i < h.length) : (h.map lA)[i]? = some (.agg [.int .i64 (h.getD i noL).1, .bool (h.getD i noL).2]) := by
 simp [hi, lA]
def In : MC := .region [⟨none, .indexSl 6 (.var 11) (.var 13), none⟩, ⟨none, .load true 6 (.tmp 0), none⟩, ⟨some 7, .alloc 6 (.agg [.int .i64 0, .int .i64 0, .int .i64 0, .int .i64 0, .int .i64 0, .int .i64 0]), none⟩, ⟨none, .store 6 (.var 7) (.tmp 1), none⟩]
def Jb : MC := .region [⟨none, .mv (.var 6), none⟩, ⟨none, .fieldAddr 0 (.var 7), none⟩, ⟨none, .fieldAddr 0 (.tmp 1), none⟩, ⟨none, .load false 1 (.tmp 2), none⟩, ⟨none, .mv (.var 6), none⟩, ⟨none, .fieldAddr 0 (.var 7), none⟩, ⟨none, .fieldAddr 0 (.tmp 5), none⟩, ⟨none, .load false 1 (.tmp 6), none⟩, ⟨none, .indexSl 2 (.tmp 4) (.tmp 7), none⟩, ⟨none, .load true 2 (.tmp 8), none⟩, ⟨none, .mv (.var 5), none⟩, ⟨none, .fieldAddr 0 (.var 7), none⟩, ⟨none, .fieldAddr 1 (.tmp 11), none⟩, ⟨none, .load false 1 (.tmp 12), none⟩, ⟨none, .indexSl 2 (.tmp 10) (.tmp 13), none⟩, ⟨none, .load true 2 (.tmp 14), none⟩, ⟨none, .fieldAddr 5 (.var 7), none⟩, ⟨none, .load false 1 (.tmp 16), none⟩, ⟨none, .call (.fn 86) [.tmp 15, .tmp 17], none⟩, ⟨none, .call (.fn 88) [.tmp 9, .tmp 18], none⟩, ⟨none, .indexSl 2 (.tmp 0) (.tmp 3), none⟩, ⟨none, .store 2 (.tmp 20) (.tmp 19), none⟩]
theorem EB : dQ = .seq (.region [⟨some 14, .bin .lss (.var 13) (.var 12), none⟩]) (.seq (.cond (.var 14) .skip (.exit 2)) (.seq (.seq (.block 3 (.seq In Jb)) (.kill [1, 2, 3, 7, 10, 14])) (.region [⟨none, .bin .add (.var 13) (.cst (.int .i64 1)), none⟩, ⟨some 13, .mv (.tmp 0), none⟩]))) := rfl
def wx : List (FuncId × aL) := [(86, aF 4 M51), (88, aF 4 M52)]
@[simp] theorem Gc : aB wx 86 = some (aF 4 M51) := rfl
@[simp] theorem Gb : aB wx 88 = some (aF 4 M52) := rfl
theorem Br : ∀ f M, aB wx f = some M -> an Try.prog GC f M := ak (an.of_pure zN 4) (ak (an.of_pure Dm 4) az)
theorem r48a (E : Env) (fuel : Nat) (K : List KC) (A : ac) (X : MC) {p : Int} {l : List aW} {i : Nat} (hi : i < l.length) (v0 v4 v5 v6 v8 v9 v12 v14 : AV) :
  run E fuel (.code (.seq In X) :: K) [v0, .undef, .undef, .undef, v4, v5, v6, .undef, v8, v9, .undef, slA 6 (wAs p (num l)), v12, .int .i64 (i : Int), v14] A =
   run E fuel (.code X :: K) [v0, .undef, .undef, .undef, v4, v5, v6, .ptr A.length 0 0, v8, v9, .undef, slA 6 (wAs p (num l)), v12, .int .i64 (i : Int), v14] (A ++ [.row 6 false [wA p (l[i], i)]]) := by
 have x1 := qj p hi A .i64
 obtain ⟨W, hW⟩ : ∃ W, W = slA 6 (wAs p (num l)) := ⟨_, rfl⟩
 rw [<- hW] at x1 ⊢
 simp [In, x1, wA, -ab]
def E4 (A0 : ac) (id : Nat) (A : ac) : Prop := A0.length <= A.length /\ ∀ j, j ≠ id -> j < A0.length -> A[j]? = A0[j]?
theorem DL (h : List LP) (i : Nat) (z : LP) : (h.map lA).set i (lA z) = (h.set i z).map lA := by rw [List.map_set]
theorem BL (fuel : Nat) {A0 A : ac} {n idL idN : Nat} {h nx : List LP} {p : Int} {l : List aW} (hn : h.length = n) (hx : nx.length = n) (hp : a8 p) (hv : ∀ x ∈ l, okA n x) (hn32 : n <= 32) (hl200 : l.length <= 200) {i : Nat} (hi : i < l.length) (hb : PB 1000000000 h) (hLN : idL ≠ idN) (hid : idN < A0.length) (hidL : idL < A0.length) (hL : A0[idL]? = some (.row 2 false (h.map lA))) (hN : A[idN]? = some (.row 2 false (nx.map lA))) (hK : E4 A0 idN A) (v0 v4 v8 v9 : AV) :
  ∃ A', run (au GC wx) fuel [.code dQ] (el v0 v4 (.sl idL 0 n) (.sl idN 0 n) v8 v9 (slA 6 (wAs p (num l))) (.int .i64 (l.length : Int)) (.int .i64 (i : Int))) A = some (.normal (el v0 v4 (.sl idL 0 n) (.sl idN 0 n) v8 v9 (slA 6 (wAs p (num l))) (.int .i64 (l.length : Int)) (.int .i64 ((i + 1 : Nat) : Int))) A') /\
   A'[idN]? = some (.row 2 false ((hst h nx (l[i].f.toNat, l[i].t.toNat, l[i].len p)).map lA)) /\ E4 A0 idN A' := by
 obtain ⟨g2, g3⟩ := hK
 have hmem := hv _ (List.getElem_mem hi)
 obtain ⟨f, hf, hfn⟩ := fN hmem.1
 obtain ⟨t, ht, htn⟩ := fN hmem.2.1
 have hv32 : okA 32 l[i] := by
  obtain ⟨h1, h2, h3, h4⟩ := hmem
  exact ⟨by omega, by omega, h3, h4⟩
 obtain ⟨k1, k2, _, _⟩ := dT hv32 hp
 obtain ⟨w, hw⟩ : ∃ w, w = l[i].len p := ⟨_, rfl⟩
 obtain ⟨B, hB⟩ : ∃ B, B = A ++ [.row 6 false [wA p (l[i], i)]] := ⟨_, rfl⟩
 have r1 := fun K X => r48a (au GC wx) fuel K A X (p := p) hi v0 v4 (.sl idL 0 n) (.sl idN 0 n) v8 v9 (.int .i64 (l.length : Int)) (.bool true)
 rw [<- hB] at r1
 have cN : B[idN]? = some (.row 2 false (nx.map lA)) := by rw [hB, List.getElem?_append_left (by omega)]; exact hN
 have cL : B[idL]? = some (.row 2 false (h.map lA)) := by rw [hB, List.getElem?_append_left (by omega), g3 idL hLN hidL]; exact hL
 have c8 : B[A.length]? = some (.row 6 false [.agg [.int .i64 (f : Int), .int .i64 (t : Int), .int .i64 l[i].w, .int .i64 l[i].k, .int .i64 (i : Int), .int .i64 w]]) := by
  rw [hB, hw]; simp [wA, hf, ht]
 obtain ⟨i8, hi8⟩ : ∃ i8, i8 = A.length := ⟨_, rfl⟩
 rw [<- hi8] at r1 c8
 have hBl : A0.length <= B.length := by rw [hB]; simp; omega
 have hBo : ∀ j, j ≠ idN -> j < A0.length -> B[j]? = A0[j]? := fun j hj hl => by rw [hB, List.getElem?_append_left (by omega)]; exact g3 j hj hl
 rw [<- hw] at k1 k2
 have e1 : l[i].f.toNat = f := by omega
 have e2 : l[i].t.toNat = t := by omega
 rw [e1, e2, <- hw]
 have ef := wl (h := nx) (i := f) (by omega)
 have et := wl (h := h) (i := t) (by omega)
 have bt := hb t
 unfold hst
 simp only
 obtain ⟨x, hx1⟩ : ∃ x, x = nx.getD f noL := ⟨_, rfl⟩
 obtain ⟨y, hy1⟩ : ∃ y, y = h.getD t noL := ⟨_, rfl⟩
 rw [<- hx1] at ef ⊢
 rw [<- hy1] at et bt ⊢
 have m1 : M51 [.agg [.int .i64 y.1, .bool y.2], .int .i64 w] = some (.agg [.int .i64 (dN y w).1, .bool (dN y w).2]) := if_pos (by omega)
 have m2 : M52 [.agg [.int .i64 x.1, .bool x.2], .agg [.int .i64 (dN y w).1, .bool (dN y w).2]] = some (.agg [.int .i64 (gk x (dN y w)).1, .bool (gk x (dN y w)).2]) := rfl
 have b1 := bc i l.length .i64
 rw [decide_eq_true hi] at b1
 have b3 := aK i (by omega)
 obtain ⟨i1, hi1⟩ : ∃ i1 : Nat, i1 = i + 1 := ⟨_, rfl⟩
 rw [<- hi1] at b3 ⊢
 rw [<- DL]
 obtain ⟨q, hq⟩ : ∃ q, q = dN y w := ⟨_, rfl⟩
 rw [<- hq] at m1 m2 ⊢
 obtain ⟨z, hz⟩ : ∃ z, z = gk x q := ⟨_, rfl⟩
 rw [<- hz] at m2 ⊢
 obtain ⟨q1, q2⟩ := q
 obtain ⟨z1, z2⟩ := z
 obtain ⟨x1, x2⟩ := x
 obtain ⟨y1, y2⟩ := y
 simp only at m1 m2 ef et
 obtain ⟨W, hW⟩ : ∃ W, W = slA 6 (wAs p (num l)) := ⟨_, rfl⟩
 rw [<- hW] at r1 ⊢
 obtain ⟨nxa, hnxa⟩ : ∃ nxa, nxa = nx.map lA := ⟨_, rfl⟩
 obtain ⟨ha, hha⟩ : ∃ ha, ha = h.map lA := ⟨_, rfl⟩
 rw [<- hnxa] at cN ef ⊢
 rw [<- hha] at cL et
 have hfn' : f < n := by omega
 have htn' : t < n := by omega
 refine ⟨B.set idN (.row 2 false (nxa.set f (lA (z1, z2)))), ?_, ?_, ?_, ?_⟩
 ·rw [EB]
  simp [b1, b3, r1, Jb, cN, cL, c8, ef, et, m1, m2, hfn', htn', lA, -af]
 ·exact List.getElem?_set_self (by omega)
 ·simp; omega
 ·intro j hj hl
  rw [List.getElem?_set_ne (Ne.symm hj)]; exact hBo j hj hl
theorem DF (fuel : Nat) {A : ac} {n idL idN : Nat} {h : List LP} {p : Int} {l : List aW} (hn : h.length = n) (hp : a8 p) (hv : ∀ x ∈ l, okA n x) (hn32 : n <= 32) (hl200 : l.length <= 200) (hf : 200 < fuel) (hb : PB 1000000000 h) (hLN : idL ≠ idN) (hL : A[idL]? = some (.row 2 false (h.map lA))) (hN : A[idN]? = some (.row 2 false ((List.replicate n noL).map lA))) (v0 v4 v8 v9 : AV) :
  ∃ A', bg (evC (au GC wx) fuel dQ) du fuel (el v0 v4 (.sl idL 0 n) (.sl idN 0 n) v8 v9 (slA 6 (wAs p (num l))) (.int .i64 (l.length : Int)) (.int .i64 0)) A = some (.exit 2 ((el v0 v4 (.sl idL 0 n) (.sl idN 0 n) v8 v9 (slA 6 (wAs p (num l))) (.int .i64 (l.length : Int)) (.int .i64 (l.length : Int))).set 14 (.bool false)) A') /\
   A'[idN]? = some (.row 2 false ((j7 (lar p l) h n).map lA)) /\ E4 A idN A' := by
 have hidN := (List.getElem?_eq_some_iff.1 hN).1
 have hidL := (List.getElem?_eq_some_iff.1 hL).1
 have hlen : (lar p l).length = l.length := by simp [lar]
 obtain ⟨o, h1, A', h2, h3, h4⟩ := da (E := au GC wx) (fuel := fuel) (a := dQ) (mask := du) (fun k σ B => ∃ i, i + k = l.length /\ σ = el v0 v4 (.sl idL 0 n) (.sl idN 0 n) v8 v9 (slA 6 (wAs p (num l))) (.int .i64 (l.length : Int)) (.int .i64 (i : Int)) /\ B[idN]? = some (.row 2 false ((((lar p l).take i).foldl (hst h) (List.replicate n noL)).map lA)) /\ E4 A idN B)
  (fun o => ∃ A', A'[idN]? = some (.row 2 false ((j7 (lar p l) h n).map lA)) /\ E4 A idN A' /\ o = .exit 2 ((el v0 v4 (.sl idL 0 n) (.sl idN 0 n) v8 v9 (slA 6 (wAs p (num l))) (.int .i64 (l.length : Int)) (.int .i64 (l.length : Int))).set 14 (.bool false)) A')
  (by
   rintro k σ B ⟨i, hik, rfl, hN', hK⟩
   rw [qZ]
   by_cases hi' : i < l.length
   ·obtain ⟨B', c1, c2, c3⟩ := BL fuel (n := n) hn (by rw [gu]; simp) hp hv hn32 hl200 hi' hb hLN hidN hidL hL hN' hK v0 v4 v8 v9
    refine .inl ⟨_, _, c1, k - 1, by omega, i + 1, by omega, rfl, ?_, c3⟩
    rw [c2, List.take_succ_eq_append_getElem (by omega), List.foldl_append]
    simp [lar]
   ·obtain rfl : i = l.length := by omega
    refine .inr ⟨_, ?_, ?_, B, ?_, hK, rfl⟩
    ·simp [dQ]
    ·intro _ _ h; cases h
    ·rw [hN', List.take_of_length_le (by omega)]; rfl)
  fuel l.length _ A (by omega) ⟨0, by omega, rfl, by simpa using hN, Nat.le_refl _, fun _ _ _ => rfl⟩
 exact ⟨A', by rw [<- h4]; exact h1, h2, h3⟩
def Dd (L : List bZ) (n to i : Nat) (A : ac) : Prop := ∃ (gr : Bool) (os : List AV), A[1]? = some (.row 1 gr os) /\ os.length = i + 1 /\ ∀ j, j <= i -> ∃ id, os[j]? = some (.sl id 0 n) /\ id ≠ 1 /\ A[id]? = some (.row 2 false ((hm L n to j).map lA))
theorem yy (fuel : Nat) {A : ac} {n to i : Nat} {p : Int} {l : List aW} (h1n : 1 <= n) (hp : a8 p) (hv : ∀ x ∈ l, okA n x) (hn32 : n <= 32) (hl200 : l.length <= 200) (hf : 200 < fuel) {k : Nat} (hi : i < k) (hk : k <= 32) (hI : Dd (lar p l) n to i A) :
  ∃ A', run (au GC wx) fuel [.code mZ] (mE (cC n p l) (.sl 1 0 (i + 1)) (.int .i64 (k : Int)) (.int .i64 (i : Int))) A = some (.normal (mE (cC n p l) (.sl 1 0 (i + 1 + 1)) (.int .i64 (k : Int)) (.int .i64 ((i + 1 : Nat) : Int))) A') /\ Dd (lar p l) n to (i + 1) A' := by
 obtain ⟨gr, os, g1, g2, g3⟩ := hI
 obtain ⟨id, hid, hid1, hrow⟩ := g3 i (Nat.le_refl _)
 have hid2 := (List.getElem?_eq_some_iff.1 hrow).1
 have h1A := (List.getElem?_eq_some_iff.1 g1).1
 obtain ⟨B, hB⟩ : ∃ B, B = A ++ [.row 2 false ((List.replicate n noL).map lA)] := ⟨_, rfl⟩
 have hBN : B[A.length]? = some (.row 2 false ((List.replicate n noL).map lA)) := by rw [hB]; simp
 have hBo : ∀ j, j < A.length -> B[j]? = A[j]? := fun j hj => by rw [hB, List.getElem?_append_left hj]
 have hBl : B.length = A.length + 1 := by rw [hB]; simp
 have hok := lf hn32 hp hv
 have hpb := CB hok to i
 have hpb' : PB 1000000000 (hm (lar p l) n to i) := fun v => by have := hpb v; omega
 have mk : bT 2 16 (.agg [.int .i64 0, .bool false]) A (.int .i64 (n : Int)) (.int .i64 (n : Int)) = some (.sl A.length 0 n, B) := by
  rw [hB]; simp [bT, lA, noL]; omega
 obtain ⟨C, c1, c2, c3⟩ := DF fuel (A := B) (n := n) (idL := id) (idN := A.length) (tI _ n to i) hp hv hn32 hl200 hf hpb' (by omega) (by rw [hBo id hid2]; exact hrow) hBN (cC n p l) (.sl 1 0 (i + 1)) (.int .i64 (k : Int)) (.int .i64 (i : Int))
 have hC1 : C[1]? = some (.row 1 gr os) := by rw [c3.2 1 (by omega) (by omega), hBo 1 h1A]; exact g1
 obtain ⟨nid, hnid⟩ : ∃ nid, nid = A.length := ⟨_, rfl⟩
 have hC1l := (List.getElem?_eq_some_iff.1 hC1).1
 obtain ⟨D, hD⟩ : ∃ D, D = C ++ [.row 1 false [.sl A.length 0 n]] := ⟨_, rfl⟩
 have hDo : ∀ j, j < C.length -> D[j]? = C[j]? := fun j hj => by rw [hD, List.getElem?_append_left hj]
 have hDl : D.length = C.length + 1 := by rw [hD]; simp
 have hDn : D[C.length]? = some (.row 1 false [.sl A.length 0 n]) := by rw [hD]; simp
 have ap : aH 1 24 D (.sl 1 0 (i + 1)) (.sl C.length 0 1) = some (.sl 1 0 (i + 1 + 1), D.set 1 (.row 1 true (os ++ [.sl A.length 0 n]))) := by
  simp [aH, aU, hDn, hDo 1 hC1l, hC1, g2]
  omega
 have b0 : af .sub (.int .i64 ((i + 1 : Nat) : Int)) (.int .i64 1) = some (.int .i64 (i : Int)) := by
  simp only [af]; rw [if_pos trivial, dl (by unfold inI; omega)]; congr 2; omega
 have b1 := bc i k .i64
 rw [decide_eq_true hi] at b1
 have b3 := aK i (by omega)
 have hlen2 : aj (slA 6 (wAs p (num l))) = some (.int .i64 (l.length : Int)) := by rw [pM, pw]
 have hne : ¬ 1 = A.length := by omega
 refine ⟨D.set 1 (.row 1 true (os ++ [.sl A.length 0 n])), ?_, true, os ++ [.sl A.length 0 n], ?_, ?_, ?_⟩
 ·obtain ⟨W1, hW⟩ : ∃ W1, W1 = slA 6 (wAs p (num l)) := ⟨_, rfl⟩
  obtain ⟨O, hO⟩ : ∃ O, cC n p l = .fp [.int .i64 (n : Int), W1, O] := ⟨_, by rw [hW]; rfl⟩
  rw [<- hW] at c1 hlen2
  rw [hO] at c1 ⊢
  rw [hD] at ap ⊢
  rw [<- hnid] at c1 ap hne mk ⊢
  obtain ⟨i1, hi1⟩ : ∃ i1 : Nat, i1 = i + 1 := ⟨_, rfl⟩
  rw [<- hi1] at b0 b3 c1 ap ⊢
  have hii : i < i1 := by omega
  have hls : aj (.sl 1 0 i1) = some (.int .i64 (i1 : Int)) := rfl
  simp [mZ, hls, b0, b1, b3, g1, hid, mk, tJ c1, ap, hlen2, hne, hii, hnid.symm, -af, -bT, -aj]
 ·exact List.getElem?_set_self (by omega)
 ·simp [g2]
 ·intro j hj
  have hcl := c3.1
  by_cases hji : j = i + 1
  ·subst hji
   refine ⟨A.length, by simp [<- g2], by omega, ?_⟩
   rw [List.getElem?_set_ne (by omega), hDo _ (by omega)]; exact c2
  ·obtain ⟨jd, q1, q2, q3⟩ := g3 j (by omega)
   have hjd := (List.getElem?_eq_some_iff.1 q3).1
   refine ⟨jd, by rw [List.getElem?_append_left (by omega)]; exact q1, q2, ?_⟩
   rw [List.getElem?_set_ne (Ne.symm q2), hDo jd (by omega), c3.2 jd (by omega) (by omega), hBo jd hjd]; exact q3
def M48 : aT := fun args => evF (au GC wx) 300 zS 5 args
theorem Bi : bk Try.prog GC 83 M48 := bk.of_ev (E := au GC wx) (av Br) rfl HS wQ 5 fun _ _ h => ⟨300, h⟩
theorem DX (A : ac) (n : Nat) (h : List LP) : (h.map lA).map (frz A (n + 1)) = h.map lA := by
 rw [List.map_map]; apply List.map_congr_left; intro x _; cases n <;> rfl
theorem Dd.frz {L : List bZ} {n to i : Nat} {A : ac} (h : Dd L n to i A) (k : Nat) : Proofs.Ytemklhljjaniaaa.frz A (k + 3) (.sl 1 0 (i + 1)) = .fs 1 (uV L n to i) /\ aY A (k + 3) (.sl 1 0 (i + 1)) = true := by
 obtain ⟨gr, os, g1, g2, g3⟩ := h
 constructor
 ·show Proofs.Ytemklhljjaniaaa.frz A (k + 2 + 1) _ = _
  simp only [Proofs.Ytemklhljjaniaaa.frz, g1, List.drop_zero]
  rw [List.take_of_length_le (by omega)]
  congr 1
  apply List.ext_getElem (by simp [g2, uV])
  intro j h1 h2
  obtain ⟨id, q1, q2, q3⟩ := g3 j (by simp [uV] at h2; omega)
  have e : os[j]'(by simpa using h1) = .sl id 0 n := by
   rw [List.getElem?_eq_getElem (by simpa using h1)] at q1; exact Option.some.inj q1
  simp only [List.getElem_map, e, uV, List.getElem_range]
  show Proofs.Ytemklhljjaniaaa.frz A (k + 1 + 1) _ = _
  simp only [Proofs.Ytemklhljjaniaaa.frz, q3, List.drop_zero]
  rw [List.take_of_length_le (by simp [tI]), DX]
 ·show aY A (k + 2 + 1) _ = _
  simp only [aY, g1, List.drop_zero]
  rw [List.take_of_length_le (by omega), List.all_eq_true]
  intro x hx
  obtain ⟨j, hj, rfl⟩ := List.mem_iff_getElem.1 hx
  obtain ⟨id, q1, q2, q3⟩ := g3 j (by omega)
  have e : os[j] = .sl id 0 n := by
   rw [List.getElem?_eq_getElem hj] at q1; exact Option.some.inj q1
  rw [e]
  show aY A (k + 1 + 1) _ = _
  simp only [aY, q3, List.drop_zero]
  rw [List.take_of_length_le (by simp [tI]), List.all_eq_true]
  intro y hy
  obtain ⟨z, _, rfl⟩ := List.mem_map.1 hy
  cases k <;> simp [lA, aY]
theorem t8 {n to : Nat} {p : Int} {l : List aW} (hr : a6 n l p) (hto : to < n) {k : Nat} (hk : k <= 32) : M48 [cC n p l, .int .i64 (to : Int), .int .i64 (k : Int)] = some (.fs 1 (uV (lar p l) n to k)) := by
 obtain ⟨⟨hn, hl200, hv⟩, hp⟩ := hr
 have hn32 : n <= 32 := by omega
 obtain ⟨z, hz⟩ : ∃ z, z = (List.replicate n noL).map lA := ⟨_, rfl⟩
 have mk : bT 2 16 (.agg [.int .i64 0, .bool false]) [] (.int .i64 (n : Int)) (.int .i64 (n : Int)) = some (.sl 0 0 n, [.row 2 false z]) := by
  rw [hz]; simp [bT, lA, noL]; omega
 have hz2 : z.set to (.agg [.int .i64 0, .bool true]) = (hm (lar p l) n to 0).map lA := by
  rw [hz]; unfold hm; rw [List.map_set]; rfl
 have hzl : z.length = n := by rw [hz]; simp
 have hz3 : z[to]? = some (.agg [.int .i64 0, .bool false]) := by
  rw [hz]; simp [hto, lA, noL]
 obtain ⟨o, h1, A', h2, rfl⟩ := da (E := au GC wx) (fuel := 300) (a := mZ) (mask := l9) (fun m σ A => ∃ i, i + m = k /\ σ = mE (cC n p l) (.sl 1 0 (i + 1)) (.int .i64 (k : Int)) (.int .i64 (i : Int)) /\ Dd (lar p l) n to i A)
  (fun o => ∃ A', Dd (lar p l) n to k A' /\ o = .exit 0 ((mE (cC n p l) (.sl 1 0 (k + 1)) (.int .i64 (k : Int)) (.int .i64 (k : Int))).set 10 (.bool false)) A')
  (by
   rintro m σ A ⟨i, him, rfl, hI⟩
   rw [AF]
   by_cases hi' : i < k
   ·obtain ⟨A', c1, c2⟩ := yy 300 (by omega) hp hv hn32 hl200 (by omega) hi' hk hI
    exact .inl ⟨_, _, c1, m - 1, by omega, i + 1, by omega, rfl, c2⟩
   ·obtain rfl : i = k := by omega
    refine .inr ⟨_, ?_, ?_, A, hI, rfl⟩
    ·simp [mZ]
    ·intro _ _ h; cases h)
  300 k (mE (cC n p l) (.sl 1 0 1) (.int .i64 (k : Int)) (.int .i64 0)) [.row 2 false ((hm (lar p l) n to 0).map lA), .row 1 false [.sl 0 0 n]] (by omega) ⟨0, by omega, rfl, false, [.sl 0 0 n], rfl, rfl, fun j hj => by
   obtain rfl : j = 0 := by omega
   exact ⟨0, rfl, by omega, rfl⟩⟩
 obtain ⟨q1, q2⟩ := h2.frz 2
 unfold M48
 rw [cU _ _ rfl]
 rw [<- hz2] at h1
 have p1 : gT [.sl 1 0 (k + 1)] = .sl 1 0 (k + 1) := rfl
 obtain ⟨W1, O, hO⟩ : ∃ W1 O, cC n p l = .fp [.int .i64 (n : Int), W1, O] := ⟨_, _, rfl⟩
 rw [hO] at h1 ⊢
 simp [zS, mk, hz3, hto, DO h1, q1, q2, -frz, -bT]
def gH (h : List LP) (p sum : Int) (x : eM) : Bool := (dN (h.getD x.1.t.toNat noL) (sum + x.1.len p)).2 && decide ((dN (h.getD x.1.t.toNat noL) (sum + x.1.len p)).1 > 0)
def Fl : List (FuncId × aL) := [(86, aF 4 M51)]
@[simp] theorem F9 : aB Fl 86 = some (aF 4 M51) := rfl
theorem Bp : ∀ f M, aB Fl f = some M -> an Try.prog GC f M := ak (an.of_pure zN 4) az
def M50 : aT := fun args => evP (au GC Fl) 0 Fg 1 args
theorem Dn : aq Try.prog GC 85 M50 := aq.of_ev (E := au GC Fl) (av Bp) rfl at50 Ef 1 fun _ _ h => ⟨0, h⟩
def uU (hs : List (List LP)) : AV := .fs 1 (hs.map fun h => .fs 2 (h.map lA))
def DY (hs : List (List LP)) (left sum : Int) : AV := .func (.func 85) [] [.fp [uU hs], .fp [.int .i64 left], .fp [.int .i64 sum]]
theorem EN {hs : List (List LP)} {left t : Nat} {h : List LP} {p sum : Int} {x : eM} (hh : hs[left]? = some h) (ht : x.1.t = (t : Int)) (hth : t < h.length) (hpb : PB 1000000000 h) (hs1 : -1000000000 <= sum /\ sum <= 1000000000) (hw : -3000000 <= x.1.len p /\ x.1.len p <= 3000000) :
  M50 [wA p x, .fp [uU hs], .fp [.int .i64 left], .fp [.int .i64 sum]] = some (.bool (gH h p sum x)) := by
 unfold gH
 have e1 : x.1.t.toNat = t := by omega
 rw [e1]
 have et := wl hth
 have bt := hpb t
 obtain ⟨y, hy1⟩ : ∃ y, y = h.getD t noL := ⟨_, rfl⟩
 rw [<- hy1] at et bt ⊢
 obtain ⟨w, hw1⟩ : ∃ w, w = x.1.len p := ⟨_, rfl⟩
 rw [<- hw1] at hw ⊢
 have m1 : M51 [.agg [.int .i64 y.1, .bool y.2], .int .i64 (sum + w)] = some (.agg [.int .i64 (dN y (sum + w)).1, .bool (dN y (sum + w)).2]) := if_pos (by omega)
 have b2 : af .add (.int .i64 sum) (.int .i64 w) = some (.int .i64 (sum + w)) := by
  simp only [af]; rw [if_pos trivial, dl (by unfold inI; omega)]
 have hx : wA p x = .agg [.int .i64 x.1.f, .int .i64 (t : Int), .int .i64 x.1.w, .int .i64 x.1.k, .int .i64 (x.2 : Int), .int .i64 w] := by unfold wA; rw [ht, hw1]
 rw [hx]
 have hix : ∀ A, ab 1 A (uU hs) (.int .i64 (left : Int)) = some (.fp [.fs 2 (h.map lA)]) := fun A =>
  (show SlA 1 (hs.map fun h => .fs 2 (h.map lA)) (uU hs) from .inr rfl).index1 (A := A) (by simp [hh]) rfl rfl .i64
 have hix2 : ∀ A, ab 2 A (.fs 2 (h.map lA)) (.int .i64 (t : Int)) = some (.fp [.int .i64 y.1, .bool y.2]) := fun A =>
  (show SlA 2 (h.map lA) (.fs 2 (h.map lA)) from .inr rfl).index (A := A) (i := t) et rfl (by omega) .i64
 obtain ⟨HT, hHT⟩ : ∃ HT, uU hs = .fs 1 HT := ⟨_, rfl⟩
 rw [hHT] at hix ⊢
 obtain ⟨s, hs'⟩ : ∃ s, s = sum + w := ⟨_, rfl⟩
 rw [<- hs'] at m1 b2 ⊢
 obtain ⟨q, hq⟩ : ∃ q, q = dN y s := ⟨_, rfl⟩
 rw [<- hq] at m1 ⊢
 have b3 : af .gtr (.int .i64 q.1) (.int .i64 0) = some (.bool (decide (q.1 > 0))) := by simp [af]
 obtain ⟨q1, q2⟩ := q
 obtain ⟨y1, y2⟩ := y
 simp only at m1 b3 hix2
 unfold M50
 rw [aN _ _ rfl]
 cases q2
 ·simp [Fg, hix, hix2, b2, m1, -af, -ab]
 ·simp [Fg, hix, hix2, b2, b3, m1, -af, -ab]
def As : List (FuncId × aL) := [(85, aF 4 M50)]
@[simp] theorem Ga : aB As 85 = some (aF 4 M50) := rfl
theorem Bq : ∀ f M, aB As f = some M -> an Try.prog GC f M := ak (an.of_pure Dn 4) az
def M49 : aT := fun args => evP (au GC As) 300 Fh 1 args
theorem Do : aq Try.prog GC 84 M49 := aq.of_ev (E := au GC As) (av Bq) rfl at49 Eg 1 fun _ _ h => ⟨300, h⟩
theorem EO {hs : List (List LP)} {left : Nat} {h : List LP} {p sum : Int} {xs : List eM} {ch : AV} (hch : SlA 6 (wAs p xs) ch) (hl : xs.length <= 200) (hh : hs[left]? = some h) (ht : ∀ x ∈ xs, 0 <= x.1.t /\ x.1.t < (h.length : Int)) (hpb : PB 1000000000 h) (hs1 : -1000000000 <= sum /\ sum <= 1000000000) (hw : ∀ x ∈ xs, -3000000 <= x.1.len p /\ x.1.len p <= 3000000) :
  M49 [ch, DY hs left sum] = some (.int .i64 (cy (gH h p sum) xs)) := by
 have hlen := hch.len
 have hlen' : (wAs p xs).length = xs.length := by simp [wAs]
 rw [hlen'] at hlen
 obtain ⟨F, hF⟩ : ∃ F, F = DY hs left sum := ⟨_, rfl⟩
 have round : ∀ (A : ac) (i : Nat) (hi : i < xs.length), run (au GC As) 300 [.code iT] (kJ ch F (.int .i64 (xs.length : Int)) (.int .i64 (i : Int))) A =
   if gH h p sum xs[i] = false then some (.normal (kJ ch F (.int .i64 (xs.length : Int)) (.int .i64 ((i + 1 : Nat) : Int))) A) else some (.ret [ch, F, .int .i64 (i : Int), .int .i64 (i : Int), .int .i64 (xs.length : Int), .int .i64 (i : Int), .bool true, .bool true] A) := fun A i hi => by
  have hmem := List.getElem_mem hi
  obtain ⟨t, ht1, ht2⟩ : ∃ t : Nat, xs[i].1.t = (t : Int) /\ t < h.length := by
   have := ht _ hmem
   exact ⟨xs[i].1.t.toNat, by omega, by omega⟩
  have x1 : ab 6 A ch (.int .i64 (i : Int)) = some (.fp [.int .i64 xs[i].1.f, .int .i64 xs[i].1.t, .int .i64 xs[i].1.w, .int .i64 xs[i].1.k, .int .i64 (xs[i].2 : Int), .int .i64 (xs[i].1.len p)]) :=
   hch.index (A := A) (i := i) (x := wA p xs[i]) (by simp [wAs, hi]) rfl (by omega) .i64
  have m := EN (p := p) hh ht1 ht2 hpb hs1 (hw _ hmem)
  unfold wA at m
  have b1 := bc i xs.length .i64
  rw [decide_eq_true hi] at b1
  have b3 := aK i (by omega)
  obtain ⟨i1, hi1⟩ : ∃ i1 : Nat, i1 = i + 1 := ⟨_, rfl⟩
  rw [<- hi1] at b3 ⊢
  obtain ⟨d, hd⟩ : ∃ d, d = gH h p sum xs[i] := ⟨_, rfl⟩
  rw [<- hd] at m ⊢
  rw [hF]
  obtain ⟨HT, hHT⟩ : ∃ HT, uU hs = .fs 1 HT := ⟨_, rfl⟩
  have fz : ∀ B n, frz B n (.fs 1 HT) = .fs 1 HT := fun B n => by cases n <;> rfl
  unfold DY
  rw [hHT] at m ⊢
  cases d with
  | false => simp [iT, x1, m, b1, b3, -af, -ab, -aj]
  | true => simp [iT, x1, m, b1, -af, -ab, -aj]
 unfold M49
 rw [aN _ _ rfl, <- hF]
 rcases bz (E := au GC As) (fuel := 300) (a := iT) (mask := iD) (fun i => kJ ch F (.int .i64 (xs.length : Int)) (.int .i64 (i : Int))) (fun _ => []) xs.length (fun i => ¬ ∀ hi : i < xs.length, gH h p sum xs[i] = false)
  (oF := fun i => .ret [ch, F, .int .i64 (i : Int), .int .i64 (i : Int), .int .i64 (xs.length : Int), .int .i64 (i : Int), .bool true, .bool true] []) (oE := .exit 0 ((kJ ch F (.int .i64 (xs.length : Int)) (.int .i64 (xs.length : Int))).set 6 (.bool false)) [])
  (fun _ => AE) (fun _ _ _ h => by cases h) (fun _ _ h => by cases h)
  (fun i hi hp => by
   rw [round [] i hi]
   exact if_pos (Classical.not_not.1 hp hi))
  (fun i hi hp => by
   rw [round [] i hi]
   exact if_neg fun h => hp fun _ => h)
  (by simp [iT]) (show xs.length < 300 by omega) with ⟨i, hi, hp, hj, lp⟩ | ⟨hp, lp⟩
 ·have lp : bg (evC (au GC As) 300 iT) iD 300 (kJ ch F (.int .i64 (xs.length : Int)) (.int .i64 0)) [] = _ := lp
  have e : cy (gH h p sum) xs = (i : Int) := a9 hi (by
   cases h' : gH h p sum xs[i] with
   | true => rfl
   | false => exact absurd (fun _ => h') hp) (fun j hj' => Classical.not_not.1 (hj j hj') (by omega))
  rw [e]
  simp [Fh, hlen, Ac lp, -af, -aj]
 ·have lp : bg (evC (au GC As) 300 iT) iD 300 (kJ ch F (.int .i64 (xs.length : Int)) (.int .i64 0)) [] = _ := lp
  have e : cy (gH h p sum) xs = -1 := ba fun i hi => Classical.not_not.1 (hp i hi) hi
  rw [e]
  simp [Fh, hlen, Ac lp, -af, -aj]
def gL (p : Int) (l : List aW) (hs : Nat -> List LP) : Nat -> Int -> List eM -> List Int -> Option (List Int)
 | 0, _, _, out => some out
 | r + 1, sum, ch, out => match ch.find? (gH (hs r) p sum) with
  | none => none
  | some b => gL p l hs r (sum + b.1.len p) (jI l b.1.t.toNat) (out ++ [(b.2 : Int)])
def jv (A : ac) (s : AV) (xs : List Int) : Prop := (s = .nilS /\ xs = []) \/ ∃ id gr, s = .sl id 0 xs.length /\ xs ≠ [] /\ 5 <= id /\ A[id]? = some (.row 1 gr (ag xs))
theorem jv.keep {A B : ac} {s : AV} {xs : List Int} (h : jv A s xs) (hAB : ∀ id, id ∈ a5 s -> B[id]? = A[id]?) : jv B s xs := by
 rcases h with h | ⟨id, gr, rfl, h1, h2, h3⟩
 ·exact .inl h
 ·exact .inr ⟨id, gr, rfl, h1, h2, by rw [hAB id (by simp [a5]), h3]⟩
theorem jv.low {A : ac} {s : AV} {xs : List Int} (h : jv A s xs) : ∀ id, id ∈ a5 s -> 5 <= id /\ id < A.length := by
 rcases h with ⟨rfl, _⟩ | ⟨id, gr, rfl, h1, h2, h3⟩
 ·intro id h; simp [a5] at h
 ·intro j hj
  simp only [a5, List.mem_singleton] at hj
  subst hj
  exact ⟨h2, (List.getElem?_eq_some_iff.1 h3).1⟩
theorem jv.form2 {A : ac} {s : AV} {xs : List Int} (h : jv A s xs) : s = .nilS \/ ∃ i k, s = .sl i 0 k := by
 rcases h with ⟨rfl, _⟩ | ⟨id, gr, rfl, _⟩
 ·exact .inl rfl
 ·exact .inr ⟨_, _, rfl⟩
theorem jv.append {A : ac} {s : AV} {xs : List Int} (h : jv A s xs) (z : Int) (hA : 5 <= A.length) (hl : xs.length <= 1000) :
  ∃ s' k A', aH 1 8 A s (.fs 1 [.int .i64 z]) = some (.sl s' 0 k, A') /\ jv A' (.sl s' 0 k) (xs ++ [z]) /\ A.length <= A'.length /\ (∀ j, j < A.length -> j ∉ a5 s -> A'[j]? = A[j]?) /\ (s' ∈ a5 s \/ s' = A.length) := by
 rcases h with ⟨rfl, rfl⟩ | ⟨id, gr, rfl, h1, h2, h3⟩
 ·refine ⟨A.length, 1, A ++ [.row 1 false [.int .i64 z]], by simp [aH, aU], .inr ⟨A.length, false, rfl, by simp, hA, by simp [ag]⟩, by simp, fun j hj _ => by rw [List.getElem?_append_left hj], .inr rfl⟩
 ·have hid := (List.getElem?_eq_some_iff.1 h3).1
  refine ⟨id, (xs ++ [z]).length, A.set id (.row 1 true (ag (xs ++ [z]))), ?_, .inr ⟨id, true, rfl, by simp, h2, by simp [hid]⟩, by simp, fun j hj hn => ?_, .inl (by simp [a5])⟩
  ·simp only [aH, aU, h3]
   simp [h1, ag]
   omega
  ·rw [List.getElem?_set_ne (fun e => hn (by simp [a5, e]))]
theorem jv.out {A : ac} {s : AV} {xs : List Int} (h : jv A s xs) (k : Nat) : frz A (k + 1) s = slA 1 (ag xs) /\ aY A (k + 1) s = true := by
 rcases h with ⟨rfl, rfl⟩ | ⟨id, gr, rfl, h1, h2, h3⟩
 ·exact ⟨rfl, rfl⟩
 ·constructor
  ·simp only [frz, h3, List.drop_zero]
   rw [List.take_of_length_le (by simp [ag]), qN]
   cases xs with
   | nil => exact absurd rfl h1
   | cons x r => rfl
  ·simp only [aY, h3, List.drop_zero]
   rw [List.take_of_length_le (by simp [ag])]
   exact rk _ _ _
def Chs (A : ac) (v : AV) (xs : List AV) : Prop := SlA 6 xs v \/ (v = .sl 3 0 xs.length /\ A[3]? = some (.row 6 false xs))
def uW : List (FuncId × aL) := [(84, aF 4 M49)]
@[simp] theorem Gj : aB uW 84 = some (aF 4 M49) := rfl
theorem Bu : ∀ f M, aB uW f = some M -> an Try.prog GC f M := ak (an.of_pure Do 4) az
def Iw : MC := .region [⟨none, .load false 1 (.var 11), none⟩, ⟨some 14, .bin .geq (.tmp 0) (.cst (.int .i64 0)), none⟩]
def Iv : MC := .region [⟨none, .mv (.var 10), none⟩, ⟨none, .makeFunc (.func 85) [] [.var 5, .var 11, .var 9], none⟩, ⟨none, .call (.fn 84) [.tmp 0, .tmp 1], none⟩, ⟨some 12, .mv (.tmp 2), none⟩]
def Iu : MC := .region [⟨none, .mv (.var 12), none⟩, ⟨some 15, .bin .lss (.tmp 0) (.cst (.int .i64 0)), none⟩]
def Jc : MC := .region [⟨some 6, .mv (.cst .nilS), none⟩, ⟨some 7, .mv (.cst (.bool false)), none⟩]
def It : MC := .region [⟨none, .mv (.var 10), none⟩, ⟨none, .mv (.var 12), none⟩, ⟨none, .indexSl 6 (.tmp 0) (.tmp 1), none⟩, ⟨none, .load true 6 (.tmp 2), none⟩, ⟨some 13, .alloc 6 (.agg [.int .i64 0, .int .i64 0, .int .i64 0, .int .i64 0, .int .i64 0, .int .i64 0]), none⟩, ⟨none, .store 6 (.var 13) (.tmp 3), none⟩]
def FH : MC := .regionD [] [⟨none, .mv (.var 8), none⟩, ⟨none, .fieldAddr 4 (.var 13), none⟩, ⟨none, .load false 1 (.tmp 1), none⟩, ⟨none, .buildF 1 [.tmp 2], none⟩, ⟨none, .append 1 8 (.tmp 0) (.tmp 3), none⟩, ⟨none, .load false 1 (.var 9), none⟩, ⟨none, .fieldAddr 5 (.var 13), none⟩, ⟨none, .load false 1 (.tmp 6), none⟩, ⟨none, .bin .add (.tmp 5) (.tmp 7), none⟩, ⟨none, .mv (.var 0), none⟩, ⟨none, .nilCheck (.tmp 9), none⟩, ⟨none, .fieldAddr 2 (.tmp 10), none⟩, ⟨none, .load false 1 (.tmp 11), none⟩, ⟨none, .fieldAddr 0 (.var 13), none⟩, ⟨none, .fieldAddr 1 (.tmp 13), none⟩, ⟨none, .load false 1 (.tmp 14), none⟩, ⟨none, .indexSl 1 (.tmp 12) (.tmp 15), none⟩, ⟨none, .load false 1 (.tmp 16), none⟩, ⟨some 8, .mv (.tmp 4), none⟩, ⟨none, .store 1 (.var 9) (.tmp 8), none⟩, ⟨some 10, .mv (.tmp 17), none⟩] [(4, 5), (4, 6), (4, 7), (4, 11), (4, 12), (4, 13), (4, 14), (4, 15), (4, 16), (4, 17), (11, 19), (12, 19), (13, 19), (14, 19), (15, 19), (16, 19), (17, 19)]
def Is : MC := .region [⟨some 16, .load false 1 (.var 11), none⟩]
def Ir : MC := .region [⟨some 11, .alloc 1 (.int .i64 0), none⟩, ⟨none, .store 1 (.var 11) (.var 16), none⟩]
def Iq : MC := .region [⟨none, .load false 1 (.var 11), none⟩, ⟨none, .bin .sub (.tmp 0) (.cst (.int .i64 1)), none⟩, ⟨none, .store 1 (.var 11) (.tmp 1), none⟩]
theorem xY : eK = .seq (.seq Iw (.cond (.var 14) .skip (.exit 0))) (.seq (.seq (.block 1 (.seq Iv (.seq (.seq Iu (.cond (.var 15) (.seq Jc .ret) .skip)) (.seq It FH)))) (.kill [1, 2, 3, 4, 6, 7, 12, 13, 14, 15, 16])) (.seq (.seq Is Ir) Iq)) := rfl
abbrev s43 (W v6 v7 v8 v10 v12 v13 v14 v15 v16 : AV) (lid : Nat) : List AV := [W, .undef, .undef, .undef, .undef, .ptr 1 0 0, v6, v7, v8, .ptr 2 0 0, v10, .ptr lid 0 0, v12, v13, v14, v15, v16]
theorem IN (E : Env) (fuel : Nat) (K : List KC) {A : ac} {W v6 v7 v8 v10 v12 v13 v14 v15 v16 : AV} {lid : Nat} {left : Int} (h : A[lid]? = some (.row 1 false [.int .i64 left])) :
  run E fuel (.code Iw :: K) (s43 W v6 v7 v8 v10 v12 v13 v14 v15 v16 lid) A = run E fuel K (s43 W v6 v7 v8 v10 v12 v13 (.bool (decide (0 <= left))) v15 v16 lid) A := by
 have b := pO left
 simp [Iw, h, b, -af]
theorem r43b (fuel : Nat) (K : List KC) (X Y : MC) {A : ac} {W v6 v7 v8 v10 v12 v13 v14 v15 v16 ch F : AV} {lid : Nat} {z : Int} (h1 : frz A 4 v10 = ch) (h2 : frz A 4 (.func (.func 85) [] [.ptr 1 0 0, .ptr lid 0 0, .ptr 2 0 0]) = F) (h3 : M49 [ch, F] = some (.int .i64 z)) :
  run (au GC uW) fuel (.code Iv :: .code (.seq (.seq Iu X) Y) :: K) (s43 W v6 v7 v8 v10 v12 v13 v14 v15 v16 lid) A = run (au GC uW) fuel (.code X :: .code Y :: K) (s43 W v6 v7 v8 v10 (.int .i64 z) v13 v14 (.bool (decide (z < 0))) v16 lid) A := by
 have b : af .lss (.int .i64 z) (.int .i64 0) = some (.bool (decide (z < 0))) := by simp [af]
 simp [Iv, Iu, h1, h2, h3, b, -af, -frz]
theorem r43e (E : Env) (fuel : Nat) (K : List KC) {A : ac} {W q v6 v7 v8 v10 v13 v14 v15 v16 : AV} {lid i : Nat} {c1 c2 c3 c4 c5 c6 : Int} (h : ab 6 A v10 (.int .i64 (i : Int)) = some q) (hq : ae true 6 A q = some (.agg [.int .i64 c1, .int .i64 c2, .int .i64 c3, .int .i64 c4, .int .i64 c5, .int .i64 c6])) :
  run E fuel (.code It :: K) (s43 W v6 v7 v8 v10 (.int .i64 (i : Int)) v13 v14 v15 v16 lid) A = run E fuel K (s43 W v6 v7 v8 v10 (.int .i64 (i : Int)) (.ptr A.length 0 0) v14 v15 v16 lid) (A ++ [.row 6 false [.agg [.int .i64 c1, .int .i64 c2, .int .i64 c3, .int .i64 c4, .int .i64 c5, .int .i64 c6]]]) := by
 simp [It, h, hq, -ab, -ae]
theorem r43f (E : Env) (fuel : Nat) (K : List KC) {A B : ac} {W1 v6 v7 so v10 v12 v14 v15 v16 x : AV} {lid bid jo ko t : Nat} {os : List AV} {n c1 c3 c4 c5 c6 sum : Int} (hb : A[bid]? = some (.row 6 false [.agg [.int .i64 c1, .int .i64 (t : Int), .int .i64 c3, .int .i64 c4, .int .i64 c5, .int .i64 c6]]))
  (ap : aH 1 8 A so (.fs 1 [.int .i64 c5]) = some (.sl jo 0 ko, B)) (hb' : B[bid]? = some (.row 6 false [.agg [.int .i64 c1, .int .i64 (t : Int), .int .i64 c3, .int .i64 c4, .int .i64 c5, .int .i64 c6]])) (h2 : B[2]? = some (.row 1 false [.int .i64 sum])) (hs : so = .nilS \/ ∃ i k, so = .sl i 0 k) (hid : ∀ j ∈ a5 so, j ≠ 2 /\ j ≠ bid) (hA2 : A.length ≠ 2) (hAb : A.length ≠ bid) (hb2 : bid ≠ 2)
  (hsum : -1000000000 <= sum /\ sum <= 1000000000) (hc6 : -3000000 <= c6 /\ c6 <= 3000000) (ho : os[t]? = some x) (hx : x.solid = true) (hx2 : cellsOf x = [x]) :
  run E fuel (.code FH :: K) (s43 (.fp [.int .i64 n, W1, .fs 1 os]) v6 v7 so v10 v12 (.ptr bid 0 0) v14 v15 v16 lid) A = run E fuel K (s43 (.fp [.int .i64 n, W1, .fs 1 os]) v6 v7 (.sl jo 0 ko) x v12 (.ptr bid 0 0) v14 v15 v16 lid) (B.set 2 (.row 1 false [.int .i64 (sum + c6)])) := by
 have b2 : af .add (.int .i64 sum) (.int .i64 c6) = some (.int .i64 (sum + c6)) := by
  simp only [af]; rw [if_pos trivial, dl (by unfold inI; omega)]
 have hix : ∀ C, ab 1 C (.fs 1 os) (.int .i64 (t : Int)) = some (.fp [x]) := fun C => (show SlA 1 os (.fs 1 os) from .inr rfl).index1 (A := C) ho hx hx2 .i64
 have hA2' : ¬ 2 = A.length := fun e => hA2 e.symm
 have hAb' : ¬ bid = A.length := fun e => hAb e.symm
 have hb2' : ¬ 2 = bid := fun e => hb2 e.symm
 obtain ⟨s, hs'⟩ : ∃ s, s = sum + c6 := ⟨_, rfl⟩
 rw [<- hs'] at b2 ⊢
 rcases hs with rfl | ⟨i, k, rfl⟩
 ·simp [FH, hb, ap, hb', h2, b2, hix, hA2, hAb, hb2, -af, -ab]
 ·obtain ⟨q1, q2⟩ := hid i (by simp [a5])
  have q1' : ¬ 2 = i := fun e => q1 e.symm
  have q2' : ¬ bid = i := fun e => q2 e.symm
  simp [FH, hb, ap, hb', h2, b2, hix, hA2, hAb, hb2, q1, q2, -af, -ab]
theorem r43i (E : Env) (fuel : Nat) (K : List KC) {A : ac} {W v6 v7 v8 v10 v12 v13 v14 v15 v16 : AV} {lid : Nat} {left : Int} (h : A[lid]? = some (.row 1 false [.int .i64 left])) (hl : 0 <= left /\ left <= 100) :
  run E fuel (.code (.seq (.seq Is Ir) Iq) :: K) (s43 W v6 v7 v8 v10 v12 v13 v14 v15 v16 lid) A = run E fuel K (s43 W v6 v7 v8 v10 v12 v13 v14 v15 (.int .i64 left) A.length) (A ++ [.row 1 false [.int .i64 (left - 1)]]) := by
 have b2 : af .sub (.int .i64 left) (.int .i64 1) = some (.int .i64 (left - 1)) := by
  simp only [af]; rw [if_pos trivial, dl (by unfold inI; omega)]
 obtain ⟨s, hs'⟩ : ∃ s, s = left - 1 := ⟨_, rfl⟩
 rw [<- hs'] at b2 ⊢
 simp [Is, Ir, Iq, h, b2, -af]
theorem tQ {α : Type} (q : α -> Bool) (l : List α) : (l.find? q = none /\ cy q l = -1) \/ ∃ (i : Nat) (hi : i < l.length), l.find? q = some l[i] /\ cy q l = (i : Int) /\ q l[i] = true := by
 unfold cy
 cases h : l.findIdx? q with
 | none =>
  left
  refine ⟨?_, rfl⟩
  rw [List.findIdx?_eq_none_iff] at h
  rw [List.find?_eq_none]
  intro x hx; rw [h x hx]; simp
 | some i =>
  right
  obtain ⟨hi, h1, h2⟩ := List.findIdx?_eq_some_iff_getElem.1 h
  refine ⟨i, hi, ?_, rfl, h1⟩
  rw [List.find?_eq_some_iff_getElem]
  exact ⟨h1, i, hi, rfl, fun j hj => by simpa using h2 j hj⟩
theorem CK {A : ac} {v : AV} {p : Int} {xs : List eM} (h : Chs A v (wAs p xs)) : SlA 6 (wAs p xs) (frz A 4 v) := by
 rcases h with h | ⟨rfl, h3⟩
 ·rw [h.frz]; exact h
 ·right
  show frz A (3 + 1) _ = _
  simp only [frz, h3, List.drop_zero]
  rw [List.take_of_length_le (Nat.le_refl _)]
  congr 1
  unfold wAs
  rw [List.map_map]
  apply List.map_congr_left
  intro x _
  exact Au A p x 2
theorem Ep {A : ac} {v : AV} {p : Int} {xs : List eM} (h : Chs A v (wAs p xs)) {i : Nat} (hi : i < xs.length) : ∃ q, ab 6 A v (.int .i64 (i : Int)) = some q /\ ae true 6 A q = some (wA p xs[i]) := by
 have hx : (wAs p xs)[i]? = some (wA p xs[i]) := by simp [wAs, hi]
 rcases h with h | ⟨rfl, h3⟩
 ·exact ⟨_, h.index (A := A) hx rfl (by omega) .i64, by simp [ae, wA, cellsOf]⟩
 ·refine ⟨.ptr 3 i 0, ?_, ?_⟩
  ·simp [ab, h3]
   simp [wAs]; omega
  ·simp only [ae, h3, hx]; rfl
structure Jd (p : Int) (hs : List (List LP)) (r : Nat) (sum : Int) (ch : List eM) (out : List Int) (so v10 : AV) (lid : Nat) (A : ac) : Prop where
 a1 : A[1]? = some (.row 1 false [uU hs])
 a2 : A[2]? = some (.row 1 false [.int .i64 sum])
 al : A[lid]? = some (.row 1 false [.int .i64 ((r : Int) - 1)])
 lid4 : 4 <= lid
 so_ : jv A so out
 lso : lid ∉ a5 so
 chs : Chs A v10 (wAs p ch)
theorem yl {n : Nat} {p : Int} {l : List aW} {t : Nat} (ht : t < n) : ((List.range n).map fun v => slA 6 (wAs p (jI l v)))[t]? = some (slA 6 (wAs p (jI l t))) := by simp [ht]
theorem u7 {n : Nat} {p : Int} {l : List aW} (hp : a8 p) (hv : ∀ x ∈ l, okA n x) (hn32 : n <= 32) (hl200 : l.length <= 200) (hsL : List (List LP)) (hs : Nat -> List LP) {k : Nat} (hk : k <= 32) (hhs : ∀ r, r < k -> hsL[r]? = some (hs r) /\ (hs r).length = n /\ PB 1000000000 (hs r)) :
  ∀ (r : Nat) (sum : Int) (ch : List eM) (out : List Int) (so v10 : AV) (lid : Nat) (A : ac) (m : Nat), r < m -> r <= k -> -(3000000 * ((k : Int) - r)) <= sum /\ sum <= 3000000 * ((k : Int) - r) -> out.length <= k - r -> (∀ x ∈ ch, x ∈ num l) -> ch.length <= 200 -> Jd p hsL r sum ch out so v10 lid A ->
   ∃ o, bg (evC (au GC uW) 300 eK) dO m (fh (cC n p l) (.ptr 1 0 0) so (.ptr 2 0 0) v10 (.ptr lid 0 0)) A = some o /\
    match gL p l hs r sum ch out with
    | none => ∃ so' v10' lid' v12 v13 v14 v15 v16 A', o = .ret (s43 (cC n p l) .nilS (.bool false) so' v10' v12 v13 v14 v15 v16 lid') A'
    | some res => ∃ so' v10' lid' A', o = .exit 0 ((fh (cC n p l) (.ptr 1 0 0) so' (.ptr 2 0 0) v10' (.ptr lid' 0 0)).set 14 (.bool false)) A' /\ jv A' so' res := by
 intro r
 induction r with
 | zero =>
  intro sum ch out so v10 lid A m hm _ _ _ _ _ hI
  obtain ⟨m, rfl⟩ : ∃ j, m = j + 1 := ⟨m - 1, by omega⟩
  have r1 := fun K => IN (au GC uW) 300 K (W := cC n p l) (v6 := .undef) (v7 := .undef) (v8 := so) (v10 := v10) (v12 := .undef) (v13 := .undef) (v14 := .undef) (v15 := .undef) (v16 := .undef) hI.al
  simp only [Int.natCast_zero, Int.zero_sub, s43] at r1
  refine ⟨.exit 0 ((fh (cC n p l) (.ptr 1 0 0) so (.ptr 2 0 0) v10 (.ptr lid 0 0)).set 14 (.bool false)) A, ?_, so, v10, lid, A, rfl, hI.so_⟩
  rw [aQ, nL, xY]
  obtain ⟨W, hW⟩ : ∃ W, W = cC n p l := ⟨_, rfl⟩
  rw [<- hW] at r1 ⊢
  simp [r1]
 | succ r ih =>
  intro sum ch out so v10 lid A m hm hrk hsum hout hch hcl hI
  obtain ⟨m, rfl⟩ : ∃ j, m = j + 1 := ⟨m - 1, by omega⟩
  obtain ⟨hh1, hh2, hh3⟩ := hhs r (by omega)
  have hleft : (((r + 1 : Nat) : Int) - 1) = (r : Int) := by omega
  have hal := hI.al
  rw [hleft] at hal
  have r1 := fun K => IN (au GC uW) 300 K (W := cC n p l) (v6 := .undef) (v7 := .undef) (v8 := so) (v10 := v10) (v12 := .undef) (v13 := .undef) (v14 := .undef) (v15 := .undef) (v16 := .undef) hal
  rw [decide_eq_true (show (0 : Int) <= (r : Int) by omega)] at r1
  have h49 := EO (p := p) (sum := sum) (CK hI.chs) hcl hh1 (fun x hx => by
   obtain ⟨hi, e⟩ := gi (hch x hx)
   have := hv _ (List.getElem_mem hi)
   rw [e] at this
   have h2 := this.2.1
   omega) hh3 (by omega) (fun x hx => by
   obtain ⟨hi, e⟩ := gi (hch x hx)
   have := hv _ (List.getElem_mem hi)
   rw [e] at this
   obtain ⟨q1, q2, q3, q4⟩ := this
   have := dT (n := 32) (a := x.1) ⟨by omega, by omega, q3, q4⟩ hp
   omega)
  have hfn : frz A 4 (.func (.func 85) [] [.ptr 1 0 0, .ptr lid 0 0, .ptr 2 0 0]) = DY hsL r sum := by
   have a1 := hI.a1
   have a2 := hI.a2
   unfold DY uU at *
   simp [frz, a1, a2, hal]
  have r2 := fun K X Y => r43b 300 K X Y (W := cC n p l) (v6 := .undef) (v7 := .undef) (v8 := so) (v10 := v10) (v12 := .undef) (v13 := .undef) (v14 := .bool true) (v15 := .undef) (v16 := .undef) rfl hfn h49
  rw [aQ, nL, xY]
  unfold gL
  rcases tQ (gH (hs r) p sum) ch with ⟨q1, q2⟩ | ⟨i, hi, q1, q2, q3⟩
  ·rw [q1]
   rw [q2] at r2
   rw [decide_eq_true (show (-1 : Int) < 0 by omega)] at r2
   refine ⟨.ret (s43 (cC n p l) .nilS (.bool false) so v10 (.int .i64 (-1)) .undef (.bool true) (.bool true) .undef lid) A, ?_, so, v10, lid, _, _, _, _, _, A, rfl⟩
   obtain ⟨W, hW⟩ : ∃ W, W = cC n p l := ⟨_, rfl⟩
   rw [<- hW] at r1 r2 ⊢
   simp only [s43] at r1 r2
   simp [r1, r2, Jc]
  ·rw [q1]
   rw [q2] at r2
   rw [decide_eq_false (show ¬ (i : Int) < 0 by omega)] at r2
   obtain ⟨b, hb⟩ : ∃ b, b = ch[i] := ⟨_, rfl⟩
   have hbm := hch _ (List.getElem_mem hi)
   rw [<- hb] at hbm
   obtain ⟨hbi, hbe⟩ := gi hbm
   have hok := hv _ (List.getElem_mem hbi)
   rw [hbe] at hok
   obtain ⟨o1, o2, o3, o4⟩ := hok
   obtain ⟨t, ht1, ht2⟩ := fN o2
   have hw := dT (n := 32) (a := b.1) ⟨by omega, by omega, o3, o4⟩ hp
   obtain ⟨q, e1, e2⟩ := Ep hI.chs hi
   rw [<- hb] at e2
   have hwb : wA p b = .agg [.int .i64 b.1.f, .int .i64 (t : Int), .int .i64 b.1.w, .int .i64 b.1.k, .int .i64 (b.2 : Int), .int .i64 (b.1.len p)] := by unfold wA; rw [ht1]
   rw [hwb] at e2
   have r3 := fun K => r43e (au GC uW) 300 K (W := cC n p l) (v6 := .undef) (v7 := .undef) (v8 := so) (v13 := .undef) (v14 := .bool true) (v15 := .bool false) (v16 := .undef) (lid := lid) e1 e2
   rw [<- hwb] at r3
   obtain ⟨B, hB⟩ : ∃ B, B = A ++ [.row 6 false [wA p b]] := ⟨_, rfl⟩
   rw [<- hB] at r3
   have hBo : ∀ j, j < A.length -> B[j]? = A[j]? := fun j hj => by rw [hB, List.getElem?_append_left hj]
   have hBl : B.length = A.length + 1 := by rw [hB]; simp
   have hBb : B[A.length]? = some (.row 6 false [wA p b]) := by rw [hB]; simp
   have hlA := (List.getElem?_eq_some_iff.1 hal).1
   have hl4 := hI.lid4
   have hso := hI.so_.low
   have soB : jv B so out := hI.so_.keep fun j hj => hBo j (hso j hj).2
   obtain ⟨jo, ko, C, ap, s2, c1, c2, c3⟩ := soB.append (b.2 : Int) (by omega) (by omega)
   have hCo : ∀ j, j < A.length -> j ∉ a5 so -> C[j]? = A[j]? := fun j hj hn => by rw [c2 j (by omega) hn, hBo j hj]
   have h2so : 2 ∉ a5 so := fun h => by have := hso 2 h; omega
   have hC2 := (hCo 2 (by omega) h2so).trans hI.a2
   have hbso : A.length ∉ a5 so := fun h => by have := hso _ h; omega
   have hCb := (c2 A.length (by omega) hbso).trans hBb
   rw [hwb] at hBb hCb
   have r4 := fun K => r43f (au GC uW) 300 K (A := B) (B := C) (W1 := slA 6 (wAs p (num l))) (v6 := .undef) (v7 := .undef) (so := so) (v10 := v10) (v12 := .int .i64 (i : Int)) (v14 := .bool true) (v15 := .bool false) (v16 := .undef) (x := slA 6 (wAs p (jI l t))) (lid := lid) (bid := A.length) (n := (n : Int)) hBb ap hCb hC2 soB.form2 (fun j hj => ⟨by have := (hso j hj).1; omega, by have := (hso j hj).2; omega⟩) (by omega) (by omega) (by omega) (by omega) (by omega) (yl (p := p) (l := l) (show t < n by omega)) (vG _ _) (sC _ _)
   obtain ⟨D, hD⟩ : ∃ D, D = C.set 2 (.row 1 false [.int .i64 (sum + b.1.len p)]) := ⟨_, rfl⟩
   have hDo : ∀ j, j ≠ 2 -> D[j]? = C[j]? := fun j hj => by rw [hD, List.getElem?_set_ne (Ne.symm hj)]
   have hDl : D.length = C.length := by rw [hD]; simp
   rw [<- hD] at r4
   have hDlid : D[lid]? = some (.row 1 false [.int .i64 (r : Int)]) := by rw [hDo lid (by omega), hCo lid hlA hI.lso]; exact hal
   have r5 := fun K => r43i (au GC uW) 300 K (A := D) (W := cC n p l) (v6 := .undef) (v7 := .undef) (v8 := .sl jo 0 ko) (v10 := slA 6 (wAs p (jI l t))) (v12 := .undef) (v13 := .undef) (v14 := .undef) (v15 := .undef) (v16 := .undef) hDlid (by omega)
   obtain ⟨F, hF⟩ : ∃ F, F = D ++ [.row 1 false [.int .i64 ((r : Int) - 1)]] := ⟨_, rfl⟩
   rw [<- hF] at r5
   have hFo : ∀ j, j < D.length -> F[j]? = D[j]? := fun j hj => by rw [hF, List.getElem?_append_left hj]
   have htt : b.1.t.toNat = t := by omega
   have hs2 := s2.low
   have hIH := ih (sum + b.1.len p) (jI l t) (out ++ [(b.2 : Int)]) (.sl jo 0 ko) (slA 6 (wAs p (jI l t))) D.length F m (by omega) (by omega) (by omega) (by simp; omega) (fun x hx => (List.mem_filter.1 hx).1) (Nat.le_trans (tq l t) hl200) {
    a1 := by
     rw [hFo 1 (by omega), hDo 1 (by omega), hCo 1 (by omega) (fun h => by have := hso 1 h; omega)]; exact hI.a1
    a2 := by rw [hFo 2 (by omega), hD]; exact List.getElem?_set_self (by omega)
    al := by rw [hF]; simp
    lid4 := by omega
    so_ := s2.keep fun j hj => by
     have := hs2 j hj
     rw [hFo j (by omega), hDo j (by omega)]
    lso := fun h => by have := hs2 _ h; omega
    chs := .inl (aI _ _) }
   obtain ⟨o, k1, k2⟩ := hIH
   simp only [<- hb, htt]
   refine ⟨o, ?_, k2⟩
   obtain ⟨O, hO⟩ : ∃ O, O = (List.range n).map fun v => slA 6 (wAs p (jI l v)) := ⟨_, rfl⟩
   obtain ⟨W1, hW1⟩ : ∃ W1, W1 = slA 6 (wAs p (num l)) := ⟨_, rfl⟩
   have hW : cC n p l = .fp [.int .i64 (n : Int), W1, .fs 1 O] := by rw [hO, hW1]; rfl
   rw [<- hO, <- hW1] at r4
   rw [hW] at r1 r2 r3 r5 k1 ⊢
   obtain ⟨Z, hZ⟩ : ∃ Z, Z = slA 6 (wAs p (jI l t)) := ⟨_, rfl⟩
   rw [<- hZ] at r4 r5 k1
   simp only [s43] at r1 r2 r3 r4 r5
   simp [r1, r2, r3, r4, r5]
   rw [<- xY, oY, nL]; exact k1
def M43 : aT := fun args => evF (au GC uW) 300 yb 5 args
theorem Bj : bk Try.prog GC 77 M43 := bk.of_ev (E := au GC uW) (av Bu) rfl HY wV 5 fun _ _ h => ⟨300, h⟩
def z8 (L : List bZ) (n to k : Nat) : List (List LP) := (List.range (k + 1)).map fun j => hm L n to j
theorem CA (L : List bZ) (n to k : Nat) : .fs 1 (uV L n to k) = uU (z8 L n to k) := by
 unfold uV uU z8; rw [List.map_map]; rfl
theorem y9 (L : List bZ) (n to : Nat) {k r : Nat} (h : r <= k) : (z8 L n to k)[r]? = some (hm L n to r) := by
 unfold z8; rw [List.getElem?_map, List.getElem?_range (by omega)]; rfl
def vb (r : Option (List Int)) : AV := match r with
 | none => .tup [.nilS, .bool false]
 | some xs => .tup [slA 1 (ag xs), .bool true]
theorem t9 {n to : Nat} {p : Int} {l : List aW} (hr : a6 n l p) {k : Nat} (hk1 : 1 <= k) (hk : k <= 32) {a : eM} (ha : a ∈ num l) :
  M43 [cC n p l, wA p a, .fs 1 (uV (lar p l) n to k), .int .i64 (k : Int)] = some (vb (gL p l (hm (lar p l) n to) k 0 [a] [])) := by
 obtain ⟨⟨hn, hl200, hv⟩, hp⟩ := hr
 have hn32 : n <= 32 := by omega
 have hok := lf hn32 hp hv
 rw [CA]
 have b0 : af .sub (.int .i64 (k : Int)) (.int .i64 1) = some (.int .i64 ((k : Int) - 1)) := by
  simp only [af]; rw [if_pos trivial, dl (by unfold inI; omega)]
 have hI : Jd p (z8 (lar p l) n to k) k 0 [a] [] .nilS (.sl 3 0 1) 4 [.row 6 false [wA p a], .row 1 false [uU (z8 (lar p l) n to k)], .row 1 false [.int .i64 0], .row 6 false [wA p a], .row 1 false [.int .i64 ((k : Int) - 1)]] :=
  { a1 := rfl, a2 := rfl, al := rfl, lid4 := by omega, so_ := .inl ⟨rfl, rfl⟩, lso := by simp [a5], chs := .inr ⟨rfl, rfl⟩ }
 obtain ⟨o, h1, h2⟩ := u7 hp hv hn32 hl200 (z8 (lar p l) n to k) (hm (lar p l) n to) hk (fun r hr => ⟨y9 _ _ _ (by omega), tI _ _ _ _, fun v => by
  have := CB hok to r v
  omega⟩) k 0 [a] [] .nilS (.sl 3 0 1) 4 _ 300 (by omega) (Nat.le_refl _) (by omega) (by simp) (fun x hx => by
  have : x = a := by simpa using hx
  rw [this]; exact ha) (by simp) hI
 unfold M43
 rw [cU _ _ rfl]
 obtain ⟨W, hW⟩ : ∃ W, W = cC n p l := ⟨_, rfl⟩
 obtain ⟨HT, hHT⟩ : ∃ HT, uU (z8 (lar p l) n to k) = .fs 1 HT := ⟨_, rfl⟩
 rw [hHT] at h1 ⊢
 rw [<- hW] at h1 h2 ⊢
 unfold wA at h1 ⊢
 obtain ⟨k1, hk1'⟩ : ∃ k1, k1 = (k : Int) - 1 := ⟨_, rfl⟩
 rw [<- hk1'] at b0 h1
 cases hw : gL p l (hm (lar p l) n to) k 0 [a] [] with
 | none =>
  rw [hw] at h2
  obtain ⟨so', v10', lid', v12, v13, v14, v15, v16, A', rfl⟩ := h2
  simp [yb, b0, qK h1, vb, gT, aY, frz, -af]
 | some xs =>
  rw [hw] at h2
  obtain ⟨so', v10', lid', A', rfl, hs⟩ := h2
  obtain ⟨q1, q2⟩ := hs.out 3
  have z1 : frz A' 5 (.tup [so', .bool true]) = .tup [slA 1 (ag xs), .bool true] := by
   show AV.tup [frz A' 4 so', frz A' 4 (.bool true)] = _
   rw [q1]; rfl
  have z2 : aY A' 5 (.tup [so', .bool true]) = true := by
   show [so', .bool true].all (aY A' 4) = true
   simp only [List.all_cons, q2]; rfl
  have p1 : gT [so', .bool true] = .tup [so', .bool true] := rfl
  simp [yb, b0, qK h1, vb, z1, z2, -af, -frz]
def o6 (p : Int) (l : List aW) (n k : Nat) (f : Int) : AV := .fs 1 (uV (lar p l) n f.toNat k)
def kr (l : List aW) : List Int := l.foldl (fun s a => if a.f ∈ s then s else s ++ [a.f]) []
theorem uj (l : List aW) (i : Nat) (hi : i < l.length) : kr (l.take (i + 1)) = if l[i].f ∈ kr (l.take i) then kr (l.take i) else kr (l.take i) ++ [l[i].f] := by
 unfold kr
 rw [List.take_succ_eq_append_getElem hi, List.foldl_append]
 rfl
def ru (G : Int -> AV) (s : List Int) : List (AV × AV) := s.map fun w => (.int .i64 w, G w)
theorem tR (G : Int -> AV) (w : Int) : ∀ (s : List Int) (i : Nat), w ∈ s -> ∃ q, kc (.int .i64 w) (ru G s) i = some (some (q, G w))
 | [], _, h => by cases h
 | x :: s, i, h => by
  by_cases hx : x = w
  ·subst hx
   exact ⟨i, by simp [ru, kc, pN]⟩
  ·have hw : w ∈ s := by
    rcases List.mem_cons.1 h with e | e
    ·exact absurd e.symm hx
    ·exact e
   obtain ⟨q, h1⟩ := tR G w s (i + 1) hw
   refine ⟨q, ?_⟩
   simp only [ru, List.map_cons, kc, pN] at h1 ⊢
   simp only [if_true, beq_eq_false_iff_ne.2 (Ne.symm hx)]
   exact h1
theorem nu (G : Int -> AV) (w : Int) : ∀ (s : List Int) (i : Nat), w ∉ s -> kc (.int .i64 w) (ru G s) i = some none
 | [], _, _ => rfl
 | x :: s, i, h => by
  have hx : ¬ w = x := fun e => h (by simp [e])
  have := nu G w s (i + 1) (fun e => h (by simp [e]))
  simp only [ru, List.map_cons, kc, pN] at this ⊢
  simp only [if_true, beq_eq_false_iff_ne.2 hx]
  exact this
theorem tE {G : Int -> AV} {s : List Int} {w : Int} {B : ac} {M : Nat} (hB : B[M]? = some (.map (ru G s))) (h : w ∈ s) (ok : Bool) : cA ok .nilS B (.map M) (.int .i64 w) = some (if ok then .tup [G w, .bool true] else G w) := by
 obtain ⟨q, h1⟩ := tR G w s 0 h
 simp only [cA, hB, h1]
theorem wa {G : Int -> AV} {s : List Int} {w : Int} {B : ac} {M : Nat} (hB : B[M]? = some (.map (ru G s))) (h : w ∉ s) (ok : Bool) : cA ok .nilS B (.map M) (.int .i64 w) = some (if ok then .tup [.nilS, .bool false] else .nilS) := by
 simp only [cA, hB, nu G w s 0 h]
theorem ym {G : Int -> AV} {s : List Int} {w : Int} {B : ac} {M : Nat} (hB : B[M]? = some (.map (ru G s))) (h : w ∉ s) : bH B (.map M) (.int .i64 w) (G w) = some (B.set M (.map (ru G (s ++ [w])))) := by
 simp only [bH, hB, nu G w s 0 h]
 simp [ru]
def TT (p : Int) (l : List aW) (i : Nat) : ac := ((num l).take i).flatMap fun x => [.row 6 false [wA p x], .row 6 false [wA p x]]
theorem CU (p : Int) (l : List aW) (i : Nat) (hi : i < l.length) : TT p l (i + 1) = TT p l i ++ [.row 6 false [wA p (l[i], i)], .row 6 false [wA p (l[i], i)]] := by
 unfold TT
 have h := dc l i hi
 obtain ⟨h1, h2⟩ := List.getElem?_eq_some_iff.1 h
 rw [List.take_succ_eq_append_getElem h1, List.flatMap_append, h2]
 rfl
theorem bC.consF {G : Nat -> Option (List AV)} {fs : List (FuncId × aL)} {h0 : bb} {f : FuncId} {pu : List FuncId} {M : aT} (h : aB fs f = some (bA 4 M)) (hr : bC (eS G fs h0) pu) : bC (eS G fs h0) (f :: pu) := by
 intro k hk hh args A r A' he
 rcases List.mem_cons.1 hk with rfl | hk
 ·simp only [eS, lP, h, bA, yL, List.nil_append, List.append_nil] at he ⊢
  rw [Option.map_eq_some_iff] at he
  obtain ⟨r', hM, he⟩ := he
  simp only [Prod.mk.injEq] at he
  obtain ⟨rfl, rfl⟩ := he
  refine ⟨rfl, fun hn B => ?_⟩
  have hm : args.map (frz B 4) = args.map (frz A 4) := List.map_congr_left fun x hx => qA 4 x (List.all_eq_true.1 hn x hx)
  rw [hm, hM]; rfl
 ·exact hr k hk hh args A r A' he
def pQ : List (FuncId × aL) := [(83, bA 4 M48)]
@[simp] theorem Gd : aB pQ 83 = some (bA 4 M48) := rfl
theorem rD : ∀ f M, aB pQ f = some M -> an Try.prog GC f M := ak (an.of_pureF Bi 4) az
def H47 : aL := fun hd => cu (eS GC pQ hd) 300 yO
theorem vj : an Try.prog GC 82 H47 := dF rD HU wR (bC.consF (M := M48) rfl bC.nil)
def H42 : aL := fun hd => cu (eS GC [] hd) 0 B7
theorem vo : an Try.prog GC 76 H42 := dF az HZ wW
theorem ev42 (h : bb) (w : List AV) (k : Int) (A : ac) : H42 h [.fp w, .int .i64 k] A = some (.func (.func 82) [] [.ptr A.length 0 0, .ptr (A.length + 1) 0 0], A ++ [.row 1 false [.fp w], .row 1 false [.int .i64 k]]) := by
 unfold H42
 rw [bU _ _ rfl]
 simp [B7]
def Ip : MC := .region [⟨none, .indexSl 6 (.var 6) (.var 8), none⟩, ⟨none, .load true 6 (.tmp 0), none⟩, ⟨some 4, .alloc 6 (.agg [.int .i64 0, .int .i64 0, .int .i64 0, .int .i64 0, .int .i64 0, .int .i64 0]), none⟩, ⟨none, .store 6 (.var 4) (.tmp 1), none⟩]
def EF : MC := .region [⟨none, .mv (.var 3), none⟩, ⟨none, .fieldAddr 0 (.var 4), none⟩, ⟨none, .fieldAddr 0 (.tmp 1), none⟩, ⟨none, .load false 1 (.tmp 2), none⟩, ⟨none, .lookup 1 true .nilS (.tmp 0) (.tmp 3), none⟩, ⟨none, .mv (.tmp 4), none⟩, ⟨none, .extract (.tmp 5) 0, none⟩, ⟨none, .extract (.tmp 5) 1, none⟩, ⟨none, .mv (.tmp 6), none⟩, ⟨some 5, .mv (.tmp 7), none⟩]
def EE : MC := .region [⟨none, .mv (.var 5), none⟩, ⟨some 10, .un .not (.tmp 0), none⟩]
def Io : MC := .region [⟨none, .mv (.var 3), none⟩, ⟨none, .fieldAddr 0 (.var 4), none⟩, ⟨none, .fieldAddr 0 (.tmp 1), none⟩, ⟨none, .load false 1 (.tmp 2), none⟩, ⟨none, .load false 1 (.var 1), none⟩, ⟨none, .fieldAddr 0 (.var 4), none⟩, ⟨none, .fieldAddr 0 (.tmp 5), none⟩, ⟨none, .load false 1 (.tmp 6), none⟩, ⟨none, .load false 1 (.var 2), none⟩, ⟨none, .call (.fn 83) [.tmp 4, .tmp 7, .tmp 8], none⟩, ⟨none, .mapUpdate 1 (.tmp 0) (.tmp 3) (.tmp 9), none⟩]
def ED : MC := .region [⟨none, .mv (.var 0), none⟩, ⟨none, .load true 6 (.var 4), none⟩, ⟨none, .mv (.var 3), none⟩, ⟨none, .fieldAddr 0 (.var 4), none⟩, ⟨none, .fieldAddr 0 (.tmp 3), none⟩, ⟨none, .load false 1 (.tmp 4), none⟩, ⟨none, .lookup 1 false .nilS (.tmp 2) (.tmp 5), none⟩, ⟨none, .call (.tmp 0) [.tmp 1, .tmp 6], none⟩, ⟨some 11, .un .not (.tmp 7), none⟩]
def EC : MC := .region [⟨none, .bin .add (.var 8) (.cst (.int .i64 1)), none⟩, ⟨some 8, .mv (.tmp 0), none⟩]
theorem t7 : dp = .seq (.region [⟨some 9, .bin .lss (.var 8) (.var 7), none⟩]) (.seq (.cond (.var 9) .skip (.exit 0)) (.seq (.seq (.block 1 (.seq Ip (.seq (.seq EF (.seq EE (.cond (.var 10) Io .skip))) (.seq ED (.cond (.var 11) .ret .skip))))) (.kill [4, 5, 9, 10, 11])) EC)) := rfl
def A47 (p : Int) (l : List aW) (n k : Nat) (X : ac) (i : Nat) : ac := X ++ .map (ru (o6 p l n k) (kr (l.take i))) :: TT p l i
def P47 (p : Int) (l : List aW) (n k : Nat) (X : ac) (i : Nat) (a : aW) : ac := X ++ .map (ru (o6 p l n k) (kr (l.take (i + 1)))) :: (TT p l i ++ [.row 6 false [wA p (a, i)]])
theorem r47a (E : Env) (fuel : Nat) (K : List KC) (A : ac) {p : Int} {l : List aW} {i : Nat} (hi : i < l.length) (v0 v1 v2 v3 v4 v5 v7 v9 v10 v11 : AV) :
  run E fuel (.code Ip :: K) [v0, v1, v2, v3, v4, v5, slA 6 (wAs p (num l)), v7, .int .i64 (i : Int), v9, v10, v11] A =
   run E fuel K [v0, v1, v2, v3, .ptr A.length 0 0, v5, slA 6 (wAs p (num l)), v7, .int .i64 (i : Int), v9, v10, v11] (A ++ [.row 6 false [wA p (l[i], i)]]) := by
 have x1 := qj p hi A .i64
 obtain ⟨W, hW⟩ : ∃ W, W = slA 6 (wAs p (num l)) := ⟨_, rfl⟩
 rw [<- hW] at x1 ⊢
 simp [Ip, x1, wA, -ab]
theorem rX (h : bb) (L : Nat) {X : ac} {n k wp kp : Nat} {p : Int} {l : List aW} (hr : a6 n l p) (hk : k <= 32) (hw : X[wp]? = some (.row 1 false [cC n p l])) (hkp : X[kp]? = some (.row 1 false [.int .i64 (k : Int)])) {i : Nat} (hi : i < l.length) {b : Bool} {A' : ac}
  (hy : h (.func (.yield L) [] []) [wA p (l[i], i), o6 p l n k l[i].f] (P47 p l n k X i l[i]) = some (.bool b, A')) :
  ∃ d4 d5 d9 d10 d11, run (eS GC pQ h) 300 [.code dp] (ec (.func (.yield L) [] []) (.ptr wp 0 0) (.ptr kp 0 0) (.map X.length) (slA 6 (wAs p (num l))) (.int .i64 (l.length : Int)) (.int .i64 (i : Int))) (A47 p l n k X i) =
   if b = true then some (.normal (ec (.func (.yield L) [] []) (.ptr wp 0 0) (.ptr kp 0 0) (.map X.length) (slA 6 (wAs p (num l))) (.int .i64 (l.length : Int)) (.int .i64 ((i + 1 : Nat) : Int))) A')
   else some (.ret [.func (.yield L) [] [], .ptr wp 0 0, .ptr kp 0 0, .map X.length, d4, d5, slA 6 (wAs p (num l)), .int .i64 (l.length : Int), .int .i64 (i : Int), d9, d10, d11] A') := by
 have hmem := hr.1.2.2 _ (List.getElem_mem hi)
 obtain ⟨f, hf, hfn⟩ := fN hmem.1
 have hl200 := hr.1.2.1
 have hn32 := hr.1.1
 obtain ⟨B, hB⟩ : ∃ B, B = A47 p l n k X i ++ [.row 6 false [wA p (l[i], i)]] := ⟨_, rfl⟩
 have hBX : ∀ j, j < X.length -> B[j]? = X[j]? := fun j hj => by rw [hB, A47, List.append_assoc, List.getElem?_append_left hj]
 have hwl := (List.getElem?_eq_some_iff.1 hw).1
 have hkl := (List.getElem?_eq_some_iff.1 hkp).1
 have hBw := (hBX wp hwl).trans hw
 have hBk := (hBX kp hkl).trans hkp
 have hBM : B[X.length]? = some (.map (ru (o6 p l n k) (kr (l.take i)))) := by
  rw [hB, A47, List.append_assoc, List.getElem?_append_right (Nat.le_refl _)]; simp
 obtain ⟨M, hM⟩ : ∃ M, M = X.length := ⟨_, rfl⟩
 obtain ⟨i8, hi8⟩ : ∃ i8, i8 = (A47 p l n k X i).length := ⟨_, rfl⟩
 have hlow : M < i8 := by rw [hi8, hM]; simp [A47]
 have hB8 : B[i8]? = some (.row 6 false [wA p (l[i], i)]) := by rw [hB, hi8]; simp
 have r1 := fun K => r47a (eS GC pQ h) 300 K (A47 p l n k X i) (p := p) hi (.func (.yield L) [] []) (.ptr wp 0 0) (.ptr kp 0 0) (.map X.length) .undef .undef (.int .i64 (l.length : Int)) (.bool true) .undef .undef
 rw [<- hB, <- hi8, <- hM] at r1
 rw [<- hM] at hBM ⊢
 have hst := uj l i hi
 rw [hf] at hst hy
 obtain ⟨G, hG⟩ : ∃ G, G = o6 p l n k := ⟨_, rfl⟩
 have m48 : M48 [cC n p l, .int .i64 (f : Int), .int .i64 (k : Int)] = some (G (f : Int)) := by
  rw [t8 hr (by omega) hk, hG]; unfold o6; rw [Int.toNat_natCast]
 have hGf : ∃ T, G (f : Int) = .fs 1 T := ⟨uV (lar p l) n f k, by rw [hG]; unfold o6; rw [Int.toNat_natCast]⟩
 have b1 := bc i l.length .i64
 rw [decide_eq_true hi] at b1
 have b3 := aK i (by omega)
 obtain ⟨i1, hi1⟩ : ∃ i1 : Nat, i1 = i + 1 := ⟨_, rfl⟩
 rw [<- hi1] at b3 ⊢
 rw [<- hG] at hBM hy
 obtain ⟨T, hT⟩ := hGf
 have hnw : wA p (l[i], i) = .agg [.int .i64 (f : Int), .int .i64 l[i].t, .int .i64 l[i].w, .int .i64 l[i].k, .int .i64 (i : Int), .int .i64 (l[i].len p)] := by unfold wA; rw [hf]
 rw [hnw] at hB8 hy
 obtain ⟨A1, hA1⟩ : ∃ A1, A1 = A47 p l n k X i := ⟨_, rfl⟩
 rw [<- hA1] at r1 ⊢
 obtain ⟨W1, O, hW, hW1⟩ : ∃ W1 O, cC n p l = .fp [.int .i64 (n : Int), W1, O] /\ W1 = slA 6 (wAs p (num l)) := ⟨_, _, rfl, rfl⟩
 have hWfz : ∀ B n, frz B n W1 = W1 := fun B n => by rw [hW1]; exact jl B n 6 _
 rw [<- hW1] at r1 ⊢
 by_cases hs : (f : Int) ∈ kr (l.take i)
 ·rw [if_pos hs] at hst
  have hP : P47 p l n k X i l[i] = B := by
   rw [hB, P47, A47, hst]; simp
  rw [hP] at hy
  have lk := fun ok => tE hBM hs ok
  have lk1 := lk true
  have lk2 := lk false
  simp only [if_true, Bool.false_eq_true, if_false] at lk1 lk2
  cases b with
  | true =>
   refine ⟨.undef, .undef, .undef, .undef, .undef, ?_⟩
   rw [t7]
   simp [b1, b3, r1, EF, EE, ED, EC, hB8, lk1, lk2, hy, -af, -cA]
  | false =>
   refine ⟨.ptr i8 0 0, .bool true, .bool true, .bool false, .bool true, ?_⟩
   rw [t7]
   simp [b1, r1, EF, EE, ED, EC, hB8, lk1, lk2, hy, -af, -cA]
 ·rw [if_neg hs] at hst
  have up := ym hBM hs
  obtain ⟨C, hC⟩ : ∃ C, C = B.set M (.map (ru G (kr (l.take i) ++ [(f : Int)]))) := ⟨_, rfl⟩
  have hP : P47 p l n k X i l[i] = C := by
   rw [hC, hB, P47, A47, hst, hM, List.append_assoc, List.set_append_right _ _ (Nat.le_refl _), <- hG]; simp
  rw [hP] at hy
  rw [<- hC] at up
  have hCM : C[M]? = some (.map (ru G (kr (l.take i) ++ [(f : Int)]))) := by rw [hC]; exact List.getElem?_set_self (List.getElem?_eq_some_iff.1 hBM).1
  have hC8 := (show C[i8]? = B[i8]? by rw [hC, List.getElem?_set_ne (by omega)]).trans hB8
  have lk1 := wa hBM hs true
  have lk2 := tE hCM (show (f : Int) ∈ kr (l.take i) ++ [(f : Int)] by simp) false
  simp only [if_true, Bool.false_eq_true, if_false] at lk1 lk2
  rw [hW] at hBw m48
  rw [hT] at up lk2 m48 hy
  have hfz1 : ∀ B, frz B 4 (.fp [.int .i64 (n : Int), W1, O]) = .fp [.int .i64 (n : Int), W1, O] := fun _ => rfl
  cases b with
  | true =>
   refine ⟨.undef, .undef, .undef, .undef, .undef, ?_⟩
   rw [t7]
   simp [b1, b3, r1, EF, EE, Io, ED, EC, hB8, hC8, hBw, hBk, lk1, lk2, m48, up, hy, -af, -cA, -bH]
  | false =>
   refine ⟨.ptr i8 0 0, .bool false, .bool true, .bool true, .bool true, ?_⟩
   rw [t7]
   simp [b1, r1, EF, EE, Io, ED, EC, hB8, hC8, hBw, hBk, lk1, lk2, m48, up, hy, -af, -cA, -bH]
theorem ug (p : Int) (l : List aW) (n k : Nat) (X : ac) : A47 p l n k X 0 = X ++ [.map []] := by
 simp [A47, TT, kr, ru]
theorem ev47 (h : bb) (L : Nat) {X : ac} {n k wp kp : Nat} {p : Int} {l : List aW} (hr : a6 n l p) (hk : k <= 32) (hw : X[wp]? = some (.row 1 false [cC n p l])) (hkp : X[kp]? = some (.row 1 false [.int .i64 (k : Int)])) (m : Nat) (hm : m <= l.length)
  (hno : ∀ i (hi : i < l.length), i < m -> h (.func (.yield L) [] []) [wA p (l[i], i), o6 p l n k l[i].f] (P47 p l n k X i l[i]) = some (.bool true, A47 p l n k X (i + 1)))
  (Z : ac) (hyes : ∀ hi : m < l.length, h (.func (.yield L) [] []) [wA p (l[m], m), o6 p l n k l[m].f] (P47 p l n k X m l[m]) = some (.bool false, Z)) :
  H47 h [.func (.yield L) [] [], .ptr wp 0 0, .ptr kp 0 0] X = some (.tup [], if m < l.length then Z else A47 p l n k X l.length) := by
 have hl200 := hr.1.2.1
 have hwl := (List.getElem?_eq_some_iff.1 hw).1
 have hw' : (X ++ [Ent.map []])[wp]? = some (.row 1 false [cC n p l]) := by rw [List.getElem?_append_left hwl]; exact hw
 have hlen2 : aj (slA 6 (wAs p (num l))) = some (.int .i64 (l.length : Int)) := by rw [pM, pw]
 unfold H47
 rw [bU _ _ rfl]
 obtain ⟨W1, O, hW, hW1⟩ : ∃ W1 O, cC n p l = .fp [.int .i64 (n : Int), W1, O] /\ W1 = slA 6 (wAs p (num l)) := ⟨_, _, rfl, rfl⟩
 by_cases hml : m < l.length
 ·rw [if_pos hml]
  obtain ⟨d4, d5, d9, d10, d11, hlast⟩ := rX h L hr hk hw hkp hml (hyes hml)
  rw [if_neg (by simp)] at hlast
  have lp := e9 (E := eS GC pQ h) (fuel := 300) (a := dp) (mask := cW) (fun i => ec (.func (.yield L) [] []) (.ptr wp 0 0) (.ptr kp 0 0) (.map X.length) (slA 6 (wAs p (num l))) (.int .i64 (l.length : Int)) (.int .i64 (i : Int))) (fun i => A47 p l n k X i) m
   (fun _ => pf) (fun _ _ h => by cases h) (fun i hi => by
    obtain ⟨_, _, _, _, _, hl⟩ := rX h L hr hk hw hkp (show i < l.length by omega) (hno i (by omega) hi)
    rw [if_pos rfl] at hl
    exact hl) hlast (show m < 300 by omega)
  have lp : bg (evC (eS GC pQ h) 300 dp) cW 300 (ec (.func (.yield L) [] []) (.ptr wp 0 0) (.ptr kp 0 0) (.map X.length) (slA 6 (wAs p (num l))) (.int .i64 (l.length : Int)) (.int .i64 0)) (A47 p l n k X 0) = _ := lp
  rw [ug] at lp
  rw [hW] at hw'
  rw [<- hW1] at lp hlen2
  simp [yO, hw', hlen2, qJ lp, gT, -aj]
 ·rw [if_neg hml]
  have hml' : m = l.length := by omega
  have lp := e9 (E := eS GC pQ h) (fuel := 300) (a := dp) (mask := cW) (fun i => ec (.func (.yield L) [] []) (.ptr wp 0 0) (.ptr kp 0 0) (.map X.length) (slA 6 (wAs p (num l))) (.int .i64 (l.length : Int)) (.int .i64 (i : Int))) (fun i => A47 p l n k X i) l.length
   (o := .exit 0 ((ec (.func (.yield L) [] []) (.ptr wp 0 0) (.ptr kp 0 0) (.map X.length) (slA 6 (wAs p (num l))) (.int .i64 (l.length : Int)) (.int .i64 (l.length : Int))).set 9 (.bool false)) (A47 p l n k X l.length))
   (fun _ => pf) (fun _ _ h => by cases h) (fun i hi => by
    obtain ⟨_, _, _, _, _, hl⟩ := rX h L hr hk hw hkp hi (hno i hi (by omega))
    rw [if_pos rfl] at hl
    exact hl) (by simp [dp]) (show l.length < 300 by omega)
  have lp : bg (evC (eS GC pQ h) 300 dp) cW 300 (ec (.func (.yield L) [] []) (.ptr wp 0 0) (.ptr kp 0 0) (.map X.length) (slA 6 (wAs p (num l))) (.int .i64 (l.length : Int)) (.int .i64 0)) (A47 p l n k X 0) = _ := lp
  rw [ug] at lp
  rw [hW] at hw'
  rw [<- hW1] at lp hlen2
  simp [yO, hw', hlen2, qJ lp, gT, -aj]
def wk (p : Int) (l : List aW) (n k : Nat) (x : eM) : Option (List Int) := gL p l (hm (lar p l) n x.1.f.toNat) k 0 [x] []
def cn (p : Int) (l : List aW) (n k : Nat) : Option (List Int) := (num l).findSome? (wk p l n k)
def jz (p : Int) (l : List aW) (n : Nat) : Option (List Int) := (List.range n).findSome? fun j => cn p l n (j + 1)
def jk : List (FuncId × aL) := [(76, H42), (77, bA 4 M43), (82, H47)]
@[simp] theorem GD : aB jk 76 = some H42 := rfl
@[simp] theorem GB : aB jk 77 = some (bA 4 M43) := rfl
@[simp] theorem GA : aB jk 82 = some H47 := rfl
theorem rF : ∀ f M, aB jk f = some M -> an Try.prog GC f M := ak vo (ak (an.of_pureF Bj 4) (ak vj az))
theorem xM (h0 : bb) {Q : ac} {n k wb rb kb vid : Nat} {p : Int} {l : List aW} (hr : a6 n l p) (hk1 : 1 <= k) (hk : k <= 32) (hw : Q[wb]? = some (.row 1 false [cC n p l])) (hkp : Q[kb]? = some (.row 1 false [.int .i64 (k : Int)])) {i : Nat} (hi : i < l.length) (hv : Q[vid]? = some (.row 6 false [wA p (l[i], i)]))
  (hn : wk p l n k (l[i], i) = none) (v0 v6 v7 v8 v9 v10 v11 v12 v13 : AV) :
  ∃ σ, run (eS GC jk h0) 300 [.code iX] [v0, .ptr wb 0 0, .ptr rb 0 0, .ptr kb 0 0, .ptr vid 0 0, o6 p l n k l[i].f, v6, v7, v8, v9, v10, v11, v12, v13] Q = some (.normal σ Q) := by
 have m := t9 hr hk1 hk (a := (l[i], i)) (show (l[i], i) ∈ num l from List.mem_of_getElem? (dc l i hi)) (to := l[i].f.toNat)
 unfold wk at hn
 rw [hn] at m
 have hH : ∃ T, o6 p l n k l[i].f = .fs 1 T /\ T = uV (lar p l) n l[i].f.toNat k := ⟨_, rfl, rfl⟩
 obtain ⟨T, hT, hT2⟩ := hH
 rw [<- hT2] at m
 rw [hT]
 obtain ⟨W1, O, hW⟩ : ∃ W1 O, cC n p l = .fp [.int .i64 (n : Int), W1, O] := ⟨_, _, rfl⟩
 rw [hW] at hw m
 unfold wA at hv m
 simp only [vb] at m hv
 simp [iX, hw, hkp, hv, m]
theorem uQ (h0 : bb) {Q : ac} {n k wb rb kb vid : Nat} {e2 : AV} {p : Int} {l : List aW} (hr : a6 n l p) (hk1 : 1 <= k) (hk : k <= 32) (hw : Q[wb]? = some (.row 1 false [cC n p l])) (hkp : Q[kb]? = some (.row 1 false [.int .i64 (k : Int)])) (hrb : Q[rb]? = some (.row 1 false [e2])) {i : Nat} (hi : i < l.length) (hv : Q[vid]? = some (.row 6 false [wA p (l[i], i)]))
  {res : List Int} (hn : wk p l n k (l[i], i) = some res) (v0 v6 v7 v8 v9 v10 v11 v12 v13 : AV) :
  ∃ σ, run (eS GC jk h0) 300 [.code iX] [v0, .ptr wb 0 0, .ptr rb 0 0, .ptr kb 0 0, .ptr vid 0 0, o6 p l n k l[i].f, v6, v7, v8, v9, v10, v11, v12, v13] Q = some (.ret σ (Q.set rb (.row 1 false [slA 1 (ag res)]))) := by
 have m := t9 hr hk1 hk (a := (l[i], i)) (show (l[i], i) ∈ num l from List.mem_of_getElem? (dc l i hi)) (to := l[i].f.toNat)
 unfold wk at hn
 rw [hn] at m
 have hH : ∃ T, o6 p l n k l[i].f = .fs 1 T /\ T = uV (lar p l) n l[i].f.toNat k := ⟨_, rfl, rfl⟩
 obtain ⟨T, hT, hT2⟩ := hH
 rw [<- hT2] at m
 rw [hT]
 obtain ⟨W1, O, hW⟩ : ∃ W1 O, cC n p l = .fp [.int .i64 (n : Int), W1, O] := ⟨_, _, rfl⟩
 rw [hW] at hw m
 unfold wA at hv m
 obtain ⟨R, hR⟩ : ∃ R, R = slA 1 (ag res) := ⟨_, rfl⟩
 have hR2 : R = .nilS \/ ∃ T, R = .fs 1 T := by
  rw [hR]; cases ag res with
  | nil => exact .inl rfl
  | cons x r => exact .inr ⟨_, rfl⟩
 simp only [vb, <- hR] at m hv
 rw [<- hR]
 rcases hR2 with rfl | ⟨T2, rfl⟩
 ·simp [iX, hw, hkp, hv, hrb, m]
 ·simp [iX, hw, hkp, hv, hrb, m]
theorem CZ (p : Int) (l : List aW) (n k : Nat) (X : ac) {i : Nat} (hi : i < l.length) : P47 p l n k X i l[i] ++ [.row 6 false [wA p (l[i], i)]] = A47 p l n k X (i + 1) := by
 unfold P47 A47
 rw [CU p l i hi]
 simp
theorem od (p : Int) (l : List aW) (n k : Nat) {X : ac} (i : Nat) {j : Nat} (hj : j < X.length) : (A47 p l n k X i)[j]? = X[j]? := by
 unfold A47; rw [List.getElem?_append_left hj]
theorem oc (p : Int) (l : List aW) (n k : Nat) {X : ac} (i : Nat) {j : Nat} (hj : j < X.length) (e : Ent) : (A47 p l n k X i).set j e = A47 p l n k (X.set j e) i := by
 unfold A47; rw [List.set_append_left _ _ hj]
theorem yo {A : ac} {n : Nat} {e : Ent} (h : A[n]? = some e) (x : Ent) : (A.set n x).set n e = A := by
 rw [List.set_set]
 apply List.ext_getElem?
 intro i
 by_cases hi : n = i
 ·subst hi; rw [List.getElem?_set_self (List.getElem?_eq_some_iff.1 h).1, h]
 ·rw [List.getElem?_set_ne hi]
section
variable {h0 : bb} {X : ac} {r : Loop} {L n k wb rb kb : Nat} {e2 : AV} {p : Int} {l : List aW}
theorem u6 (hr : a6 n l p) (hk1 : 1 <= k) (hk : k <= 32) (hw : X[wb]? = some (.row 1 false [cC n p l])) (hkp : X[kb]? = some (.row 1 false [.int .i64 (k : Int)])) (hrb : X[rb]? = some (.row 1 false [e2])) {i : Nat} (hi : i < l.length) (v0 v4 v5 v6 v7 v8 v9 v10 v11 v12 v13 : AV) :
  gK X.length L r [v0, .ptr wb 0 0, .ptr rb 0 0, .ptr kb 0 0, v4, v5, v6, v7, v8, v9, v10, v11, v12, v13] [10, 11] (evC (eS GC jk h0) 300 m7) (evC (eS GC jk h0) 300 iX) h0 (.func (.yield L) [] []) [wA p (l[i], i), o6 p l n k l[i].f] (P47 p l n k (X ++ [Ent.loop r 0]) i l[i]) =
   match wk p l n k (l[i], i) with
   | none => some (.bool true, A47 p l n k (X ++ [Ent.loop r 0]) (i + 1))
   | some res => some (.bool false, A47 p l n k ((X ++ [Ent.loop r 1]).set rb (.row 1 false [slA 1 (ag res)])) (i + 1)) := by
 have hwl := (List.getElem?_eq_some_iff.1 hw).1
 have hkl := (List.getElem?_eq_some_iff.1 hkp).1
 have hrl := (List.getElem?_eq_some_iff.1 hrb).1
 obtain ⟨P, hP⟩ : ∃ P, P = P47 p l n k (X ++ [Ent.loop r 0]) i l[i] := ⟨_, rfl⟩
 have hQ := CZ p l n k (X ++ [Ent.loop r 0]) hi
 rw [<- hP] at hQ ⊢
 have hPn : P[X.length]? = some (.loop r 0) := by rw [hP, P47, List.getElem?_append_left (by simp)]; simp
 obtain ⟨Q, hQ'⟩ : ∃ Q, Q = P ++ [.row 6 false [wA p (l[i], i)]] := ⟨_, rfl⟩
 have hPl : X.length < P.length := (List.getElem?_eq_some_iff.1 hPn).1
 have hQn : Q[X.length]? = some (.loop r 0) := by rw [hQ', List.getElem?_append_left hPl]; exact hPn
 have hQo : ∀ j, j < X.length -> (Q.set X.length .dead)[j]? = X[j]? := fun j hj => by
  rw [List.getElem?_set_ne (by omega), hQ', hQ, od _ _ _ _ _ (by simp; omega), List.getElem?_append_left hj]
 have hQv : (Q.set X.length .dead)[P.length]? = some (.row 6 false [wA p (l[i], i)]) := by
  rw [List.getElem?_set_ne (by omega), hQ']; simp
 have hasg : ∀ v0 v1 v2 v3 v4 v5 v6 v7 v8 v9 v12 v13, run (eS GC jk h0) 300 [.code m7] [v0, v1, v2, v3, v4, v5, v6, v7, v8, v9, wA p (l[i], i), o6 p l n k l[i].f, v12, v13] P = some (.normal [v0, v1, v2, v3, .ptr P.length 0 0, o6 p l n k l[i].f, v6, v7, v8, v9, wA p (l[i], i), o6 p l n k l[i].f, v12, v13] Q) := by
  intros
  rw [hQ']
  obtain ⟨H, hH⟩ : ∃ H, H = o6 p l n k l[i].f := ⟨_, rfl⟩
  rw [<- hH]
  unfold wA
  simp [m7]
 cases hwk : wk p l n k (l[i], i) with
 | none =>
  obtain ⟨σ, hb⟩ := xM h0 (Q := Q.set X.length .dead) hr hk1 hk ((hQo wb hwl).trans hw) ((hQo kb hkl).trans hkp) (rb := rb) hi hQv hwk v0 v6 v7 v8 v9 (wA p (l[i], i)) (o6 p l n k l[i].f) v12 v13
  unfold gK
  simp [hPn, jD, p7, hasg, hb, hQn, yo hQn]
  rw [hQ', hQ]
 | some res =>
  obtain ⟨σ, hb⟩ := uQ h0 (Q := Q.set X.length .dead) hr hk1 hk ((hQo wb hwl).trans hw) ((hQo kb hkl).trans hkp) ((hQo rb hrl).trans hrb) hi hQv hwk v0 v6 v7 v8 v9 (wA p (l[i], i)) (o6 p l n k l[i].f) v12 v13
  unfold gK
  simp [hPn, jD, p7, hasg, hb, hQn]
  rw [hQ', hQ, oc _ _ _ _ _ (by simp), oc _ _ _ _ _ (by simp; omega), oc _ _ _ _ _ (by simp)]
  congr 1
  rw [List.set_comm _ _ (by omega)]
  congr 1
  simp
end
section
variable {X : ac} {n k wb rb kb wp kp : Nat} {e2 : AV} {p : Int} {l : List aW}
theorem BT (hr : a6 n l p) (hk1 : 1 <= k) (hk : k <= 32) (hw : X[wb]? = some (.row 1 false [cC n p l])) (hkp : X[kb]? = some (.row 1 false [.int .i64 (k : Int)])) (hrb : X[rb]? = some (.row 1 false [e2])) (hw2 : X[wp]? = some (.row 1 false [cC n p l])) (hk2 : X[kp]? = some (.row 1 false [.int .i64 (k : Int)])) (m : Nat) (hm : m <= l.length)
  (hno : ∀ i (hi : i < l.length), i < m -> wk p l n k (l[i], i) = none) (res : List Int) (hyes : ∀ hi : m < l.length, wk p l n k (l[m], m) = some res) (v0 v4 v5 v6 v7 v8 v10 v11 v12 v13 : AV) (K : List KC) :
  run (au GC jk) 300 (.code (.rangeFunc (.var 9) [10, 11] m7 iX) :: K) [v0, .ptr wb 0 0, .ptr rb 0 0, .ptr kb 0 0, v4, v5, v6, v7, v8, .func (.func 82) [] [.ptr wp 0 0, .ptr kp 0 0], v10, v11, v12, v13] X =
   after (au GC jk) 300 K (if m < l.length then .ret [v0, .ptr wb 0 0, .ptr rb 0 0, .ptr kb 0 0, v4, v5, v6, v7, v8, .func (.func 82) [] [.ptr wp 0 0, .ptr kp 0 0], v10, v11, v12, v13] (A47 p l n k ((X ++ [Ent.dead]).set rb (.row 1 false [slA 1 (ag res)])) (m + 1))
    else .normal [v0, .ptr wb 0 0, .ptr rb 0 0, .ptr kb 0 0, v4, v5, v6, v7, v8, .func (.func 82) [] [.ptr wp 0 0, .ptr kp 0 0], v10, v11, v12, v13] (A47 p l n k (X ++ [Ent.dead]) l.length)) := by
 refine pG _ _ _ _ _ fun L r => ?_
 have hrl := (List.getElem?_eq_some_iff.1 hrb).1
 have old : ∀ {q : Nat} {e : Ent}, X[q]? = some e -> (X ++ [Ent.loop r 0])[q]? = some e := fun {q} {e} h => by rw [List.getElem?_append_left (List.getElem?_eq_some_iff.1 h).1]; exact h
 have hc := ev47 (gK X.length L r [v0, .ptr wb 0 0, .ptr rb 0 0, .ptr kb 0 0, v4, v5, v6, v7, v8, .func (.func 82) [] [.ptr wp 0 0, .ptr kp 0 0], v10, v11, v12, v13] [10, 11] (evC (eS GC jk fun _ _ _ => none) 300 m7) (evC (eS GC jk fun _ _ _ => none) 300 iX) fun _ _ _ => none) L (X := X ++ [Ent.loop r 0]) hr hk (old hw2) (old hk2) m hm
  (fun i hi him => by rw [u6 hr hk1 hk hw hkp hrb hi, hno i hi him]) (A47 p l n k ((X ++ [Ent.loop r 1]).set rb (.row 1 false [slA 1 (ag res)])) (m + 1)) (fun hi => by rw [u6 hr hk1 hk hw hkp hrb hi, hyes hi])
 have hcall : lP jk (gK X.length L r [v0, .ptr wb 0 0, .ptr rb 0 0, .ptr kb 0 0, v4, v5, v6, v7, v8, .func (.func 82) [] [.ptr wp 0 0, .ptr kp 0 0], v10, v11, v12, v13] [10, 11] (evC (eS GC jk fun _ _ _ => none) 300 m7) (evC (eS GC jk fun _ _ _ => none) 300 iX) fun _ _ _ => none)
   (.func (.func 82) [] [.ptr wp 0 0, .ptr kp 0 0]) [.func (.yield L) [] []] (X ++ [Ent.loop r 0]) = _ := hc
 show (match lP jk _ (.func (.func 82) [] [.ptr wp 0 0, .ptr kp 0 0]) [.func (.yield L) [] []] (X ++ [Ent.loop r 0]) with
  | some (_, A') => n8 X.length _ A'
  | none => none) = _
 erw [hcall]
 by_cases hml : m < l.length
 ·simp only [if_pos hml]
  have e1 : (A47 p l n k ((X ++ [Ent.loop r 1]).set rb (.row 1 false [slA 1 (ag res)])) (m + 1))[X.length]? = some (.loop r 1) := by
   rw [od _ _ _ _ _ (by simp), List.getElem?_set_ne (by omega)]; simp
  simp only [n8, e1]
  rw [oc _ _ _ _ _ (by simp), List.set_comm _ _ (by omega)]
  have e2 : (X ++ [Ent.loop r 1]).set X.length .dead = X ++ [Ent.dead] := by simp
  rw [e2]; rfl
 ·simp only [if_neg hml]
  have e1 : (A47 p l n k (X ++ [Ent.loop r 0]) l.length)[X.length]? = some (.loop r 0) := by
   rw [od _ _ _ _ _ (by simp)]; simp
  simp only [n8, e1]
  rw [oc _ _ _ _ _ (by simp)]
  have e2 : (X ++ [Ent.loop r 0]).set X.length .dead = X ++ [Ent.dead] := by simp
  rw [e2]; rfl
end
theorem gv {α β : Type} (f : α -> Option β) (xs : List α) : (xs.findSome? f = none /\ ∀ x ∈ xs, f x = none) \/ ∃ (m : Nat) (hm : m < xs.length) (r : β), xs.findSome? f = some r /\ f xs[m] = some r /\ ∀ i (hi : i < m), f (xs[i]'(by omega)) = none := by
 induction xs with
 | nil => exact .inl ⟨rfl, by simp⟩
 | cons x xs ih =>
  cases hx : f x with
  | some r =>
   exact .inr ⟨0, by simp, r, by simp [hx], hx, fun i hi => by omega⟩
  | none =>
   rcases ih with ⟨h1, h2⟩ | ⟨m, hm, r, h1, h2, h3⟩
   ·refine .inl ⟨by simp [hx, h1], fun y hy => ?_⟩
    rcases List.mem_cons.1 hy with rfl | hy
    ·exact hx
    ·exact h2 y hy
   ·refine .inr ⟨m + 1, by simp; omega, r, by simp [hx, h1], by simpa using h2, fun i hi => ?_⟩
    cases i with
    | zero => exact hx
    | succ i => simpa using h3 i (by omega)
def M27 : aT := fun args => evP (au GC jk) 300 tz 5 args
theorem sW : aq Try.prog GC 58 M27 := aq.of_ev (E := au GC jk) (av rF) rfl H9 xd 5 fun _ _ h => ⟨300, h⟩
def FK (n : Nat) (p : Int) (l : List aW) (k kb : Nat) (A : ac) : Prop := A[0]? = some (.row 1 false [cC n p l]) /\ A[1]? = some (.row 1 false [.nilS]) /\ A[kb]? = some (.row 1 false [.int .i64 (k : Int)]) /\ 2 <= kb
theorem rZ {n : Nat} {p : Int} {l : List aW} {k kb : Nat} {A : ac} (hI : FK n p l k kb A) (hk : n < k) : run (au GC jk) 300 [.code iW] (iN (.ptr 0 0 0) (.ptr 1 0 0) (.ptr kb 0 0)) A = some (.exit 0 ((iN (.ptr 0 0 0) (.ptr 1 0 0) (.ptr kb 0 0)).set 8 (.bool false)) A) := by
 obtain ⟨h0, h1, h2, h3⟩ := hI
 obtain ⟨W1, O, hW⟩ : ∃ W1 O, cC n p l = .fp [.int .i64 (n : Int), W1, O] := ⟨_, _, rfl⟩
 rw [hW] at h0
 have b : af .leq (.int .i64 (k : Int)) (.int .i64 (n : Int)) = some (.bool false) := by simp [af]; omega
 simp [iW, h0, h2, b, -af]
theorem BO {n : Nat} {p : Int} {l : List aW} {k kb : Nat} {A : ac} (hr : a6 n l p) (hI : FK n p l k kb A) (hk1 : 1 <= k) (hk : k <= n) :
  (cn p l n k = none /\ ∃ A' kb' σ', run (au GC jk) 300 [.code iW] (iN (.ptr 0 0 0) (.ptr 1 0 0) (.ptr kb 0 0)) A = some (.normal σ' A') /\ clear iG σ' = iN (.ptr 0 0 0) (.ptr 1 0 0) (.ptr kb' 0 0) /\ FK n p l (k + 1) kb' A') \/
  (∃ res, cn p l n k = some res /\ ∃ A' v0 v3 v4 v5 v6 v7 v8 v9 v10 v11 v12 v13, run (au GC jk) 300 [.code iW] (iN (.ptr 0 0 0) (.ptr 1 0 0) (.ptr kb 0 0)) A = some (.ret [v0, .ptr 0 0 0, .ptr 1 0 0, v3, v4, v5, v6, v7, v8, v9, v10, v11, v12, v13] A') /\ A'[1]? = some (.row 1 false [slA 1 (ag res)])) := by
 obtain ⟨h0, h1, h2, h3⟩ := hI
 have hn32 := hr.1.1
 have h1l := (List.getElem?_eq_some_iff.1 h1).1
 have h2l := (List.getElem?_eq_some_iff.1 h2).1
 obtain ⟨X, hX⟩ : ∃ X, X = A ++ [.row 1 false [cC n p l], .row 1 false [.int .i64 (k : Int)]] := ⟨_, rfl⟩
 have hXo : ∀ j, j < A.length -> X[j]? = A[j]? := fun j hj => by rw [hX, List.getElem?_append_left hj]
 have x0 := (hXo 0 (by omega)).trans h0
 have x1 := (hXo 1 h1l).trans h1
 have x2 := (hXo kb h2l).trans h2
 have x3 : X[A.length]? = some (.row 1 false [cC n p l]) := by rw [hX]; simp
 have x4 : X[A.length + 1]? = some (.row 1 false [.int .i64 (k : Int)]) := by rw [hX, List.getElem?_append_right (by omega)]; simp
 have hXl : X.length = A.length + 2 := by rw [hX]; simp
 have b : af .leq (.int .i64 (k : Int)) (.int .i64 (n : Int)) = some (.bool true) := by simp [af]; omega
 have c42 : H42 (fun _ _ _ => none) [cC n p l, .int .i64 (k : Int)] A = some (.func (.func 82) [] [.ptr A.length 0 0, .ptr (A.length + 1) 0 0], X) := by
  rw [hX]; exact ev42 _ _ _ _
 have rg := fun m hm hno res hyes => BT (X := X) (wb := 0) (rb := 1) (kb := kb) (wp := A.length) (kp := A.length + 1) hr hk1 (by omega) x0 x2 x1 x3 x4 m hm hno res hyes .undef .undef .undef .undef .undef (.bool true) .undef .undef .undef .undef
 have b3 := aK k (by omega)
 obtain ⟨k1, hk1'⟩ : ∃ k1 : Nat, k1 = k + 1 := ⟨_, rfl⟩
 rw [<- hk1'] at b3 ⊢
 obtain ⟨W1, O, hW⟩ : ∃ W1 O, cC n p l = .fp [.int .i64 (n : Int), W1, O] := ⟨_, _, rfl⟩
 have hlk : aB jk 76 = some H42 := rfl
 have hnl := dB l
 rcases gv (wk p l n k) (num l) with ⟨q1, q2⟩ | ⟨m, hm, res, q1, q2, q3⟩
 ·left
  refine ⟨q1, ?_⟩
  have rg1 := rg l.length (Nat.le_refl _) (fun i hi _ => q2 _ (List.mem_of_getElem? (dc l i hi))) [] (fun h => absurd h (Nat.lt_irrefl _))
  rw [if_neg (Nat.lt_irrefl _)] at rg1
  obtain ⟨D, hD⟩ : ∃ D, D = A47 p l n k (X ++ [Ent.dead]) l.length := ⟨_, rfl⟩
  rw [<- hD] at rg1
  have hDo : ∀ j, j < X.length -> D[j]? = X[j]? := fun j hj => by rw [hD, od _ _ _ _ _ (by simp; omega), List.getElem?_append_left hj]
  have hDl : X.length <= D.length := by rw [hD]; simp [A47]
  have d2 := (hDo kb (by omega)).trans x2
  refine ⟨D ++ [.row 1 false [.int .i64 (k1 : Int)]], D.length, [.undef, .ptr 0 0 0, .ptr 1 0 0, .ptr D.length 0 0, .undef, .undef, .undef, .undef, .undef, .undef, .undef, .undef, .undef, .int .i64 (k : Int)], ?_, xE, ?_, ?_, ?_, by omega⟩
  ·rw [hW] at h0 c42
   obtain ⟨Z, hZ⟩ : ∃ Z, Z = A.length + 1 := ⟨_, rfl⟩
   obtain ⟨Y, hY⟩ : ∃ Y, Y = A.length := ⟨_, rfl⟩
   rw [<- hZ, <- hY] at c42 rg1
   simp [iW, h0, h2, b, c42, rg1, d2, b3, -af]
  ·rw [List.getElem?_append_left (by omega), hDo 0 (by omega)]; exact x0
  ·rw [List.getElem?_append_left (by omega), hDo 1 (by omega)]; exact x1
  ·simp
 ·right
  refine ⟨res, q1, ?_⟩
  rw [hnl] at hm
  have hnm : ∀ i (hi : i < l.length), (num l)[i]'(by omega) = (l[i], i) := fun i hi => by
   have := dc l i hi
   rw [List.getElem?_eq_getElem (by omega)] at this
   exact Option.some.inj this
  have rg1 := rg m (by omega) (fun i hi him => by rw [<- hnm i hi]; exact q3 i him) res (fun hi => by rw [<- hnm m hi]; exact q2)
  rw [if_pos hm] at rg1
  obtain ⟨D, hD⟩ : ∃ D, D = A47 p l n k ((X ++ [Ent.dead]).set 1 (.row 1 false [slA 1 (ag res)])) (m + 1) := ⟨_, rfl⟩
  rw [<- hD] at rg1
  refine ⟨D, .undef, .ptr kb 0 0, .undef, .undef, .undef, .undef, .bool true, .func (.func 82) [] [.ptr A.length 0 0, .ptr (A.length + 1) 0 0], .undef, .undef, .undef, .undef, ?_, ?_⟩
  ·rw [hW] at h0 c42
   obtain ⟨Z, hZ⟩ : ∃ Z, Z = A.length + 1 := ⟨_, rfl⟩
   obtain ⟨Y, hY⟩ : ∃ Y, Y = A.length := ⟨_, rfl⟩
   rw [<- hZ, <- hY] at c42 rg1 ⊢
   simp [iW, h0, h2, b, c42, rg1, -af]
  ·rw [hD, od _ _ _ _ _ (by simp; omega), List.getElem?_set_self (by simp; omega)]
theorem ub {n : Nat} {p : Int} {l : List aW} (hr : a6 n l p) : M27 [cC n p l] = some (slA 1 (ag ((jz p l n).getD []))) := by
 have hn32 := hr.1.1
 obtain ⟨o, h1, h2⟩ := da (E := au GC jk) (fuel := 300) (a := iW) (mask := iG)
  (fun κ σ A => ∃ k kb, k + κ = n + 1 /\ 1 <= k /\ clear iG σ = iN (.ptr 0 0 0) (.ptr 1 0 0) (.ptr kb 0 0) /\ FK n p l k kb A /\ ∀ j, j + 1 < k -> cn p l n (j + 1) = none)
  (fun o => (∃ k res A' v0 v3 v4 v5 v6 v7 v8 v9 v10 v11 v12 v13, k < n /\ cn p l n (k + 1) = some res /\ (∀ j, j < k -> cn p l n (j + 1) = none) /\ o = .ret [v0, .ptr 0 0 0, .ptr 1 0 0, v3, v4, v5, v6, v7, v8, v9, v10, v11, v12, v13] A' /\ A'[1]? = some (.row 1 false [slA 1 (ag res)])) \/
   ((∀ j, j < n -> cn p l n (j + 1) = none) /\ ∃ kb A', o = .exit 0 ((iN (.ptr 0 0 0) (.ptr 1 0 0) (.ptr kb 0 0)).set 8 (.bool false)) A' /\ A'[1]? = some (.row 1 false [.nilS])))
  (by
   rintro κ σ A ⟨k, kb, hk, hk1, hσ, hI, hno⟩
   rw [hσ]
   by_cases hkn : k <= n
   ·rcases BO hr hI hk1 hkn with ⟨q1, A', kb', σ', c1, c2, c3⟩ | ⟨res, q1, A', v0, v3, v4, v5, v6, v7, v8, v9, v10, v11, v12, v13, c1, c2⟩
    ·refine .inl ⟨σ', A', c1, κ - 1, by omega, k + 1, kb', by omega, by omega, c2, c3, fun j hj => ?_⟩
     by_cases hjk : j + 1 = k
     ·rw [hjk]; exact q1
     ·exact hno j (by omega)
    ·refine .inr ⟨_, c1, (fun _ _ h => by cases h), .inl ⟨k - 1, res, A', v0, v3, v4, v5, v6, v7, v8, v9, v10, v11, v12, v13, by omega, by rw [show k - 1 + 1 = k by omega]; exact q1, fun j hj => hno j (by omega), rfl, c2⟩⟩
   ·refine .inr ⟨_, rZ hI (by omega), (fun _ _ h => by cases h), .inr ⟨fun j hj => hno j (by omega), kb, A, rfl, hI.2.1⟩⟩)
  300 n (iN (.ptr 0 0 0) (.ptr 1 0 0) (.ptr 2 0 0)) [.row 1 false [cC n p l], .row 1 false [.nilS], .row 1 false [.int .i64 1]] (by omega) ⟨1, 2, by omega, by omega, xE, ⟨rfl, rfl, rfl, by omega⟩, fun j hj => by omega⟩
 have hc : ∀ k res, k < n -> cn p l n (k + 1) = some res -> (∀ j, j < k -> cn p l n (j + 1) = none) -> jz p l n = some res := fun k res hk h1 h2 => by
  unfold jz
  rcases gv (fun j => cn p l n (j + 1)) (List.range n) with ⟨q1, q2⟩ | ⟨m, hm, r, q1, q2, q3⟩
  ·have := q2 k (by simp; omega)
   rw [h1] at this; cases this
  ·simp only [List.getElem_range] at q2 q3
   simp only [List.length_range] at hm
   rw [q1]
   rcases Nat.lt_trichotomy m k with h | h | h
   ·rw [h2 m h] at q2; cases q2
   ·rw [h] at q2; rw [h1] at q2; exact q2.symm
   ·rw [q3 k h] at h1; cases h1
 have hc2 : (∀ j, j < n -> cn p l n (j + 1) = none) -> jz p l n = none := fun h => by
  unfold jz
  rw [List.findSome?_eq_none_iff]
  intro j hj
  exact h j (by simpa using hj)
 obtain ⟨W1, O, hW⟩ : ∃ W1 O, cC n p l = .fp [.int .i64 (n : Int), W1, O] := ⟨_, _, rfl⟩
 unfold M27
 rw [aN _ _ rfl]
 rw [hW] at h1 ⊢
 rcases h2 with ⟨k, res, A', v0, v3, v4, v5, v6, v7, v8, v9, v10, v11, v12, v13, hk, q1, q2, rfl, q3⟩ | ⟨q1, kb, A', rfl, q3⟩
 ·rw [hc k res hk q1 q2]
  simp only [Option.getD_some]
  have hfz : frz A' 5 (slA 1 (ag res)) = slA 1 (ag res) := jl _ _ _ _
  have hR2 : slA 1 (ag res) = .nilS \/ ∃ T, slA 1 (ag res) = .fs 1 T := by
   cases ag res with
   | nil => exact .inl rfl
   | cons x r => exact .inr ⟨_, rfl⟩
  rcases hR2 with e | ⟨T, e⟩
  ·rw [e] at q3 ⊢
   simp [tz, wv h1, q3]
  ·rw [e] at q3 ⊢
   simp [tz, wv h1, q3]
 ·rw [hc2 q1]
  have hset : (A'.set 1 (.row 1 false [.nilS]))[1]? = some (.row 1 false [.nilS]) := List.getElem?_set_self (List.getElem?_eq_some_iff.1 q3).1
  simp [tz, wv h1, q3, hset, slA, ag]
def wz : List (FuncId × aL) := [(55, bA 4 M25), (56, bA 4 M26), (58, aF 4 M27)]
@[simp] theorem HA : aB wz 55 = some (bA 4 M25) := rfl
@[simp] theorem Hz : aB wz 56 = some (bA 4 M26) := rfl
@[simp] theorem Hy : aB wz 58 = some (aF 4 M27) := rfl
theorem rN : ∀ f M, aB wz f = some M -> an Try.prog GC f M := ak (an.of_pureF pB 4) (ak (an.of_pureF vw 4) (ak (an.of_pure sW 4) az))
def H14 : aL := fun _ => cu (au GC wz) 0 yg
theorem qs : an Try.prog GC 31 H14 := (cI (av rN) rfl Ik xq bC.nil).y
open Classical in
def lvM (n : Int) (l : List aW) (p : Int) : List Int × List Int × Bool :=
 if a6 n l p then (if (a7 (lar p l) n.toNat).2 = true then ((a7 (lar p l) n.toNat).1, [], true) else ([], (jz p l n.toNat).getD [], false)) else ([], [], false)
def lvT (r : List Int × List Int × Bool) : AV := .tup [slA 1 (ag r.1), slA 1 (ag r.2.1), .bool r.2.2]
open Classical in
theorem E7 (h : bb) {A : ac} {a a' : AV} {l : List aW} (ha : frz A 4 a = a') (hl : aX a' = some l) (n p : Int) : H14 h [.int .i64 n, a, .int .i64 p] A = some (lvT (lvM n l p), A) := by
 have m1 : M25 [.int .i64 n, a', .int .i64 p] = some (if a6 n l p then .tup [cC n.toNat p l, .bool true] else .tup [.nilP, .bool false]) := by simp only [M25, hl, Option.map_some]
 unfold H14
 rw [bU _ _ rfl]
 by_cases hr : a6 n l p
 rotate_left
 ·rw [if_neg hr] at m1
  have e : lvM n l p = ([], [], false) := if_neg hr
  rw [e]
  simp [yg, ha, m1, aS, gT, lvT, slA, ag, -frz]
 rw [if_pos hr] at m1
 obtain ⟨m, rfl⟩ : ∃ m : Nat, n = (m : Int) := ⟨n.toNat, by have := hr.1.1; omega⟩
 rw [Int.toNat_natCast] at m1
 have m2 := lD hr
 have m3 := ub hr
 obtain ⟨W1, O, hW⟩ : ∃ W1 O, cC m p l = .fp [.int .i64 (m : Int), W1, O] := ⟨_, _, rfl⟩
 rw [hW] at m1 m2 m3
 have hfw : ∀ B, frz B 4 (.fp [.int .i64 (m : Int), W1, O]) = .fp [.int .i64 (m : Int), W1, O] := fun _ => rfl
 have hnr : be 4 (.fp [.int .i64 (m : Int), W1, O]) = true := rfl
 by_cases hok : (a7 (lar p l) m).2 = true
 ·have e : lvM m l p = ((a7 (lar p l) m).1, [], true) := by
   unfold lvM; rw [if_pos hr, Int.toNat_natCast, if_pos hok]
  rw [e]
  rw [hok] at m2
  obtain ⟨xs, hxs⟩ : ∃ xs, xs = (a7 (lar p l) m).1 := ⟨_, rfl⟩
  rw [<- hxs] at m2 ⊢
  obtain ⟨T, hT⟩ : ∃ T, T = slA 1 (ag xs) := ⟨_, rfl⟩
  rw [<- hT] at m2
  simp [yg, ha, m1, m2, aS, hfw, gT, lvT, <- hT, -frz]
  simp [slA, ag]
 ·have e : lvM m l p = ([], (jz p l m).getD [], false) := by
   unfold lvM; rw [if_pos hr, Int.toNat_natCast, if_neg hok]
  rw [e]
  rw [Bool.not_eq_true] at hok
  rw [hok] at m2
  obtain ⟨S, hS⟩ : ∃ S, S = slA 1 (ag (a7 (lar p l) m).1) := ⟨_, rfl⟩
  rw [<- hS] at m2
  obtain ⟨T, hT⟩ : ∃ T, T = slA 1 (ag ((jz p l m).getD [])) := ⟨_, rfl⟩
  rw [<- hT] at m3
  simp [yg, ha, m1, m2, m3, aS, hfw, gT, lvT, <- hT, -frz]
  simp [slA, ag]
theorem aZ (A : ac) (n : Nat) (b : Bool) : frz A n (.bool b) = .bool b := by cases n <;> rfl
def kE (x : Int) : Bool := !decide (0 <= x /\ x <= 1000000000)
def M35 : aT := fun args => match args with
 | [.int .i64 x] => some (.bool (kE x))
 | _ => none
theorem vp : aq Try.prog GC 59 M35 := by
 refine aq.of_ev (E := au GC fsW) (av qt) rfl H6 xb 1 ?_
 intro args r h
 unfold M35 at h
 split at h
 ·rename_i x
  injection h with h; subst h
  refine ⟨0, ?_⟩
  have m := ee x 0 1000000000
  unfold kE
  obtain ⟨d, hd⟩ : ∃ d, d = decide (0 <= x /\ x <= 1000000000) := ⟨_, rfl⟩
  rw [<- hd] at m ⊢
  rw [aN _ _ rfl]
  simp [C5, m, -af]
 ·cases h
def kF (n : Nat) (x : Int) : Bool := !decide (0 <= x /\ x <= (n : Int) - 1)
def M46 : aT := fun args => evP (au GC fsW) 0 B6 1 args
theorem vk : aq Try.prog GC 75 M46 := aq.of_ev (E := au GC fsW) (av qt) rfl HV wS 1 fun _ _ h => ⟨0, h⟩
theorem x7 {n : Nat} {p : Int} {l : List aW} (hl : l.length <= 200) (x : Int) : M46 [.int .i64 x, .fp [cC n p l]] = some (.bool (kF l.length x)) := by
 have m := ee x 0 ((l.length : Int) - 1)
 have hlen2 : aj (slA 6 (wAs p (num l))) = some (.int .i64 (l.length : Int)) := by rw [pM, pw]
 have b0 : af .sub (.int .i64 (l.length : Int)) (.int .i64 1) = some (.int .i64 ((l.length : Int) - 1)) := by
  simp only [af]; rw [if_pos trivial, dl (by unfold inI; omega)]
 obtain ⟨W1, O, hW, hW1⟩ : ∃ W1 O, cC n p l = .fp [.int .i64 (n : Int), W1, O] /\ W1 = slA 6 (wAs p (num l)) := ⟨_, _, rfl, rfl⟩
 rw [<- hW1] at hlen2
 rw [hW]
 unfold kF
 obtain ⟨k, hk⟩ : ∃ k, k = (l.length : Int) - 1 := ⟨_, rfl⟩
 rw [<- hk] at m b0 ⊢
 obtain ⟨d, hd⟩ : ∃ d, d = decide (0 <= x /\ x <= k) := ⟨_, rfl⟩
 rw [<- hd] at m ⊢
 unfold M46
 rw [aN _ _ rfl]
 simp [B6, hlen2, b0, m, -af, -aj]
def yi : List (FuncId × aL) := [(59, aF 4 M35), (75, aF 4 M46)]
@[simp] theorem Gh : aB yi 59 = some (aF 4 M35) := rfl
@[simp] theorem Gg : aB yi 75 = some (aF 4 M46) := rfl
theorem Bs : ∀ f M, aB yi f = some M -> an Try.prog GC f M := ak (an.of_pure vp 4) (ak (an.of_pure vk 4) az)
def M45 : aT := fun args => evP (au GC yi) 300 yP 1 args
theorem vl : aq Try.prog GC 78 M45 := aq.of_ev (E := au GC yi) (av Bs) rfl HW wT 1 fun _ _ h => ⟨300, h⟩
theorem A5 {f : FuncId} {cap : List AV} {Mf : aT} (hlk : aB yi f = some (aF 4 Mf)) {q : Int -> Bool} {xs : List Int} (hm : ∀ x ∈ xs, ∀ A, Mf (.int .i64 x :: cap.map (frz A 4)) = some (.bool (q x))) {b : AV} (hb : SlA 1 (ag xs) b) (hl : xs.length <= 200) :
  M45 [b, .func (.func f) [] cap] = some (.int .i64 (cy q xs)) := by
 have hlen := hb.len
 rw [aA] at hlen
 have round : ∀ (A : ac) (i : Nat) (hi : i < xs.length), run (au GC yi) 300 [.code iU] (kK b (.func (.func f) [] cap) (.int .i64 (xs.length : Int)) (.int .i64 (i : Int))) A =
   if q xs[i] = false then some (.normal (kK b (.func (.func f) [] cap) (.int .i64 (xs.length : Int)) (.int .i64 ((i + 1 : Nat) : Int))) A) else some (.ret [b, .func (.func f) [] cap, .int .i64 (i : Int), .int .i64 (i : Int), .int .i64 (xs.length : Int), .int .i64 (i : Int), .bool true, .bool true] A) := fun A i hi => by
  have x1 := hb.int (A := A) _ _ (List.getElem?_eq_getElem hi) .i64
  have m := hm _ (List.getElem_mem hi) A
  have b1 := bc i xs.length .i64
  rw [decide_eq_true hi] at b1
  have b3 := aK i (by omega)
  obtain ⟨i1, hi1⟩ : ∃ i1 : Nat, i1 = i + 1 := ⟨_, rfl⟩
  rw [<- hi1] at b3 ⊢
  obtain ⟨d, hd⟩ : ∃ d, d = q xs[i] := ⟨_, rfl⟩
  rw [<- hd] at m ⊢
  cases d with
  | false => simp [iU, x1, hlk, m, b1, b3, -af, -ab, -aj]
  | true => simp [iU, x1, hlk, m, b1, -af, -ab, -aj]
 unfold M45
 rw [aN _ _ rfl]
 rcases bz (E := au GC yi) (fuel := 300) (a := iU) (mask := iE) (fun i => kK b (.func (.func f) [] cap) (.int .i64 (xs.length : Int)) (.int .i64 (i : Int))) (fun _ => []) xs.length (fun i => ¬ ∀ hi : i < xs.length, q xs[i] = false)
  (oF := fun i => .ret [b, .func (.func f) [] cap, .int .i64 (i : Int), .int .i64 (i : Int), .int .i64 (xs.length : Int), .int .i64 (i : Int), .bool true, .bool true] []) (oE := .exit 0 ((kK b (.func (.func f) [] cap) (.int .i64 (xs.length : Int)) (.int .i64 (xs.length : Int))).set 6 (.bool false)) [])
  (fun _ => AG) (fun _ _ _ h => by cases h) (fun _ _ h => by cases h)
  (fun i hi hp => by
   rw [round [] i hi]
   exact if_pos (Classical.not_not.1 hp hi))
  (fun i hi hp => by
   rw [round [] i hi]
   exact if_neg fun h => hp fun _ => h)
  (by simp [iU]) (show xs.length < 300 by omega) with ⟨i, hi, hp, hj, lp⟩ | ⟨hp, lp⟩
 ·have lp : bg (evC (au GC yi) 300 iU) iE 300 (kK b (.func (.func f) [] cap) (.int .i64 (xs.length : Int)) (.int .i64 0)) [] = _ := lp
  have e : cy q xs = (i : Int) := a9 hi (by
   cases h' : q xs[i] with
   | true => rfl
   | false => exact absurd (fun _ => h') hp) (fun j hj' => Classical.not_not.1 (hj j hj') (by omega))
  rw [e]
  simp [yP, hlen, Ad lp, -af, -aj]
 ·have lp : bg (evC (au GC yi) 300 iU) iE 300 (kK b (.func (.func f) [] cap) (.int .i64 (xs.length : Int)) (.int .i64 0)) [] = _ := lp
  have e : cy q xs = -1 := ba fun i hi => Classical.not_not.1 (hp i hi) hi
  rw [e]
  simp [yP, hlen, Ad lp, -af, -aj]
def Fr : List (FuncId × aL) := [(78, aF 4 M45)]
@[simp] theorem Gr : aB Fr 78 = some (aF 4 M45) := rfl
theorem By : ∀ f M, aB Fr f = some M -> an Try.prog GC f M := ak (an.of_pure vl 4) az
def M36 : aT := fun args => evP (au GC Fr) 0 B8 1 args
theorem sV : aq Try.prog GC 61 M36 := aq.of_ev (E := au GC Fr) (av By) rfl H5 xa 1 fun _ _ h => ⟨0, h⟩
theorem A6 {F : AV} {q : Int -> Bool} {xs : List Int} {b : AV} (hb : SlA 1 (ag xs) b) (hF : ∀ A, frz A 4 F = F) (h : M45 [b, F] = some (.int .i64 (cy q xs))) : M36 [b, F] = some (.bool (xs.any q)) := by
 have b1 := pO (cy q xs)
 rw [cf] at b1
 have f1 : ∀ A n, frz A n b = b := fun A n => hb.frz n
 obtain ⟨z, hz⟩ : ∃ z, z = cy q xs := ⟨_, rfl⟩
 rw [<- hz] at h b1
 unfold M36
 rw [aN _ _ rfl]
 simp [B8, f1, hF, h, b1, bQ, aZ, -af, -frz]
def bY (n : Int) (l : List aW) (p : Int) (s : List Int) : Prop := a6 n l p /\ (s.length : Int) = n /\ (∀ x ∈ s, 0 <= x /\ x <= 1000000000) /\ kD (lar p l) s
open Classical in
def M19 : aT := fun args => match args with
 | [.int .i64 n, a, .int .i64 p, b] => match aX a, ey b with
  | some l, some s => some (.bool (decide (bY n l p s)))
  | _, _ => none
 | _ => none
def mq : List (FuncId × aL) := [(55, bA 4 M25), (61, aF 4 M36), (62, fun _ => cu (au GC []) 300 pK), (63, fun _ => cu (au GC []) 0 uT)]
@[simp] theorem Hl : aB mq 55 = some (bA 4 M25) := rfl
@[simp] theorem Hk : aB mq 61 = some (aF 4 M36) := rfl
@[simp] theorem Hj : aB mq 62 = some (fun _ => cu (au GC []) 300 pK) := rfl
@[simp] theorem Hi : aB mq 63 = some (fun _ => cu (au GC []) 0 uT) := rfl
theorem rK : ∀ f M, aB mq f = some M -> an Try.prog GC f M := ak (an.of_pureF pB 4) (ak (an.of_pure sV 4) (ak qp (ak qo az)))
theorem wB (A : ac) : frz A 4 (.func (.func 59) [] []) = .func (.func 59) [] [] := rfl
theorem po (s : List Int) : s.any kE = false ↔ ∀ x ∈ s, 0 <= x /\ x <= 1000000000 := by
 rw [List.any_eq_false]; unfold kE; simp
open Classical in
theorem qq : aq Try.prog GC 32 M19 := by
 refine aq.of_ev (E := au GC mq) (av rK) rfl Ig xm 1 ?_
 intro args r h
 unfold M19 at h
 split at h
 rotate_left
 ·cases h
 rename_i n a p b
 split at h
 rotate_left
 ·cases h
 rename_i l s hl hs
 injection h with h; subst h
 refine ⟨0, ?_⟩
 obtain ⟨hb, _, hsl⟩ := dC hs
 have f1 : ∀ A n, frz A n a = a := fun A n => bX hl A n
 have f2 : ∀ A n, frz A n b = b := fun A n => hb.frz n
 have f3 := bL hl
 have f4 := li hs
 have m1 : M25 [.int .i64 n, a, .int .i64 p] = some (if a6 n l p then .tup [cC n.toNat p l, .bool true] else .tup [.nilP, .bool false]) := by simp only [M25, hl, Option.map_some]
 have hlen := hb.len
 have hlen' : (s.map (AV.int .i64)).length = s.length := by simp
 rw [hlen'] at hlen
 rw [aN _ _ rfl]
 by_cases hr : a6 n l p
 rotate_left
 ·rw [if_neg hr] at m1
  rw [decide_eq_false (show ¬ bY n l p s from fun h => hr h.1)]
  simp [yf, f1, m1, aS, aZ, -frz, -aj]
 rw [if_pos hr] at m1
 have b1 : af .eql (.int .i64 (s.length : Int)) (.int .i64 n) = some (.bool (decide ((s.length : Int) = n))) := by simp [af]
 obtain ⟨m, rfl⟩ : ∃ m : Nat, n = (m : Int) := ⟨n.toNat, by have := hr.1.1; omega⟩
 rw [Int.toNat_natCast] at m1
 obtain ⟨W1, O, hW⟩ : ∃ W1 O, cC m p l = .fp [.int .i64 (m : Int), W1, O] := ⟨_, _, rfl⟩
 by_cases h1 : (s.length : Int) = (m : Int)
 rotate_left
 ·rw [decide_eq_false h1] at b1
  rw [decide_eq_false (show ¬ bY m l p s from fun h => h1 h.2.1)]
  rw [hW] at m1
  simp [yf, f1, m1, hlen, b1, aS, aZ, -frz, -aj, -af]
 rw [decide_eq_true h1] at b1
 have hm32 := hr.1.1
 have m45 := A5 (f := 59) (cap := []) (Mf := M35) rfl (q := kE) (xs := s) (fun x _ A => rfl) hb (by omega)
 have m36 := A6 (q := kE) hb (fun A => rfl) m45
 by_cases h2 : ∀ x ∈ s, 0 <= x /\ x <= 1000000000
 rotate_left
 ·have h2' : s.any kE = true := by
   cases h : s.any kE with
   | true => rfl
   | false => exact absurd ((po s).1 h) h2
  rw [h2'] at m36
  rw [decide_eq_false (show ¬ bY m l p s from fun h => h2 h.2.2.1)]
  rw [hW] at m1
  simp [yf, f1, f2, m1, hlen, b1, m36, aS, aZ, bQ, wB, -frz, -aj, -af]
 rw [(po s).2 h2] at m36
 have hsm : s.length = m := by omega
 have hne : s ≠ [] := by
  intro h
  rw [h] at hsm
  simp at hsm; omega
 have c38 := I7 (au GC []) 0 (A := []) (a := b) (xs := s) (.inl hb) hne (by omega)
 obtain ⟨A', c37, _⟩ := xL (A := [.dead, .row 1 false (ag s)]) (id := 1) hsm hr.2 hr.1.2.2 (by omega) hr.1.2.1 (hi := 1000000000) (fun v hv => by
  have : s.getD v 0 ∈ s := by rw [List.getD_eq_getElem?_getD, List.getElem?_eq_getElem hv]; simp
  have := h2 _ this
  omega) (by omega) rfl
 have e : decide (bY m l p s) = !upL (lar p l) s := by
  cases hu : upL (lar p l) s with
  | true =>
   exact decide_eq_false fun h => by rw [mB h.2.2.2] at hu; cases hu
  | false =>
   exact decide_eq_true ⟨hr, h1, h2, (fI hu).2⟩
 rw [e]
 rw [hsm] at c38
 rw [hW] at m1 c37
 simp at c38
 simp [yf, f1, f2, m1, hlen, b1, m36, c38, c37, aS, aZ, bQ, wB, -frz, -aj, -af]
end Cy
end Go.Proofs.Ytemklhljjaniaaa
