import Derived.Test.YtemklhljjaniaaaU05
import Derived.Test.YtemklhljjaniaaaU03
import Derived.Test.YtemklhljjaniaaaChecked
import Derived.KernelRfl
set_option maxRecDepth 100000
set_option maxHeartbeats 4000000
noncomputable section
namespace Go.Proofs.Ytemklhljjaniaaa
open Go
open Cy (GC cy a9 ba aS aZ aA aW bM aX a8 bj okA smM smT lvM lvT eT bY ck a6)
theorem tN {o : List Int} {i : Nat} (h : i < o.length) : o.getD i 0 ∈ o := by
 rw [List.getD_eq_getElem?_getD, List.getElem?_eq_getElem h]; exact List.getElem_mem h
theorem nW {T : bD} {o : List Int} (hO : o ∈ ax T) : bj (o.length : Int) (aR T o) /\ ∀ x ∈ aR T o, x.inR := by
 obtain ⟨hv, hol, _, _⟩ := bo hO
 have hbd := fL hO
 have hw := jB hv
 have hn1 := hv.2.2.1
 have hn4 := hv.2.2.2.1
 have htr := hv.2.1.2.2
 have key : ∀ x ∈ aR T o, okA (o.length : Int) x := fun x hx => by
  rcases List.mem_append.1 hx with hx | hx
  ·obtain ⟨i, hi, rfl⟩ := List.mem_map.1 hx
   rw [List.mem_range] at hi
   have h1 := hbd _ (tN hi)
   have h2 : 0 <= mX o i /\ mX o i <= T.ch.length := by
    unfold mX
    split
    ·rename_i h; exact hbd _ (tN h)
    ·omega
   refine ⟨?_, ?_, ?_, ?_⟩ <;> simp only [qd] <;> (try split) <;> omega
  ·obtain ⟨i, hi, hx⟩ := List.mem_flatMap.1 hx
   rw [List.mem_range] at hi
   have hx0 : T.ch.getD i (0, 0) = T.ch[i] := by rw [List.getD_eq_getElem?_getD, List.getElem?_eq_getElem hi]; rfl
   have hxv := hv.1 _ (List.getElem_mem hi)
   rw [<- hx0] at hxv
   simp only [l8] at hxv
   have lb := z0 T o ((i : Int) + 1)
   have l1 : 0 <= (lkT T o ((i : Int) + 1)).1 /\ (lkT T o ((i : Int) + 1)).1 <= o.length - 1 /\ 0 <= (lkT T o ((i : Int) + 1)).2.1 /\ (lkT T o ((i : Int) + 1)).2.1 <= o.length - 1 := by
    unfold lkT
    split <;> simp only <;> omega
   simp only [oh, List.mem_cons, List.not_mem_nil, or_false] at hx
   rcases hx with rfl | rfl <;> refine ⟨?_, ?_, ?_, ?_⟩ <;> simp only <;> omega
 refine ⟨⟨by omega, ?_, key⟩, fun x hx => ?_⟩
 ·unfold aR
  rw [List.length_append, nX]
  simp; omega
 ·obtain ⟨h1, h2, h3, h4⟩ := key x hx
  refine ⟨?_, ?_, ?_, ?_⟩ <;> unfold inI <;> omega
def cR (l : List aW) : AV := slA 4 (l.map bM)
theorem eR {T : bD} {o : List Int} (hO : o ∈ ax T) : aX (cR (aR T o)) = some (aR T o) := by
 obtain ⟨h1, h2⟩ := nW hO
 exact eT (by have := h1.2.1; omega) h2
theorem eU {T : bD} {o : List Int} (hO : o ∈ ax T) : ri T o = some (aR T o) := if_pos hO
def iJ (s : Option (Int × List Int)) : Int := match s with | none => 1000000 | some x => x.1 - 1
def eD (T : bD) (s : Option (Int × List Int)) (o : List Int) : Option (Int × List Int) :=
 match smM (o.length : Int) (aR T o) 1 (iJ s) with
 | some p => some (p, o)
 | none => s
def ju (T : bD) : Option (Int × List Int) := (ax T).foldl (eD T) none
structure eE where
 period : Int
 order : List Int
 starts : List Int
 proof : List Int
def lF (T : bD) (x : Int × List Int) : eE :=
 ⟨x.1, x.2, (lvM (x.2.length : Int) (aR T x.2) x.1).1, if x.1 > 1 then (lvM (x.2.length : Int) (aR T x.2) (x.1 - 1)).2.1 else []⟩
def fe (T : bD) : Option eE := (ju T).map (lF T)
def gg (s : eE) : AV := .agg [.int .i64 s.period, slA 1 (ag s.order), slA 1 (ag s.starts), slA 1 (ag s.proof)]
def dK : eE := ⟨0, [], [], []⟩
def nV (r : Option eE) : AV := .tup [gg (r.getD dK), .int .i64 (if r.isSome then 0 else 130)]
def sOk (T : bD) (s : Option (Int × List Int)) : Prop := ∀ x, s = some x -> 1 <= x.1 /\ x.1 <= 1000000 /\ x.2 ∈ ax T
theorem gf {n : Nat} {l : List aW} {hi r : Int} (hp : a8 hi) (h : smM (n : Int) l 1 hi = some r) : 1 <= r /\ r <= hi /\ a6 n l r /\ ¬ Cy.Pos l r /\ ∀ q, 1 <= q -> q < r -> Cy.Pos l q := by
 unfold smM at h
 rw [if_pos hp, Int.toNat_natCast] at h
 exact (Cy.pD (n := n) (l := l) hp (hi - 1 + 2).toNat 1 (by omega)).1 r h
theorem rO {n : Nat} {l : List aW} {hi : Int} (hp : a8 hi) (hv : bj n l) (h : smM (n : Int) l 1 hi = none) : ∀ q, 1 <= q -> q <= hi -> Cy.Pos l q := by
 unfold smM at h
 rw [if_pos hp, Int.toNat_natCast] at h
 exact (Cy.pD (n := n) (l := l) hp (hi - 1 + 2).toNat 1 (by omega)).2 h ⟨hv, by unfold a8; omega⟩
theorem mw {T : bD} {s : Option (Int × List Int)} (h : sOk T s) {o : List Int} (hO : o ∈ ax T) : sOk T (eD T s o) := by
 have hper : a8 (iJ s) := by
  unfold iJ a8
  cases s with
  | none => simp
  | some x => have := h x rfl; simp only; omega
 unfold eD
 cases hm : smM (o.length : Int) (aR T o) 1 (iJ s) with
 | none => exact h
 | some p =>
  obtain ⟨h1, h2, _⟩ := gf hper hm
  intro x hx
  injection hx with hx; subst hx
  exact ⟨h1, by unfold a8 at hper; simp only; omega, hO⟩
theorem ra {T : bD} {o q : List Int} : eD T (some (1, o)) q = some (1, o) := by
 unfold eD
 have hp : a8 0 := by unfold a8; omega
 cases hm : smM (q.length : Int) (aR T q) 1 ((1 : Int) - 1) with
 | none => rfl
 | some p =>
  obtain ⟨h1, h2, _⟩ := gf (hi := 0) hp hm
  omega
theorem tP {T : bD} {o : List Int} : ∀ l : List (List Int), l.foldl (eD T) (some (1, o)) = some (1, o)
 | [] => rfl
 | q :: l => by rw [List.foldl_cons, ra, tP l]
theorem wD {T : bD} : ∀ (l : List (List Int)) (s : Option (Int × List Int)), (∀ o ∈ l, o ∈ ax T) -> sOk T s -> sOk T (l.foldl (eD T) s)
 | [], _, _, h => h
 | q :: l, s, hl, h => wD l _ (fun o ho => hl o (by simp [ho])) (mw h (hl q (by simp)))
def uY : List (FuncId × aL) := [(14, bA 4 M14), (19, bA 4 M19), (28, aF 4 Cy.M23), (31, Cy.H14)]
@[simp] theorem G3 : aB uY 14 = some (bA 4 M14) := rfl
@[simp] theorem G2 : aB uY 19 = some (bA 4 M19) := rfl
@[simp] theorem G1 : aB uY 28 = some (aF 4 Cy.M23) := rfl
@[simp] theorem G0 : aB uY 31 = some Cy.H14 := rfl
theorem vF : ∀ f M, aB uY f = some M -> an Try.prog GC f M := ak (an.of_pureF qs 4) (ak (an.of_pureF qq 4) (ak (an.of_pure Cy.vy 4) (ak Cy.qs az)))
def zA : AV := .agg [.int .i64 0, .nilS, .nilS, .nilS]
def bsA (s : Option (Int × List Int)) : AV := match s with | none => .agg [.int .i64 0, .nilS, .nilS, .nilS] | some x => .agg [.int .i64 x.1, slA 1 (ag x.2), .nilS, .nilS]
def bsV (T : bD) (s : Option (Int × List Int)) : AV := match s with | none => .nilS | some x => cR (aR T x.2)
def R22 (A : ac) (T : bD) (chv : AV) (s : Option (Int × List Int)) : ac := A ++ [.row 5 false [aD T chv], .row 4 false [zA], .row 4 false [bsA s]]
theorem IJ (A : ac) (T : bD) (chv : AV) (s : Option (Int × List Int)) : (R22 A T chv s)[A.length]? = some (.row 5 false [aD T chv]) := by simp [R22]
theorem EH (A : ac) (T : bD) (chv : AV) (s : Option (Int × List Int)) : (R22 A T chv s)[A.length + 1]? = some (.row 4 false [zA]) := by simp [R22]
theorem xZ (A : ac) (T : bD) (chv : AV) (s : Option (Int × List Int)) : (R22 A T chv s)[A.length + 2]? = some (.row 4 false [bsA s]) := by simp [R22]
theorem CV (A : ac) (T : bD) (chv : AV) (s s' : Option (Int × List Int)) : (R22 A T chv s).set (A.length + 2) (.row 4 false [bsA s']) = R22 A T chv s' := by
 unfold R22
 rw [List.set_append_right _ _ (by omega), show A.length + 2 - A.length = 2 by omega]
 rfl
def pOf (s : Option (Int × List Int)) : Int := match s with | none => 0 | some x => x.1
theorem f8 (a b : Int) : af .gtr (.int .i64 a) (.int .i64 b) = some (.bool (decide (a > b))) := by simp [af]
theorem cV (xs : List Int) : (slA 1 (ag xs)).solid = true /\ cellsOf (slA 1 (ag xs)) = [slA 1 (ag xs)] := by
 cases xs <;> exact ⟨rfl, rfl⟩
theorem BQ {A : ac} {T : bD} {chv chF : AV} (hcv : SlA 2 (T.ch.map chA) chF) (hz : ∀ X, frz (A ++ X) 4 (aD T chv) = aD T chF) {s : Option (Int × List Int)} (hs : sOk T s) {i : Nat} (hi : i < (ax T).length) :
  (iJ s < 1 -> ∃ d6 d7 d8 : AV, run (au GC uY) 300 [.code cY] (eG (.ptr A.length 0 0) (.ptr (A.length + 1) 0 0) (.ptr (A.length + 2) 0 0) (bsV T s) (eY (ax T)) (.int .i64 ((ax T).length : Int)) (.int .i64 (i : Int))) (R22 A T chv s) =
   some (.exit 0 [.undef, .ptr A.length 0 0, .ptr (A.length + 1) 0 0, .undef, .ptr (A.length + 2) 0 0, bsV T s, d6, d7, d8, .undef, .undef, eY (ax T), .int .i64 ((ax T).length : Int), .int .i64 (i : Int), .bool true, .bool true, .bool true, .undef, .undef, .undef] (R22 A T chv s))) /\
  (¬ iJ s < 1 -> run (au GC uY) 300 [.code cY] (eG (.ptr A.length 0 0) (.ptr (A.length + 1) 0 0) (.ptr (A.length + 2) 0 0) (bsV T s) (eY (ax T)) (.int .i64 ((ax T).length : Int)) (.int .i64 (i : Int))) (R22 A T chv s) =
   some (.normal (eG (.ptr A.length 0 0) (.ptr (A.length + 1) 0 0) (.ptr (A.length + 2) 0 0) (bsV T (eD T s (ax T)[i])) (eY (ax T)) (.int .i64 ((ax T).length : Int)) (.int .i64 ((i + 1 : Nat) : Int))) (R22 A T chv (eD T s (ax T)[i])))) := by
 obtain ⟨o, ho⟩ : ∃ o, o = (ax T)[i] := ⟨_, rfl⟩
 have hO : o ∈ ax T := by rw [ho]; exact List.getElem_mem hi
 obtain ⟨hv, hol, _, _⟩ := bo hO
 have hhi : iJ s <= 1000000 /\ 0 <= iJ s := by
  unfold iJ
  cases s with
  | none => simp
  | some x => have := hs x rfl; simp only; omega
 have hb := aI 1 ((ax T).map fun l => slA 1 (ag l))
 rw [show slA 1 ((ax T).map fun l => slA 1 (ag l)) = eY (ax T) from rfl] at hb
 obtain ⟨q1, q2⟩ := cV o
 have he : ((ax T).map fun l => slA 1 (ag l))[i]? = some (slA 1 (ag o)) := by simp [hi, ho]
 have x1 := fun A => hb.index1 (A := A) he q1 q2 .i64
 have hos := aI 1 (ag o)
 have hlo := hos.len
 rw [aA] at hlo
 have m19 := uc (T := T) hcv (by have := hv.2.2.2.1; omega) hos
 rw [eU hO] at m19
 have m19 : M19 [aD T chF, slA 1 (ag o)] = some (.tup [cR (aR T o), .int .i64 0]) := m19
 have m23 : ∀ hi, Cy.M23 [.int .i64 (o.length : Int), cR (aR T o), .int .i64 1, .int .i64 hi] = some (smT (smM (o.length : Int) (aR T o) 1 hi)) := fun hi => by
  simp only [Cy.M23, eR hO, Option.map_some]
 have m23 := m23 (iJ s)
 have hbs : eD T s o = match smM (o.length : Int) (aR T o) 1 (iJ s) with | some p => some (p, o) | none => s := rfl
 rw [<- ho, hbs]
 have b0 := bc i (ax T).length .i64
 rw [decide_eq_true hi] at b0
 have b1 := aK i (by have := eh T; omega)
 have b2 := f8 (pOf s) 0
 have b3 : af .sub (.int .i64 (pOf s)) (.int .i64 1) = some (.int .i64 (pOf s - 1)) := ij (by
  unfold pOf
  cases s with
  | none => simp
  | some x => have := hs x rfl; simp only; omega)
 have hpp : (pOf s > 0 -> iJ s = pOf s - 1) /\ (¬ pOf s > 0 -> iJ s = 1000000) := by
  unfold pOf iJ
  cases s with
  | none => simp
  | some x => have := hs x rfl; simp only; exact ⟨fun _ => trivial, fun h => by omega⟩
 have b4 := ed (iJ s) 1
 have ft : frz (R22 A T chv s) 4 (aD T chv) = aD T chF := hz _
 have fo : ∀ A n, frz A n (slA 1 (ag o)) = slA 1 (ag o) := fun A n => hos.frz n
 have fa : ∀ A n, frz A n (cR (aR T o)) = cR (aR T o) := fun A n => (aI 4 _).frz n
 have na : be 4 (cR (aR T o)) = true := (aI 4 _).noRef 4
 have lt : ae true 5 (R22 A T chv s) (.ptr A.length 0 0) = some (aD T chv) := by simp [ae, IJ, aD]
 have f0 : aa 0 (R22 A T chv s) (.ptr (A.length + 2) 0 0) = some (.ptr (A.length + 2) 0 0) := by simp [aa, xZ]
 have l0 : ae false 1 (R22 A T chv s) (.ptr (A.length + 2) 0 0) = some (.int .i64 (pOf s)) := by
  cases s <;> simp [ae, xZ, bsA, pOf, a0]
 have st : ∀ p, aw 4 (R22 A T chv s) (.ptr (A.length + 2) 0 0) (.agg [.int .i64 p, slA 1 (ag o), .nilS, .nilS]) = some (R22 A T chv (some (p, o))) := fun p => by
  rw [<- CV A T chv s (some (p, o))]
  simp [xZ, aw, aJ, bsA]
 have fl : ∀ p, gI [.int .i64 0, .nilS, .nilS, .nilS] [(0, (1, .int .i64 p)), (1, (1, slA 1 (ag o)))] = some [.int .i64 p, slA 1 (ag o), .nilS, .nilS] := fun p => by
  have c1 : cellsOf (AV.int .i64 p) = [.int .i64 p] := rfl
  have c2 : (AV.int .i64 p).solid = true := rfl
  simp [gI, q1, q2, c1, c2, -cellsOf, -AV.solid]
 have fl2 : ∀ x, gI [.int .i64 0, .nilS, .nilS, .nilS] x = gI [.int .i64 0, .nilS, .nilS, .nilS] x := fun _ => rfl
 obtain ⟨W, hW⟩ : ∃ W, W = slA 1 (ag o) := ⟨_, rfl⟩
 rw [<- hW] at x1 hlo m19 fo st fl
 have hbv : ∀ p, bsV T (some (p, o)) = cR (aR T o) := fun _ => rfl
 obtain ⟨sm, hsm⟩ : ∃ sm, sm = smM (o.length : Int) (aR T o) 1 (iJ s) := ⟨_, rfl⟩
 rw [<- hsm] at m23 ⊢
 obtain ⟨V, hV⟩ : ∃ V, V = cR (aR T o) := ⟨_, rfl⟩
 rw [<- hV] at m19 m23 fa na
 simp only [<- hV] at hbv
 obtain ⟨tF, htF⟩ : ∃ t, t = aD T chF := ⟨_, rfl⟩
 rw [<- htF] at m19 ft
 obtain ⟨t, ht⟩ : ∃ t, t = aD T chv := ⟨_, rfl⟩
 rw [<- ht] at ft lt
 obtain ⟨h, hh⟩ : ∃ h, h = iJ s := ⟨_, rfl⟩
 rw [<- hh] at m23 b4 hpp ⊢
 obtain ⟨p, hp⟩ : ∃ h, h = pOf s := ⟨_, rfl⟩
 rw [<- hp] at b2 b3 hpp l0
 obtain ⟨i1, hi1⟩ : ∃ n, n = i + 1 := ⟨_, rfl⟩
 rw [<- hi1] at b1 ⊢
 obtain ⟨Q, hQ⟩ : ∃ Q, Q = eY (ax T) := ⟨_, rfl⟩
 rw [<- hQ] at x1 ⊢
 obtain ⟨A0, hA0⟩ : ∃ X, X = R22 A T chv s := ⟨_, rfl⟩
 rw [<- hA0] at lt f0 l0 st ft ⊢
 obtain ⟨n0, hn0⟩ : ∃ n, n = A.length := ⟨_, rfl⟩
 obtain ⟨n1, hn1⟩ : ∃ n, n = A.length + 1 := ⟨_, rfl⟩
 obtain ⟨n2, hn2⟩ : ∃ n, n = A.length + 2 := ⟨_, rfl⟩
 rw [<- hn2] at f0 l0 st
 rw [<- hn0] at lt
 rw [<- hn1, <- hn2, <- hn0]
 obtain ⟨U, hU⟩ : ∃ U, U = bsV T s := ⟨_, rfl⟩
 rw [<- hU]
 refine ⟨fun h1 => ⟨W, V, .int .i64 h, ?_⟩, fun h1 => ?_⟩
 ·have hp0 : p > 0 := by
   by_cases hp0 : p > 0
   ·exact hp0
   ·have := hpp.2 hp0; omega
  rw [decide_eq_true hp0] at b2
  rw [<- hpp.1 hp0] at b3
  rw [decide_eq_true h1] at b4
  simp [cY, x1, lt, ft, fo, m19, f0, l0, b0, b2, b3, b4, -af, -ae, -aa, -ab, -frz]
 ·rw [decide_eq_false h1] at b4
  by_cases hp0 : p > 0
  ·rw [decide_eq_true hp0] at b2
   rw [<- hpp.1 hp0] at b3
   cases sm with
   | none =>
    simp only [<- hU, <- hA0]
    simp [cY, x1, lt, ft, fo, fa, aS, na, smT, m19, m23, hlo, f0, l0, b0, b1, b2, b3, b4, -af, -ae, -aa, -ab, -aj, -frz]
   | some r => simp [cY, x1, lt, ft, fo, fa, aS, na, smT, m19, m23, hlo, f0, l0, b0, b1, b2, b3, b4, st, fl, hbv, -af, -ae, -aw, -aa, -ab, -aj, -frz, -gI]
  ·rw [decide_eq_false hp0] at b2
   obtain rfl := hpp.2 hp0
   cases sm with
   | none =>
    simp only [<- hU, <- hA0]
    simp [cY, x1, lt, ft, fo, fa, aS, na, smT, m19, m23, hlo, f0, l0, b0, b1, b2, b4, -af, -ae, -aa, -ab, -aj, -frz]
   | some r => simp [cY, x1, lt, ft, fo, fa, aS, na, smT, m19, m23, hlo, f0, l0, b0, b1, b2, b4, st, fl, hbv, -af, -ae, -aw, -aa, -ab, -aj, -frz, -gI]
theorem DG {A : ac} {T : bD} {chv chF : AV} (hcv : SlA 2 (T.ch.map chA) chF) (hz : ∀ X, frz (A ++ X) 4 (aD T chv) = aD T chF) : ∀ (c i : Nat) (s : Option (Int × List Int)) (m : Nat), i + c = (ax T).length -> sOk T s -> c < m ->
  ∃ d6 d7 d8 d13 d14 d15 d16 : AV, bg (evC (au GC uY) 300 cY) dw m (eG (.ptr A.length 0 0) (.ptr (A.length + 1) 0 0) (.ptr (A.length + 2) 0 0) (bsV T s) (eY (ax T)) (.int .i64 ((ax T).length : Int)) (.int .i64 (i : Int))) (R22 A T chv s) =
   some (.exit 0 [.undef, .ptr A.length 0 0, .ptr (A.length + 1) 0 0, .undef, .ptr (A.length + 2) 0 0, bsV T (((ax T).drop i).foldl (eD T) s), d6, d7, d8, .undef, .undef, eY (ax T), .int .i64 ((ax T).length : Int), d13, d14, d15, d16, .undef, .undef, .undef] (R22 A T chv (((ax T).drop i).foldl (eD T) s))) := by
 intro c
 induction c with
 | zero =>
  intro i s m hi hs hm
  obtain ⟨m, rfl⟩ : ∃ j, m = j + 1 := ⟨m - 1, by omega⟩
  obtain rfl : i = (ax T).length := by omega
  rw [List.drop_length]
  refine ⟨.undef, .undef, .undef, .int .i64 ((ax T).length : Int), .bool false, .undef, .undef, ?_⟩
  have b0 := bc (ax T).length (ax T).length .i64
  rw [decide_eq_false (by omega)] at b0
  rw [aQ, nN]
  simp [cY, b0, -af]
 | succ c ih =>
  intro i s m hi hs hm
  obtain ⟨m, rfl⟩ : ∃ j, m = j + 1 := ⟨m - 1, by omega⟩
  have hil : i < (ax T).length := by omega
  obtain ⟨r1, r2⟩ := BQ hcv hz hs hil
  rw [List.drop_eq_getElem_cons hil, List.foldl_cons]
  by_cases h1 : iJ s < 1
  ·obtain ⟨d6, d7, d8, hr⟩ := r1 h1
   have hone : ∃ o, s = some (1, o) := by
    cases s with
    | none => unfold iJ at h1; simp at h1
    | some x =>
     have := hs x rfl
     unfold iJ at h1
     simp only at h1
     obtain ⟨p, o⟩ := x
     exact ⟨o, by simp only at this h1; rw [show p = 1 by omega]⟩
   obtain ⟨o, rfl⟩ := hone
   rw [ra, tP]
   refine ⟨d6, d7, d8, .int .i64 (i : Int), .bool true, .bool true, .bool true, ?_⟩
   rw [aQ, nN, hr]
  ·have hr := r2 h1
   obtain ⟨d6, d7, d8, d13, d14, d15, d16, h2⟩ := ih (i + 1) _ m (by omega) (mw hs (List.getElem_mem hil)) (by omega)
   refine ⟨d6, d7, d8, d13, d14, d15, d16, ?_⟩
   rw [aQ, nN, hr]
   exact h2
theorem xN (T : bD) : sOk T (ju T) := wD _ _ (fun _ h => h) (fun x h => by cases h)
def E22 (A : ac) (T : bD) (chv : AV) (r : Option eE) : ac := A ++ [.row 5 false [aD T chv], .row 4 false [match r with | none => zA | some s => gg s], .row 4 false [match r with | none => zA | some s => gg s]]
def H22 : aL := fun _ => cu (au GC uY) 300 uC
theorem Bk : an Try.prog GC 22 H22 := (cI (av vF) rfl FF tX bC.nil).y
theorem ue (h : bb) {A : ac} {T : bD} {chv chF : AV} (hcv : SlA 2 (T.ch.map chA) chF) (hz : ∀ X, frz (A ++ X) 4 (aD T chv) = aD T chF) (hl : T.ch.length <= 200) : H22 h [aD T chv] A = some (nV (fe T), E22 A T chv (fe T)) := by
 have m14 := ud hcv hl
 have hlen : aj (eY (ax T)) = some (.int .i64 ((ax T).length : Int)) := by
  have := (aI 1 ((ax T).map fun l => slA 1 (ag l))).len
  rwa [List.length_map] at this
 obtain ⟨d6, d7, d8, d13, d14, d15, d16, lp⟩ := DG hcv hz (ax T).length 0 none 300 (by omega) (fun x h => by cases h) (by have := eh T; omega)
 rw [List.drop_zero, show (ax T).foldl (eD T) none = ju T from rfl] at lp
 have hok := xN T
 obtain ⟨A0, hA0⟩ : ∃ X, X = A ++ [.row 5 false [aD T chv], .row 4 false [zA], .row 4 false [zA]] := ⟨_, rfl⟩
 rw [show R22 A T chv none = A0 from hA0.symm, show bsV T none = .nilS from rfl, show ((0 : Nat) : Int) = 0 from rfl] at lp
 have lt : ae true 5 A0 (.ptr A.length 0 0) = some (aD T chv) := by rw [hA0]; simp [ae, aD]
 have ft : frz A0 4 (aD T chv) = aD T chF := by rw [hA0]; exact hz _
 have bx0 : aV 5 (aD T chv) A = some (.ptr A.length 0 0, A ++ [.row 5 false [aD T chv]]) := rfl
 have ct : (cellsOf (aD T chv)).length = 5 := rfl
 have bx1 : aV 4 (.agg [.int .i64 0, .nilS, .nilS, .nilS]) (A ++ [.row 5 false [aD T chv]]) = some (.ptr (A.length + 1) 0 0, A ++ [.row 5 false [aD T chv], .row 4 false [zA]]) := by simp [aV, zA]
 have bx2 : aV 4 (.agg [.int .i64 0, .nilS, .nilS, .nilS]) (A ++ [.row 5 false [aD T chv], .row 4 false [zA]]) = some (.ptr (A.length + 2) 0 0, A0) := by rw [hA0]; simp [aV, zA]
 have hbm : fe T = (ju T).map (lF T) := rfl
 rw [hbm]
 obtain ⟨s, hs⟩ : ∃ s, s = ju T := ⟨_, rfl⟩
 rw [<- hs] at lp hok ⊢
 obtain ⟨X1, hX1⟩ : ∃ X, X = A ++ [Ent.row 5 false [aD T chv]] := ⟨_, rfl⟩
 obtain ⟨X2, hX2⟩ : ∃ X, X = A ++ [Ent.row 5 false [aD T chv], .row 4 false [zA]] := ⟨_, rfl⟩
 rw [<- hX1] at bx0 bx1
 rw [<- hX2] at bx1 bx2
 obtain ⟨t, ht⟩ : ∃ t, t = aD T chv := ⟨_, rfl⟩
 obtain ⟨tF, htF⟩ : ∃ t, t = aD T chF := ⟨_, rfl⟩
 obtain ⟨Q, hQ⟩ : ∃ Q, Q = eY (ax T) := ⟨_, rfl⟩
 obtain ⟨L, hL⟩ : ∃ Q, Q = ((ax T).length : Int) := ⟨_, rfl⟩
 have f0 : aa 0 (R22 A T chv s) (.ptr (A.length + 2) 0 0) = some (.ptr (A.length + 2) 0 0) := by simp [aa, xZ]
 have l0 : ae false 1 (R22 A T chv s) (.ptr (A.length + 2) 0 0) = some (.int .i64 (pOf s)) := by cases s <;> simp [ae, xZ, bsA, pOf, a0]
 rw [<- htF] at m14 ft
 rw [<- ht] at lt bx0 ct ft ⊢
 rw [<- hQ] at m14 hlen lp
 rw [<- hL] at hlen lp
 unfold H22
 rw [bU _ _ rfl]
 cases s with
 | none =>
  have b1 := ce 0 0
  rw [decide_eq_true rfl] at b1
  have e1 : E22 A T chv none = R22 A T chv none := rfl
  have st : aw 4 (R22 A T chv none) (.ptr (A.length + 1) 0 0) (.agg [.int .i64 0, .nilS, .nilS, .nilS]) = some (R22 A T chv none) := by
   have : (R22 A T chv none).set (A.length + 1) (.row 4 false [zA]) = R22 A T chv none := by
    unfold R22
    rw [List.set_append_right _ _ (by omega), show A.length + 1 - A.length = 1 by omega]
    rfl
   conv => rhs; rw [<- this]
   simp [aw, EH, aJ, zA]
  have l4 : ae true 4 (R22 A T chv none) (.ptr (A.length + 1) 0 0) = some (.agg [.int .i64 0, .nilS, .nilS, .nilS]) := by simp [ae, EH, zA]
  rw [show (Option.map (lF T) none) = none from rfl, e1]
  rw [show nV none = .tup [.agg [.int .i64 0, .nilS, .nilS, .nilS], .int .i64 130] from rfl]
  obtain ⟨A1, hA1⟩ : ∃ X, X = R22 A T chv none := ⟨_, rfl⟩
  rw [<- hA1] at lp f0 l0 st l4 ⊢
  have l0 : ae false 1 A1 (.ptr (A.length + 2) 0 0) = some (.int .i64 0) := l0
  obtain ⟨n0, hn0⟩ : ∃ n, n = A.length := ⟨_, rfl⟩
  obtain ⟨n1, hn1⟩ : ∃ n, n = A.length + 1 := ⟨_, rfl⟩
  obtain ⟨n2, hn2⟩ : ∃ n, n = A.length + 2 := ⟨_, rfl⟩
  rw [<- hn2] at lp f0 l0 bx2
  rw [<- hn1] at lp st l4 bx1
  rw [<- hn0] at lp lt bx0
  simp [uC, bx0, bx1, bx2, ct, lt, m14, ft, hlen, ni lp, f0, l0, b1, st, l4, -aV, -ae, -aw, -aa, -aj, -frz, -cellsOf, -af]
 | some x =>
  obtain ⟨p, o⟩ := x
  obtain ⟨hp1, hp2, hO⟩ := hok _ rfl
  simp only at hp1 hp2 hO
  have hos := aI 1 (ag o)
  have hlo := hos.len
  rw [aA] at hlo
  obtain ⟨q1, q2⟩ := cV o
  have hv := eR hO
  have h14 := fun A => Cy.E7 (fun _ _ _ => none) (A := A) (show frz A 4 (cR (aR T o)) = cR (aR T o) from (aI 4 ((aR T o).map bM)).frz 4) hv (o.length : Int)
  obtain ⟨st, hst⟩ : ∃ st, st = (lvM (o.length : Int) (aR T o) p).1 := ⟨_, rfl⟩
  have hl1 : lvT (lvM (o.length : Int) (aR T o) p) = .tup [slA 1 (ag st), slA 1 (ag (lvM (o.length : Int) (aR T o) p).2.1), .bool (lvM (o.length : Int) (aR T o) p).2.2] := by rw [hst]; rfl
  obtain ⟨s1, s2⟩ := cV st
  obtain ⟨RA, hRA⟩ : ∃ R : List Int -> List Int -> ac, ∀ a b, R a b = A ++ [.row 5 false [aD T chv], .row 4 false [zA], .row 4 false [.agg [.int .i64 p, slA 1 (ag o), slA 1 (ag a), slA 1 (ag b)]]] := ⟨_, fun _ _ => rfl⟩
  have hR0 : R22 A T chv (some (p, o)) = RA [] [] := by rw [hRA]; rfl
  rw [hR0] at lp f0 l0
  have l0 : ae false 1 (RA [] []) (.ptr (A.length + 2) 0 0) = some (.int .i64 p) := l0
  have ra1 : ∀ a b, (RA a b)[A.length + 1]? = some (.row 4 false [zA]) := fun a b => by rw [hRA]; simp
  have ra2 : ∀ a b, (RA a b)[A.length + 2]? = some (.row 4 false [.agg [.int .i64 p, slA 1 (ag o), slA 1 (ag a), slA 1 (ag b)]]) := fun a b => by rw [hRA]; simp
  have fa : ∀ j a b, j < 4 -> aa j (RA a b) (.ptr (A.length + 2) 0 0) = some (.ptr (A.length + 2) 0 j) := fun j a b hj => by simp [aa, ra2, hj]
  have la0 : ∀ a b, ae false 1 (RA a b) (.ptr (A.length + 2) 0 0) = some (.int .i64 p) := fun a b => by simp [ae, ra2, a0]
  have la1 : ∀ a b, ae false 1 (RA a b) (.ptr (A.length + 2) 0 1) = some (slA 1 (ag o)) := fun a b => by simp [ae, ra2, a0]
  have lall : ∀ a b, ae true 4 (RA a b) (.ptr (A.length + 2) 0 0) = some (.agg [.int .i64 p, slA 1 (ag o), slA 1 (ag a), slA 1 (ag b)]) := fun a b => by simp [ae, ra2]
  have rset : ∀ a b a' b', (RA a b).set (A.length + 2) (.row 4 false [.agg [.int .i64 p, slA 1 (ag o), slA 1 (ag a'), slA 1 (ag b')]]) = RA a' b' := fun a b a' b' => by
   rw [hRA, hRA, List.set_append_right _ _ (by omega), show A.length + 2 - A.length = 2 by omega]
   rfl
  have st2 : ∀ a, aw 1 (RA [] []) (.ptr (A.length + 2) 0 2) (slA 1 (ag a)) = some (RA a []) := fun a => by
   obtain ⟨z1, z2⟩ := cV a
   rw [<- rset [] [] a []]
   simp [aw, ra2, aJ, z1, z2, -cellsOf, -AV.solid]
  have st3 : ∀ a b, aw 1 (RA a []) (.ptr (A.length + 2) 0 3) (slA 1 (ag b)) = some (RA a b) := fun a b => by
   obtain ⟨z1, z2⟩ := cV b
   rw [<- rset a [] a b]
   simp [aw, ra2, aJ, z1, z2, -cellsOf, -AV.solid]
  obtain ⟨RB, hRB⟩ : ∃ R : List Int -> List Int -> ac, ∀ a b, R a b = E22 A T chv (some ⟨p, o, a, b⟩) := ⟨_, fun _ _ => rfl⟩
  have stB : ∀ a b, aw 4 (RA a b) (.ptr (A.length + 1) 0 0) (.agg [.int .i64 p, slA 1 (ag o), slA 1 (ag a), slA 1 (ag b)]) = some (RB a b) := fun a b => by
   have : (RA a b).set (A.length + 1) (.row 4 false [.agg [.int .i64 p, slA 1 (ag o), slA 1 (ag a), slA 1 (ag b)]]) = RB a b := by
    rw [hRA, hRB, List.set_append_right _ _ (by omega), show A.length + 1 - A.length = 1 by omega]
    rfl
   rw [<- this]
   simp [aw, ra1, aJ, zA]
  have lB : ∀ a b, ae true 4 (RB a b) (.ptr (A.length + 1) 0 0) = some (.agg [.int .i64 p, slA 1 (ag o), slA 1 (ag a), slA 1 (ag b)]) := fun a b => by
   have : (RB a b)[A.length + 1]? = some (.row 4 false [.agg [.int .i64 p, slA 1 (ag o), slA 1 (ag a), slA 1 (ag b)]]) := by rw [hRB]; simp [E22, gg]
   simp [ae, this]
  have b1 := ce p 0
  rw [decide_eq_false (by omega)] at b1
  have b2 := f8 p 1
  have b3 : af .sub (.int .i64 p) (.int .i64 1) = some (.int .i64 (p - 1)) := ij (by omega)
  have hsb : ∀ pr, lF T (p, o) = ⟨p, o, st, pr⟩ ↔ pr = (if p > 1 then (lvM (o.length : Int) (aR T o) (p - 1)).2.1 else []) := fun pr => by
   unfold lF
   simp only [<- hst]
   constructor
   ·intro h; injection h with _ _ _ h; exact h.symm
   ·intro h; rw [h]
  have lp : bg (evC (au GC uY) 300 cY) dw 300 (eG (.ptr A.length 0 0) (.ptr (A.length + 1) 0 0) (.ptr (A.length + 2) 0 0) .nilS Q (.int .i64 L) (.int .i64 0)) A0 =
    some (.exit 0 [.undef, .ptr A.length 0 0, .ptr (A.length + 1) 0 0, .undef, .ptr (A.length + 2) 0 0, cR (aR T o), d6, d7, d8, .undef, .undef, Q, .int .i64 L, d13, d14, d15, d16, .undef, .undef, .undef] (RA [] [])) := lp
  have h1 := h14 (RA [] []) p
  rw [hl1] at h1
  have h2 := h14 (RA st []) (p - 1)
  obtain ⟨pr, hpr⟩ : ∃ pr, pr = (lvM (o.length : Int) (aR T o) (p - 1)).2.1 := ⟨_, rfl⟩
  rw [show lvT (lvM (o.length : Int) (aR T o) (p - 1)) = .tup [slA 1 (ag (lvM (o.length : Int) (aR T o) (p - 1)).1), slA 1 (ag pr), .bool (lvM (o.length : Int) (aR T o) (p - 1)).2.2] by rw [hpr]; rfl] at h2
  have k5 := st2 st
  have k7 := la0 st []
  have k8 := la1 st []
  have k9 := la1 [] []
  have f1 := fun j => fa j [] []
  have f2 := fun j => fa j st []
  obtain ⟨n0, hn0⟩ : ∃ n, n = A.length := ⟨_, rfl⟩
  obtain ⟨n1, hn1⟩ : ∃ n, n = A.length + 1 := ⟨_, rfl⟩
  obtain ⟨n2, hn2⟩ : ∃ n, n = A.length + 2 := ⟨_, rfl⟩
  rw [<- hn2] at lp f0 l0 bx2 k5 k7 k8 k9
  simp only [<- hn2] at f1 f2
  rw [<- hn1] at lp bx1
  rw [<- hn0] at lp lt bx0
  obtain ⟨W, hW⟩ : ∃ W, W = slA 1 (ag o) := ⟨_, rfl⟩
  obtain ⟨V, hV⟩ : ∃ V, V = cR (aR T o) := ⟨_, rfl⟩
  rw [<- hV] at lp h1 h2
  obtain ⟨B0, hB0⟩ : ∃ A, A = RA [] [] := ⟨_, rfl⟩
  rw [<- hB0] at lp f0 l0 k5 k9 h1
  simp only [<- hB0] at f1
  obtain ⟨S1, hS1⟩ : ∃ W, W = slA 1 (ag st) := ⟨_, rfl⟩
  by_cases hp : p > 1
  ·rw [decide_eq_true hp] at b2
   have hsc : (Option.map (lF T) (some (p, o))) = some ⟨p, o, st, pr⟩ := by
    rw [Option.map_some, (hsb pr).2 (by rw [if_pos hp]; exact hpr)]
   rw [hsc, <- hRB]
   rw [show nV (some ⟨p, o, st, pr⟩) = .tup [.agg [.int .i64 p, slA 1 (ag o), slA 1 (ag st), slA 1 (ag pr)], .int .i64 0] from rfl]
   have k1 := lall st pr
   have k2 := stB st pr
   have k3 := lB st pr
   have k6 := st3 st pr
   rw [<- hn2] at k1 k6
   rw [<- hn1] at k2 k3
   obtain ⟨B1, hB1⟩ : ∃ A, A = RA st [] := ⟨_, rfl⟩
   rw [<- hB1] at k5 k6 k7 k8 h2
   simp only [<- hB1] at f2
   obtain ⟨B2, hB2⟩ : ∃ A, A = RA st pr := ⟨_, rfl⟩
   rw [<- hB2] at k1 k2 k6
   obtain ⟨B3, hB3⟩ : ∃ A, A = RB st pr := ⟨_, rfl⟩
   rw [<- hB3] at k2 k3 ⊢
   obtain ⟨S2, hS2⟩ : ∃ W, W = slA 1 (ag pr) := ⟨_, rfl⟩
   rw [<- hW] at k1 k2 k3 k8 k9 hlo ⊢
   rw [<- hS1] at h1 k1 k2 k3 k5 ⊢
   rw [<- hS2] at h2 k1 k2 k3 k6 ⊢
   obtain ⟨p1, hp1⟩ : ∃ q, q = p - 1 := ⟨_, rfl⟩
   rw [<- hp1] at h2 b3
   simp [uC, bx0, bx1, bx2, ct, lt, m14, ft, hlen, ni lp, f0, f1, f2, l0, b1, b2, b3, hlo, h1, h2, k1, k2, k3, k5, k6, k7, k8, k9, -aV, -ae, -aw, -aa, -aj, -frz, -cellsOf, -af]
  ·rw [decide_eq_false hp] at b2
   have hsc : (Option.map (lF T) (some (p, o))) = some ⟨p, o, st, []⟩ := by
    rw [Option.map_some, (hsb []).2 (by rw [if_neg hp])]
   rw [hsc, <- hRB]
   rw [show nV (some ⟨p, o, st, []⟩) = .tup [.agg [.int .i64 p, slA 1 (ag o), slA 1 (ag st), slA 1 (ag [])], .int .i64 0] from rfl]
   have k1 := lall st []
   have k2 := stB st []
   have k3 := lB st []
   rw [<- hn2] at k1
   rw [<- hn1] at k2 k3
   obtain ⟨B1, hB1⟩ : ∃ A, A = RA st [] := ⟨_, rfl⟩
   rw [<- hB1] at k1 k2 k5 k7
   simp only [<- hB1] at f2
   obtain ⟨B3, hB3⟩ : ∃ A, A = RB st [] := ⟨_, rfl⟩
   rw [<- hB3] at k2 k3 ⊢
   obtain ⟨S2, hS2⟩ : ∃ W, W = slA 1 (ag []) := ⟨_, rfl⟩
   rw [<- hW] at k1 k2 k3 k9 hlo ⊢
   rw [<- hS1] at h1 k1 k2 k3 k5 ⊢
   rw [<- hS2] at k1 k2 k3 ⊢
   simp [uC, bx0, bx1, bx2, ct, lt, m14, ft, hlen, ni lp, f0, f1, f2, l0, b1, b2, hlo, h1, k1, k2, k3, k5, k7, k9, -aV, -ae, -aw, -aa, -aj, -frz, -cellsOf, -af]
def M22 : aT := fun args => evP (au GC uY) 300 uC 4 args
theorem vz : aq Try.prog GC 22 M22 := aq.of_ev (E := au GC uY) (av vF) rfl FF tX 4 fun _ _ h => ⟨300, h⟩
theorem EZ {T : bD} {chv : AV} (hcv : SlA 2 (T.ch.map chA) chv) (hl : T.ch.length <= 200) : M22 [aD T chv] = some (nV (fe T)) := by
 have h := ue (fun _ _ _ => none) (A := []) hcv (fun X => cO (T := T) (fun A n => hcv.frz (A := A) n) _ 3) hl
 unfold H22 at h
 unfold M22 evP
 rw [h, Option.map_some]
 congr 1
 have k1 := fun A o => (aI 1 (ag o)).frz (A := A) 2
 unfold nV
 simp only
 simp [frz, gg, k1]
structure Dc (s : eE) (ov sv pv : AV) : Prop where
 o : SlA 1 (ag s.order) ov
 st : SlA 1 (ag s.starts) sv
 pr : SlA 1 (ag s.proof) pv
 per : inI s.period
 ol : s.order.length <= 9223372036854775807
 stl : s.starts.length <= 9223372036854775807
 sti : ∀ z ∈ s.starts, inI z
 prl : s.proof.length <= 9223372036854775807
 pri : ∀ z ∈ s.proof, inI z
def Chk (T : bD) (s : eE) : Prop := s.order ∈ ax T /\ (1 <= s.period /\ s.period <= 1000000) /\ bY (s.order.length : Int) (aR T s.order) s.period s.starts /\
 (if s.period = 1 then s.proof = [] else ck (s.order.length : Int) (aR T s.order) (s.period - 1) s.proof)
def uF : List (FuncId × aL) := [(19, bA 4 M19), (32, aF 4 Cy.M19), (51, aF 4 Cy.M21)]
@[simp] theorem GJ : aB uF 19 = some (bA 4 M19) := rfl
@[simp] theorem GI : aB uF 32 = some (aF 4 Cy.M19) := rfl
@[simp] theorem GF : aB uF 51 = some (aF 4 Cy.M21) := rfl
theorem rG : ∀ f M, aB uF f = some M -> an Try.prog GC f M := ak (an.of_pureF qq 4) (ak (an.of_pure Cy.qq 4) (ak (an.of_pure Cy.vA 4) az))
def M26 : aT := fun args => evP (au GC uF) 0 uB 4 args
theorem zO : aq Try.prog GC 26 M26 := aq.of_ev (E := au GC uF) (av rG) rfl Ia xe 4 fun _ _ h => ⟨0, h⟩
open Classical in
theorem lD {T : bD} {chv : AV} (hcv : SlA 2 (T.ch.map chA) chv) (hl : T.ch.length <= 200) {s : eE} {ov sv pv : AV} (hs : Dc s ov sv pv) :
  M26 [aD T chv, .agg [.int .i64 s.period, ov, sv, pv]] = some (.bool (decide (Chk T s))) := by
 have m19 := uc hcv hl hs.o
 have ft := fun A => cO (T := T) (fun A n => hcv.frz (A := A) n) A 3
 have fo : ∀ A n, frz A n ov = ov := fun A n => hs.o.frz n
 have fs : ∀ A n, frz A n sv = sv := fun A n => hs.st.frz n
 have fp : ∀ A n, frz A n pv = pv := fun A n => hs.pr.frz n
 have hlo := hs.o.len
 rw [aA] at hlo
 have hlp := hs.pr.len
 rw [aA] at hlp
 have iv1 : ey sv = some s.starts := ex hs.st hs.stl hs.sti
 have iv2 : ey pv = some s.proof := ex hs.pr hs.prl hs.pri
 obtain ⟨p, o, st, pr⟩ := s
 simp only at m19 hlo hlp iv1 iv2
 have hper := hs.per
 simp only [inI] at hper
 have q1 : ov.solid = true /\ cellsOf ov = [ov] := by rcases hs.o with ⟨rfl, _⟩ | rfl <;> exact ⟨rfl, rfl⟩
 have q2 : sv.solid = true /\ cellsOf sv = [sv] := by rcases hs.st with ⟨rfl, _⟩ | rfl <;> exact ⟨rfl, rfl⟩
 have q3 : pv.solid = true /\ cellsOf pv = [pv] := by rcases hs.pr with ⟨rfl, _⟩ | rfl <;> exact ⟨rfl, rfl⟩
 have bx0 : aV 5 (aD T chv) [] = some (.ptr 0 0 0, [.row 5 false [aD T chv]]) := rfl
 have bx1 : ∀ t, aV 4 (.agg [.int .i64 p, ov, sv, pv]) [.row 5 false [t]] = some (.ptr 1 0 0, [.row 5 false [t], .row 4 false [.agg [.int .i64 p, ov, sv, pv]]]) := fun t => rfl
 have ct : (cellsOf (aD T chv)).length = 5 := rfl
 have ca : (cellsOf (.agg [.int .i64 p, ov, sv, pv])).length = 4 := rfl
 obtain ⟨A0, hA0⟩ : ∃ A : ac, A = [.row 5 false [aD T chv], .row 4 false [.agg [.int .i64 p, ov, sv, pv]]] := ⟨_, rfl⟩
 have lt : ae true 5 A0 (.ptr 0 0 0) = some (aD T chv) := by rw [hA0]; rfl
 have fa : ∀ j, j < 4 -> aa j A0 (.ptr 1 0 0) = some (.ptr 1 0 j) := fun j hj => by rw [hA0]; simp [aa, hj]
 have l0 : ae false 1 A0 (.ptr 1 0 0) = some (.int .i64 p) := by rw [hA0]; rfl
 have l1 : ae false 1 A0 (.ptr 1 0 1) = some ov := by rw [hA0]; rfl
 have l2 : ae false 1 A0 (.ptr 1 0 2) = some sv := by rw [hA0]; rfl
 have l3 : ae false 1 A0 (.ptr 1 0 3) = some pv := by rw [hA0]; rfl
 obtain ⟨t, ht⟩ : ∃ t, t = aD T chv := ⟨_, rfl⟩
 rw [<- ht] at m19 ft bx0 ct lt hA0 ⊢
 have bx1 := bx1 t
 rw [<- hA0] at bx1
 unfold M26
 rw [aN _ _ rfl]
 by_cases hO : o ∈ ax T
 rotate_left
 ·rw [decide_eq_false (fun h => hO h.1)]
  have e0 : ri T o = none := if_neg hO
  rw [e0] at m19
  have m19 : M19 [t, ov] = some (.tup [.nilS, .int .i64 130]) := m19
  have b1 := i9 130 0
  rw [decide_eq_true (by omega)] at b1
  simp [uB, bx0, bx1, ct, ca, lt, m19, ft, fo, hlo, fa, l1, b1, -aV, -ae, -aa, -aj, -frz, -cellsOf, -af, aZ]
 rw [eU hO] at m19
 have m19 : M19 [t, ov] = some (.tup [cR (aR T o), .int .i64 0]) := m19
 have b1 := i9 0 0
 rw [decide_eq_false (by omega)] at b1
 have b2 := ed p 1
 by_cases hp1 : p < 1
 ·rw [decide_eq_false (fun h => by have := h.2.1.1; simp only at this; omega)]
  rw [decide_eq_true hp1] at b2
  simp [uB, bx0, bx1, ct, ca, lt, m19, ft, fo, hlo, fa, l0, l1, b1, b2, -aV, -ae, -aa, -aj, -frz, -cellsOf, -af, aZ]
 rw [decide_eq_false hp1] at b2
 have b3 := f8 p 1000000
 by_cases hp2 : p > 1000000
 ·rw [decide_eq_false (fun h => by have := h.2.1.2; simp only at this; omega)]
  rw [decide_eq_true hp2] at b3
  simp [uB, bx0, bx1, ct, ca, lt, m19, ft, fo, hlo, fa, l0, l1, b1, b2, b3, -aV, -ae, -aa, -aj, -frz, -cellsOf, -af, aZ]
 rw [decide_eq_false hp2] at b3
 have mv : Cy.M19 [.int .i64 (o.length : Int), cR (aR T o), .int .i64 p, sv] = some (.bool (decide (bY (o.length : Int) (aR T o) p st))) := by
  simp only [Cy.M19, eR hO, iv1]
 have mr : ∀ p, Cy.M21 [.int .i64 (o.length : Int), cR (aR T o), .int .i64 p, pv] = some (.bool (decide (ck (o.length : Int) (aR T o) p pr))) := fun p => by
  simp only [Cy.M21, eR hO, iv2]
 have fa' : ∀ A n, frz A n (cR (aR T o)) = cR (aR T o) := fun A n => (aI 4 _).frz n
 obtain ⟨V, hV⟩ : ∃ V, V = cR (aR T o) := ⟨_, rfl⟩
 rw [<- hV] at m19 mv fa'
 by_cases hver : bY (o.length : Int) (aR T o) p st
 rotate_left
 ·rw [decide_eq_false hver] at mv
  rw [decide_eq_false (fun h => hver h.2.2.1)]
  simp [uB, bx0, bx1, ct, ca, lt, m19, ft, fo, fs, fa', aS, mv, hlo, fa, l0, l1, l2, b1, b2, b3, -aV, -ae, -aa, -aj, -frz, -cellsOf, -af, aZ]
 rw [decide_eq_true hver] at mv
 have b4 := ce p 1
 by_cases hp : p = 1
 ·rw [decide_eq_true hp] at b4
  have b5 : af .eql (.int .i64 (pr.length : Int)) (.int .i64 0) = some (.bool (decide (pr = []))) := by
   rw [ce]
   congr 2
   exact decide_eq_decide.2 ⟨fun h => List.length_eq_zero_iff.1 (by omega), fun h => by rw [h]; rfl⟩
  have hc : Chk T ⟨p, o, st, pr⟩ ↔ pr = [] := by
   constructor
   ·intro h
    have := h.2.2.2
    simp only at this
    rwa [if_pos hp] at this
   ·intro h
    refine ⟨hO, ⟨by simp only; omega, by simp only; omega⟩, hver, ?_⟩
    simp only
    rw [if_pos hp]; exact h
  rw [decide_eq_decide.2 hc]
  obtain ⟨d, hd⟩ : ∃ d, d = decide (pr = []) := ⟨_, rfl⟩
  rw [<- hd] at b5 ⊢
  simp [uB, bx0, bx1, ct, ca, lt, m19, ft, fo, fs, fa', aS, mv, hlo, hlp, fa, l0, l1, l2, l3, b1, b2, b3, b4, b5, aZ, -aV, -ae, -aa, -aj, -frz, -cellsOf, -af]
 ·rw [decide_eq_false hp] at b4
  have b6 : af .sub (.int .i64 p) (.int .i64 1) = some (.int .i64 (p - 1)) := ij (by omega)
  have hc : Chk T ⟨p, o, st, pr⟩ ↔ ck (o.length : Int) (aR T o) (p - 1) pr := by
   constructor
   ·intro h
    have := h.2.2.2
    simp only at this
    rwa [if_neg hp] at this
   ·intro h
    refine ⟨hO, ⟨by simp only; omega, by simp only; omega⟩, hver, ?_⟩
    simp only
    rw [if_neg hp]; exact h
  rw [decide_eq_decide.2 hc]
  have mr := mr (p - 1)
  rw [<- hV] at mr
  obtain ⟨d, hd⟩ : ∃ d, d = decide (ck (o.length : Int) (aR T o) (p - 1) pr) := ⟨_, rfl⟩
  rw [<- hd] at mr ⊢
  obtain ⟨p1, hp1'⟩ : ∃ q, q = p - 1 := ⟨_, rfl⟩
  rw [<- hp1'] at mr b6
  simp [uB, bx0, bx1, ct, ca, lt, m19, ft, fo, fs, fp, fa', aS, mv, mr, hlo, fa, l0, l1, l2, l3, b1, b2, b3, b4, b6, aZ, -aV, -ae, -aa, -aj, -frz, -cellsOf, -af]
open Cy (M12 cw)
theorem ev33 (E : Env) (a n : Int) (ha : inI a) (hn : 0 < n) : evP E 0 B9 1 [.int .i64 a, .int .i64 n] = some (.int .i64 (pick a n)) := by
 have h3 : n ≠ 0 := by omega
 rw [aN _ _ rfl]
 by_cases h : a < 0
 ·have h1 : IntKind.i64.wrap (a + 1) = a + 1 := dl (by unfold inI at *; omega)
  have h2 : IntKind.i64.wrap (-(a + 1)) = -(a + 1) := dl (by unfold inI at *; omega)
  simp [B9, h, h1, h2, h3, pick]
 ·simp [B9, h, h3, pick]
theorem vq : aq Try.prog GC 33 M12 := by
 refine aq.of_ev (E := au GC []) (av az) rfl H7 xc 1 ?_
 intro args r h
 unfold M12 at h
 split at h
 ·simp only [Option.ite_none_right_eq_some, Option.some.injEq] at h
  obtain ⟨⟨h1, h2⟩, rfl⟩ := h
  exact ⟨0, ev33 _ _ _ h1 h2⟩
 ·cases h
structure X5 where
 a : Int
 b : Int
 c : Int
 d : Int
 e : Int
def x5A (x : X5) : AV := .agg [.int .i64 x.a, .int .i64 x.b, .int .i64 x.c, .int .i64 x.d, .int .i64 x.e]
def X5.inR (x : X5) : Prop := inI x.a /\ inI x.b /\ inI x.c /\ inI x.d /\ inI x.e
def yOf (x : X5) (ys : List (Int × Int)) (i : Nat) : Int × Int := if i < ys.length then ys.getD i (0, 0) else (x.e, x.e)
def uZ (x : X5) (ys : List (Int × Int)) (i : Nat) : Int × Int := (pick (yOf x ys i).1 60, pick (yOf x ys i).2 40)
def nOf (ys : List (Int × Int)) : Nat := max 1 (min ys.length 4)
def mY (x : X5) (ys : List (Int × Int)) : bD := ⟨(List.range (nOf ys)).map (uZ x ys), 1 + pick x.a 5, 1 + pick x.b 5, pick x.c 9, 1 + pick x.d 2⟩
theorem uD (x : X5) (ys : List (Int × Int)) : ez (mY x ys) := by
 have h1 := bG x.a 5 (by omega)
 have h2 := bG x.b 5 (by omega)
 have h3 := bG x.c 9 (by omega)
 have h4 := bG x.d 2 (by omega)
 have hn : (mY x ys).ch.length = nOf ys := by simp [mY]
 refine ⟨fun c hc => ?_, ⟨⟨?_, ?_⟩, ⟨?_, ?_⟩, ?_, ?_⟩, ?_, ?_, ?_⟩
 ·obtain ⟨i, _, rfl⟩ := List.mem_map.1 hc
  have k1 := bG (yOf x ys i).1 60 (by omega)
  have k2 := bG (yOf x ys i).2 40 (by omega)
  unfold l8 uZ
  simp only
  omega
 all_goals first | (rw [hn]; unfold nOf; omega) | (simp only [mY]; omega)
def Fw (A : ac) (v : AV) (xs : List (Int × Int)) : Prop := (v = .nilS /\ xs = []) \/ ∃ id gr, v = .sl id 0 xs.length /\ xs ≠ [] /\ 2 < id /\ A[id]? = some (.row 2 gr (xs.map chA))
structure I13 (A : ac) (x : X5) (xs : List (Int × Int)) (p q r s : Int) : Prop where
 x : A[0]? = some (.row 5 false [x5A x])
 o : A[1]? = some (.row 5 false [.agg [.nilS, .int .i64 0, .int .i64 0, .int .i64 0, .int .i64 0]])
 c : ∃ v, A[2]? = some (.row 5 false [.agg [v, .int .i64 p, .int .i64 q, .int .i64 r, .int .i64 s]]) /\ Fw A v xs
def C6 : List (FuncId × aL) := [(33, aF 4 M12)]
@[simp] theorem HD : aB C6 33 = some (aF 4 M12) := rfl
theorem BD : ∀ f M, aB C6 f = some M -> an Try.prog GC f M := ak (an.of_pure vq 4) az
theorem pc {A : ac} {id i : Nat} {k : Nat} {es : List AV} {x : AV} (h : A[id]? = some (.row k false [.agg es])) (hx : es[i]? = some x) : ae false 1 A (.ptr id 0 i) = some x := by
 simp [ae, h, a0, hx]
theorem BR {A : ac} {x : X5} (hx : x.inR) {ys : List (Int × Int)} (hys : ∀ y ∈ ys, inI y.1 /\ inI y.2) {yv : AV} (hy : SlA 2 (ys.map chA) yv) {xs : List (Int × Int)} {p q r s : Int} (hI : I13 A x xs p q r s) {i : Nat} (hi : i < nOf ys) (hxl : xs.length <= 100) :
  ∃ B, run (au GC C6) 300 [.code kY] (oN yv (.ptr 0 0 0) (.ptr 1 0 0) (.ptr 2 0 0) (.int .i64 (i : Int))) A = some (.normal (oN yv (.ptr 0 0 0) (.ptr 1 0 0) (.ptr 2 0 0) (.int .i64 ((i + 1 : Nat) : Int))) B) /\ I13 B x (xs ++ [uZ x ys i]) p q r s := by
 obtain ⟨h0, h1, v, h2, hv⟩ := hI
 have n0 := (List.getElem?_eq_some_iff.1 h0).1
 have n1 := (List.getElem?_eq_some_iff.1 h1).1
 have n2 := (List.getElem?_eq_some_iff.1 h2).1
 have hlen := hy.len
 rw [List.length_map] at hlen
 have hyl : ∀ a b : Nat, fu false (.int .i64 (a : Int)) (.int .i64 (b : Int)) = some (.int .i64 ((min a b : Nat) : Int)) := fun a b => pJ a b _ _
 have b0 : cg false (.int .i64 (ys.length : Int)) [.int .i64 4] = some (.int .i64 ((min ys.length 4 : Nat) : Int)) := by
  have := pJ ys.length 4 .i64 .i64
  simp only [cg]
  rw [show (.int .i64 4 : AV) = .int .i64 ((4 : Nat) : Int) from rfl, this]
 have b1 : cg true (.int .i64 1) [.int .i64 ((min ys.length 4 : Nat) : Int)] = some (.int .i64 (nOf ys : Int)) := by
  have := tB 1 (min ys.length 4) .i64 .i64
  simp only [cg]
  rw [show (.int .i64 1 : AV) = .int .i64 ((1 : Nat) : Int) from rfl, this]
  rfl
 have b2 := bc i (nOf ys) .i64
 rw [decide_eq_true hi] at b2
 have b3 := bc i ys.length .i64
 have b4 := aK i (by unfold nOf at hi; omega)
 have xi : ∀ X, bq 5 1 (A ++ X) (.ptr 0 0 0) (.int .i64 4) = some (.ptr 0 0 4) := fun X => by
  have : (A ++ X)[0]? = some (.row 5 false [x5A x]) := by rw [List.getElem?_append_left n0]; exact h0
  simp [bq, this]
 have xi0 := xi []
 rw [List.append_nil] at xi0
 have xl : ∀ X, ae false 1 (A ++ X) (.ptr 0 0 4) = some (.int .i64 x.e) := fun X => pc (es := [.int .i64 x.a, .int .i64 x.b, .int .i64 x.c, .int .i64 x.d, .int .i64 x.e]) (k := 5) (by rw [List.getElem?_append_left n0]; exact h0) rfl
 have xl0 := xl []
 rw [List.append_nil] at xl0
 obtain ⟨y, hyo⟩ : ∃ y, y = yOf x ys i := ⟨_, rfl⟩
 have hyr : inI y.1 /\ inI y.2 := by
  rw [hyo]; unfold yOf
  split
  ·rename_i h
   rw [List.getD_eq_getElem?_getD, List.getElem?_eq_getElem h]
   exact hys _ (List.getElem_mem h)
  ·exact ⟨hx.2.2.2.2, hx.2.2.2.2⟩
 have bx : ∀ z, aV 2 (.agg [.int .i64 z, .int .i64 z]) A = some (.ptr A.length 0 0, A ++ [.row 2 false [.agg [.int .i64 z, .int .i64 z]]]) := fun z => rfl
 have s0 : ∀ a b c d, aw 2 (A ++ [.row 2 false [.agg [.int .i64 a, .int .i64 b]]]) (.ptr A.length 0 0) (.agg [.int .i64 c, .int .i64 d]) = some (A ++ [.row 2 false [.agg [.int .i64 c, .int .i64 d]]]) := fun a b c d => by simp [aw, aJ]
 have i0 : ∀ a b : Int, bq 2 1 (A ++ [.row 2 false [.agg [.int .i64 a, .int .i64 b]]]) (.ptr A.length 0 0) (.int .i64 0) = some (.ptr A.length 0 0) := fun a b => by simp [bq]
 have i1 : ∀ a b : Int, bq 2 1 (A ++ [.row 2 false [.agg [.int .i64 a, .int .i64 b]]]) (.ptr A.length 0 0) (.int .i64 1) = some (.ptr A.length 0 1) := fun a b => by simp [bq]
 have l0 : ∀ a b : Int, ae false 1 (A ++ [.row 2 false [.agg [.int .i64 a, .int .i64 b]]]) (.ptr A.length 0 0) = some (.int .i64 a) := fun a b => gD (es := [.int .i64 a, .int .i64 b]) (k := 2) rfl rfl
 have l1 : ∀ a b : Int, ae false 1 (A ++ [.row 2 false [.agg [.int .i64 a, .int .i64 b]]]) (.ptr A.length 0 1) = some (.int .i64 b) := fun a b => gD (es := [.int .i64 a, .int .i64 b]) (k := 2) rfl rfl
 have c0 : ∀ X, aa 0 (A ++ X) (.ptr 2 0 0) = some (.ptr 2 0 0) := fun X => by
  have : (A ++ X)[2]? = some (.row 5 false [.agg [v, .int .i64 p, .int .i64 q, .int .i64 r, .int .i64 s]]) := by rw [List.getElem?_append_left n2]; exact h2
  simp [aa, this]
 have cl : ∀ X, ae false 1 (A ++ X) (.ptr 2 0 0) = some v := fun X => pc (es := [v, .int .i64 p, .int .i64 q, .int .i64 r, .int .i64 s]) (k := 5) (by rw [List.getElem?_append_left n2]; exact h2) rfl
 have m1 := cw hyr.1 (n := 60) (by omega)
 have m2 := cw hyr.2 (n := 40) (by omega)
 have hch : uZ x ys i = (pick y.1 60, pick y.2 40) := by rw [hyo]; rfl
 rw [hch]
 obtain ⟨P1, hP1⟩ : ∃ z, z = pick y.1 60 := ⟨_, rfl⟩
 obtain ⟨P2, hP2⟩ : ∃ z, z = pick y.2 40 := ⟨_, rfl⟩
 rw [<- hP1] at m1 ⊢
 rw [<- hP2] at m2 ⊢
 obtain ⟨A1, hA1⟩ : ∃ X, X = A ++ [Ent.row 2 false [.agg [.int .i64 y.1, .int .i64 y.2]]] := ⟨_, rfl⟩
 have hl1 : A1.length = A.length + 1 := by rw [hA1]; simp
 have hA1o : ∀ j, j < A.length -> A1[j]? = A[j]? := fun j hj => by rw [hA1, List.getElem?_append_left hj]
 obtain ⟨v', A2, e1, e2, e3, e4, e5⟩ : ∃ v' A2, aH 2 16 A1 v (.fs 2 [.agg [.int .i64 P1, .int .i64 P2]]) = some (v', A2) /\ Fw A2 v' (xs ++ [(P1, P2)]) /\ (∀ j, j <= 2 -> A2[j]? = A[j]?) /\ (∃ a b, v' = .sl a 0 b /\ 2 < a) /\ 2 < A2.length := by
  rcases hv with ⟨rfl, rfl⟩ | ⟨id, gr, rfl, hne, hid, hrow⟩
  ·refine ⟨.sl A1.length 0 1, A1 ++ [.row 2 false [chA (P1, P2)]], by simp [aH, chA], .inr ⟨A1.length, false, rfl, by simp, by omega, by simp⟩, fun j hj => ?_, ⟨_, _, rfl, by omega⟩, by simp; omega⟩
   rw [List.getElem?_append_left (by omega), hA1o j (by omega)]
  ·have hidl := (List.getElem?_eq_some_iff.1 hrow).1
   have hz : xs.length ≠ 0 := fun e => hne (List.length_eq_zero_iff.1 e)
   have hb : (xs.length + 1) * 16 <= 140737488355328 := by omega
   have hrow1 : A1[id]? = some (.row 2 gr (xs.map chA)) := by rw [hA1o id hidl]; exact hrow
   refine ⟨.sl id 0 (xs.length + 1), A1.set id (.row 2 true (xs.map chA ++ [chA (P1, P2)])), by simp [aH, hrow1, hz, hb, chA], .inr ⟨id, true, by simp, by simp, hid, ?_⟩, fun j hj => ?_, ⟨_, _, rfl, hid⟩, by simp; omega⟩
   ·rw [List.getElem?_set_self (by omega), List.map_append]; rfl
   ·rw [List.getElem?_set_ne (by omega), hA1o j (by omega)]
 obtain ⟨ia, ib, rfl, hia⟩ := e4
 have c2 : aa 0 A2 (.ptr 2 0 0) = some (.ptr 2 0 0) := by
  have := e3 2 (by omega)
  rw [h2] at this
  simp [aa, this]
 have st : aw 1 A2 (.ptr 2 0 0) (.sl ia 0 ib) = some (A2.set 2 (.row 5 false [.agg [.sl ia 0 ib, .int .i64 p, .int .i64 q, .int .i64 r, .int .i64 s]])) := by
  have := e3 2 (by omega)
  rw [h2] at this
  simp [aw, this, aJ]
 refine ⟨A2.set 2 (.row 5 false [.agg [.sl ia 0 ib, .int .i64 p, .int .i64 q, .int .i64 r, .int .i64 s]]), ?_, ⟨by rw [List.getElem?_set_ne (by omega), e3 0 (by omega)]; exact h0, by rw [List.getElem?_set_ne (by omega), e3 1 (by omega)]; exact h1, .sl ia 0 ib, by rw [List.getElem?_set_self e5], ?_⟩⟩
 rotate_left
 ·rcases e2 with ⟨h, _⟩ | ⟨id, gr, e2, e6, e7, e8⟩
  ·cases h
  ·exact .inr ⟨id, gr, e2, e6, e7, by rw [List.getElem?_set_ne (by omega)]; exact e8⟩
 obtain ⟨B, hB⟩ : ∃ X, X = A2.set 2 (.row 5 false [.agg [.sl ia 0 ib, .int .i64 p, .int .i64 q, .int .i64 r, .int .i64 s]]) := ⟨_, rfl⟩
 rw [<- hB] at st ⊢
 have c1 := c0 [Ent.row 2 false [.agg [.int .i64 y.1, .int .i64 y.2]]]
 have cl1 := cl [Ent.row 2 false [.agg [.int .i64 y.1, .int .i64 y.2]]]
 have hsl : br 2 [.agg [.int .i64 P1, .int .i64 P2]] = some (.fs 2 [.agg [.int .i64 P1, .int .i64 P2]]) := rfl
 obtain ⟨N, hN⟩ : ∃ n, n = A.length := ⟨_, rfl⟩
 obtain ⟨ii, hii⟩ : ∃ n, n = i + 1 := ⟨_, rfl⟩
 rw [<- hii] at b4 ⊢
 obtain ⟨nn, hnn⟩ : ∃ n, n = nOf ys := ⟨_, rfl⟩
 rw [<- hnn] at b1 b2
 obtain ⟨mm, hmm⟩ : ∃ n, n = min ys.length 4 := ⟨_, rfl⟩
 rw [<- hmm] at b0 b1
 by_cases hc : i < ys.length
 ·rw [decide_eq_true hc] at b3
  have hye : y = ys[i] := by
   rw [hyo, yOf, if_pos hc, List.getD_eq_getElem?_getD, List.getElem?_eq_getElem hc]; rfl
  have yx : ∀ A, ab 2 A yv (.int .i64 (i : Int)) = some (.fp [.int .i64 y.1, .int .i64 y.2]) := fun A => by
   rw [hye]
   exact hy.index (A := A) (x := chA ys[i]) (by simp [hc]) rfl (by omega) .i64
  have k1 := i0 y.1 y.2
  have k2 := i1 y.1 y.2
  have k3 := l0 y.1 y.2
  have k4 := l1 y.1 y.2
  have k5 := s0 x.e x.e y.1 y.2
  rw [<- hA1] at c1 cl1 k1 k2 k3 k4 k5
  have bx := bx 0
  have k6 := s0 0 0 x.e x.e
  rw [<- hN] at k1 k2 k3 k4 k5 k6 bx
  obtain ⟨A0, hA0⟩ : ∃ X, X = A ++ [Ent.row 2 false [.agg [.int .i64 0, .int .i64 0]]] := ⟨_, rfl⟩
  rw [<- hA0] at bx k6
  obtain ⟨A3, hA3⟩ : ∃ X, X = A ++ [Ent.row 2 false [.agg [.int .i64 x.e, .int .i64 x.e]]] := ⟨_, rfl⟩
  rw [<- hA3] at k5 k6
  simp [kY, hlen, b0, b1, b2, b3, b4, xi0, xl0, bx, yx, k1, k2, k3, k4, k5, k6, m1, m2, hsl, c1, cl1, e1, c2, st, aS, -cg, -fu, -af, -ae, -aw, -aa, -ab, -aj, -br, -aV, -frz]
 ·rw [decide_eq_false hc] at b3
  have hye : y = (x.e, x.e) := by rw [hyo, yOf, if_neg hc]
  have k1 := i0 y.1 y.2
  have k2 := i1 y.1 y.2
  have k3 := l0 y.1 y.2
  have k4 := l1 y.1 y.2
  rw [<- hA1] at c1 cl1 k1 k2 k3 k4
  have bx := bx 0
  have k6 := s0 0 0 y.1 y.2
  rw [<- hN] at k1 k2 k3 k4 k6 bx
  obtain ⟨A0, hA0⟩ : ∃ X, X = A ++ [Ent.row 2 false [.agg [.int .i64 0, .int .i64 0]]] := ⟨_, rfl⟩
  rw [<- hA0] at bx k6
  rw [<- hA1] at k6
  rw [hye] at k3 k4 k6 m1 m2
  simp only at k3 k4 k6 m1 m2
  simp [kY, hlen, b0, b1, b2, b3, b4, xi0, xl0, bx, k1, k2, k3, k4, k6, m1, m2, hsl, c1, cl1, e1, c2, st, aS, -cg, -fu, -af, -ae, -aw, -aa, -ab, -aj, -br, -aV, -frz]
theorem DI {x : X5} (hx : x.inR) {ys : List (Int × Int)} (hys : ∀ y ∈ ys, inI y.1 /\ inI y.2) {yv : AV} (hy : SlA 2 (ys.map chA) yv) {p q r s : Int} : ∀ (c i : Nat) (A : ac) (m : Nat), i + c = nOf ys -> I13 A x ((List.range i).map (uZ x ys)) p q r s -> c < m ->
  ∃ B, bg (evC (au GC C6) 300 kY) mi m (oN yv (.ptr 0 0 0) (.ptr 1 0 0) (.ptr 2 0 0) (.int .i64 (i : Int))) A = some (.exit 0 ((oN yv (.ptr 0 0 0) (.ptr 1 0 0) (.ptr 2 0 0) (.int .i64 (nOf ys : Int))).set 7 (.bool false)) B) /\ I13 B x ((List.range (nOf ys)).map (uZ x ys)) p q r s := by
 have hn4 : nOf ys <= 4 := by unfold nOf; omega
 intro c
 induction c with
 | zero =>
  intro i A m hi hI hm
  obtain ⟨m, rfl⟩ : ∃ j, m = j + 1 := ⟨m - 1, by omega⟩
  obtain rfl : i = nOf ys := by omega
  refine ⟨A, ?_, hI⟩
  have hlen := hy.len
  rw [List.length_map] at hlen
  have b0 : cg false (.int .i64 (ys.length : Int)) [.int .i64 4] = some (.int .i64 ((min ys.length 4 : Nat) : Int)) := by
   have := pJ ys.length 4 .i64 .i64
   simp only [cg]
   rw [show (.int .i64 4 : AV) = .int .i64 ((4 : Nat) : Int) from rfl, this]
  have b1 : cg true (.int .i64 1) [.int .i64 ((min ys.length 4 : Nat) : Int)] = some (.int .i64 (nOf ys : Int)) := by
   have := tB 1 (min ys.length 4) .i64 .i64
   simp only [cg]
   rw [show (.int .i64 1 : AV) = .int .i64 ((1 : Nat) : Int) from rfl, this]
   rfl
  have b2 := bc (nOf ys) (nOf ys) .i64
  rw [decide_eq_false (by omega)] at b2
  obtain ⟨mm, hmm⟩ : ∃ n, n = min ys.length 4 := ⟨_, rfl⟩
  rw [<- hmm] at b0 b1
  rw [aQ, xK]
  simp [kY, hlen, b0, b1, b2, -af, -cg, -fu, -aj]
 | succ c ih =>
  intro i A m hi hI hm
  obtain ⟨m, rfl⟩ : ∃ j, m = j + 1 := ⟨m - 1, by omega⟩
  obtain ⟨B, h1, h2⟩ := BR hx hys hy hI (i := i) (by omega) (by simp; omega)
  have e : (List.range i).map (uZ x ys) ++ [uZ x ys i] = (List.range (i + 1)).map (uZ x ys) := by rw [List.range_succ, List.map_append]; rfl
  rw [e] at h2
  obtain ⟨C, h3, h4⟩ := ih (i + 1) B m (by omega) h2 (by omega)
  refine ⟨C, ?_, h4⟩
  rw [aQ, xK, h1]
  exact h3
def M13 : aT := fun args => evF (au GC C6) 300 FU 4 args
theorem Du : bk Try.prog GC 13 M13 := bk.of_ev (E := au GC C6) (av BD) rfl at13 En 4 fun _ _ h => ⟨300, h⟩
theorem tY {A : ac} {v : AV} {xs : List (Int × Int)} (h : Fw A v xs) (k : Nat) : frz A (k + 3) v = slA 2 (xs.map chA) /\ aY A (k + 3) v = true := by
 rcases h with ⟨rfl, rfl⟩ | ⟨id, gr, rfl, hne, _, hr⟩
 ·exact ⟨rfl, rfl⟩
 ·have e : ((xs.map chA).drop 0).take xs.length = xs.map chA := by
   rw [List.drop_zero]
   conv => lhs; rw [show xs.length = (xs.map chA).length by simp]
   rw [List.take_length]
  have hm : (xs.map chA).map (frz A (k + 2)) = xs.map chA := by
   rw [List.map_map]
   exact List.map_congr_left fun x _ => by simp [chA, frz]
  constructor
  ·rw [show k + 3 = (k + 2) + 1 from rfl]
   simp only [frz, hr]
   rw [e, hm]
   cases xs with
   | nil => exact absurd rfl hne
   | cons x r => rfl
  ·rw [show k + 3 = (k + 2) + 1 from rfl]
   simp only [aY, hr]
   rw [e, List.all_eq_true]
   intro y hy
   obtain ⟨x, _, rfl⟩ := List.mem_map.1 hy
   simp [chA, aY]
def mkA (x : X5) (ys : List (Int × Int)) : AV := aD (mY x ys) (slA 2 ((mY x ys).ch.map chA))
theorem E3 {x : X5} (hx : x.inR) {ys : List (Int × Int)} (hys : ∀ y ∈ ys, inI y.1 /\ inI y.2) {yv : AV} (hy : SlA 2 (ys.map chA) yv) : M13 [x5A x, yv] = some (mkA x ys) := by
 have p1 := bG x.a 5 (by omega)
 have p2 := bG x.b 5 (by omega)
 have p4 := bG x.d 2 (by omega)
 have m1 := cw hx.1 (n := 5) (by omega)
 have m2 := cw hx.2.1 (n := 5) (by omega)
 have m3 := cw hx.2.2.1 (n := 9) (by omega)
 have m4 := cw hx.2.2.2.1 (n := 2) (by omega)
 have b1 : af .add (.int .i64 1) (.int .i64 (pick x.a 5)) = some (.int .i64 (1 + pick x.a 5)) := dj (by omega)
 have b2 : af .add (.int .i64 1) (.int .i64 (pick x.b 5)) = some (.int .i64 (1 + pick x.b 5)) := dj (by omega)
 have b4 : af .add (.int .i64 1) (.int .i64 (pick x.d 2)) = some (.int .i64 (1 + pick x.d 2)) := dj (by omega)
 have hmk : mkA x ys = .agg [slA 2 (((List.range (nOf ys)).map (uZ x ys)).map chA), .int .i64 (1 + pick x.a 5), .int .i64 (1 + pick x.b 5), .int .i64 (pick x.c 9), .int .i64 (1 + pick x.d 2)] := rfl
 rw [hmk]
 obtain ⟨q1, h1⟩ : ∃ z, z = pick x.a 5 := ⟨_, rfl⟩
 obtain ⟨q2, h2⟩ : ∃ z, z = pick x.b 5 := ⟨_, rfl⟩
 obtain ⟨q3, h3⟩ : ∃ z, z = pick x.c 9 := ⟨_, rfl⟩
 obtain ⟨q4, h4⟩ : ∃ z, z = pick x.d 2 := ⟨_, rfl⟩
 rw [<- h1] at m1 b1 ⊢
 rw [<- h2] at m2 b2 ⊢
 rw [<- h3] at m3 ⊢
 rw [<- h4] at m4 b4 ⊢
 obtain ⟨r1, g1⟩ : ∃ z, z = 1 + q1 := ⟨_, rfl⟩
 obtain ⟨r2, g2⟩ : ∃ z, z = 1 + q2 := ⟨_, rfl⟩
 obtain ⟨r4, g4⟩ : ∃ z, z = 1 + q4 := ⟨_, rfl⟩
 rw [<- g1] at b1 ⊢
 rw [<- g2] at b2 ⊢
 rw [<- g4] at b4 ⊢
 obtain ⟨B, lp, ⟨k0, k1, v, k2, k3⟩⟩ := DI hx hys hy (p := r1) (q := r2) (r := q3) (s := r4) (nOf ys) 0 [.row 5 false [x5A x], .row 5 false [.agg [.nilS, .int .i64 0, .int .i64 0, .int .i64 0, .int .i64 0]], .row 5 false [.agg [.nilS, .int .i64 r1, .int .i64 r2, .int .i64 q3, .int .i64 r4]]] 300 (by omega) ⟨rfl, rfl, .nilS, rfl, .inl ⟨rfl, rfl⟩⟩ (by unfold nOf; omega)
 rw [show ((0 : Nat) : Int) = 0 from rfl] at lp
 obtain ⟨f1, f2⟩ := tY k3 0
 have e1 : ae true 5 B (.ptr 2 0 0) = some (.agg [v, .int .i64 r1, .int .i64 r2, .int .i64 q3, .int .i64 r4]) := by simp [ae, k2]
 have kl := (List.getElem?_eq_some_iff.1 k1).1
 have st : aw 5 B (.ptr 1 0 0) (.agg [v, .int .i64 r1, .int .i64 r2, .int .i64 q3, .int .i64 r4]) = some (B.set 1 (.row 5 false [.agg [v, .int .i64 r1, .int .i64 r2, .int .i64 q3, .int .i64 r4]])) := by simp [aw, k1, aJ]
 have k3' : Fw (B.set 1 (.row 5 false [.agg [v, .int .i64 r1, .int .i64 r2, .int .i64 q3, .int .i64 r4]])) v ((List.range (nOf ys)).map (uZ x ys)) := by
  rcases k3 with k3 | ⟨id, gr, a, b, c, d⟩
  ·exact .inl k3
  ·exact .inr ⟨id, gr, a, b, c, by rw [List.getElem?_set_ne (by omega)]; exact d⟩
 obtain ⟨f1, f2⟩ := tY k3' 0
 have e2 : ae true 5 (B.set 1 (.row 5 false [.agg [v, .int .i64 r1, .int .i64 r2, .int .i64 q3, .int .i64 r4]])) (.ptr 1 0 0) = some (.agg [v, .int .i64 r1, .int .i64 r2, .int .i64 q3, .int .i64 r4]) := by simp [ae, kl]
 obtain ⟨C, hC⟩ : ∃ X, X = B.set 1 (.row 5 false [.agg [v, .int .i64 r1, .int .i64 r2, .int .i64 q3, .int .i64 r4]]) := ⟨_, rfl⟩
 rw [<- hC] at st e2 f1 f2
 have F1 : frz C 4 (.agg [v, .int .i64 r1, .int .i64 r2, .int .i64 q3, .int .i64 r4]) = .agg [slA 2 (((List.range (nOf ys)).map (uZ x ys)).map chA), .int .i64 r1, .int .i64 r2, .int .i64 q3, .int .i64 r4] := by
  rw [<- f1]; rfl
 have F2 : aY C 4 (.agg [v, .int .i64 r1, .int .i64 r2, .int .i64 q3, .int .i64 r4]) = true := by
  have f2 : aY C 3 v = true := f2
  simp [aY, f2]
 rw [hC] at F1 F2
 have k1g : B[1] = .row 5 false [.agg [.nilS, .int .i64 0, .int .i64 0, .int .i64 0, .int .i64 0]] := by
  rw [List.getElem?_eq_getElem kl] at k1; injection k1
 unfold x5A at lp
 unfold M13
 rw [cU _ _ rfl]
 simp [FU, x5A, bq, m1, m2, m3, m4, b1, b2, b4, aS, DW lp, k1g, k2, kl, F1, F2, -frz, -af]
def M21 : aT := fun args => evP (au GC []) 300 ye 1 args
theorem vA : aq Try.prog GC 21 M21 := aq.of_ev (E := au GC []) (av az) rfl Ie xj 1 fun _ _ h => ⟨300, h⟩
instance : DecidableEq aW := fun a b => by
 obtain ⟨a1, a2, a3, a4⟩ := a
 obtain ⟨b1, b2, b3, b4⟩ := b
 exact decidable_of_iff (a1 = b1 /\ a2 = b2 /\ a3 = b3 /\ a4 = b4) ⟨fun ⟨h1, h2, h3, h4⟩ => by rw [h1, h2, h3, h4], fun h => by injection h with h1 h2 h3 h4; exact ⟨h1, h2, h3, h4⟩⟩
theorem E0 {xs ys : List aW} {a b : AV} (ha : SlA 4 (xs.map bM) a) (hb : SlA 4 (ys.map bM) b) (hl : xs.length <= 200) (hl2 : ys.length <= 200) : M21 [a, b] = some (.bool (decide (xs = ys))) := by
 have hla := ha.len
 have hlb := hb.len
 rw [List.length_map] at hla hlb
 have b0 : af .neq (.int .i64 (xs.length : Int)) (.int .i64 (ys.length : Int)) = some (.bool (decide (xs.length ≠ ys.length))) := by
  rw [i9]
  congr 2
  exact decide_eq_decide.2 (by omega)
 by_cases h0 : xs.length ≠ ys.length
 ·rw [decide_eq_true h0] at b0
  rw [decide_eq_false (fun h => h0 (by rw [h]))]
  unfold M21
  rw [aN _ _ rfl]
  simp [ye, hla, hlb, b0, -af, -aj]
 have h0 : xs.length = ys.length := Classical.not_not.1 h0
 rw [decide_eq_false (by omega)] at b0
 have round : ∀ (A : ac) (i : Nat) (hi : i < xs.length), run (au GC []) 300 [.code iZ] (kO a b (.int .i64 (i : Int))) A =
   if xs[i] = ys[i]'(by omega) then some (.normal (kO a b (.int .i64 ((i + 1 : Nat) : Int))) A) else some (.ret [a, b, .bool false, .int .i64 (i : Int), .undef, .bool true, .bool true] A) := fun A i hi => by
  have x1 := ha.index (A := A) (x := bM xs[i]) (i := i) (by simp [hi]) rfl (by omega) .i64
  have x2 := hb.index (A := A) (x := bM (ys[i]'(by omega))) (i := i) (by simp [show i < ys.length by omega]) rfl (by omega) .i64
  obtain ⟨p, hp⟩ : ∃ p, p = xs[i] := ⟨_, rfl⟩
  obtain ⟨q, hq⟩ : ∃ q, q = ys[i]'(by omega) := ⟨_, rfl⟩
  rw [<- hp] at x1 ⊢
  rw [<- hq] at x2 ⊢
  have ea : gy true [(0, 1), (1, 1), (2, 1), (3, 1)] (bM p) (bM q) = some (.bool (decide (p ≠ q))) := by
   obtain ⟨a1, a2, a3, a4⟩ := p
   obtain ⟨c1, c2, c3, c4⟩ := q
   simp only [bM, gy, nH, eqK]
   by_cases e1 : a1 = c1 <;> by_cases e2 : a2 = c2 <;> by_cases e3 : a3 = c3 <;> by_cases e4 : a4 = c4 <;> simp [e1, e2, e3, e4]
  have b1 := bc i xs.length .i64
  rw [decide_eq_true hi] at b1
  have b3 := aK i (by omega)
  have l1 : ∀ z : aW, ae true 4 A (.fp (cellsOf (bM z))) = some (bM z) := fun z => rfl
  obtain ⟨P, hP⟩ : ∃ P, P = cellsOf (bM p) := ⟨_, rfl⟩
  obtain ⟨Q, hQ⟩ : ∃ P, P = cellsOf (bM q) := ⟨_, rfl⟩
  have l2 := l1 p
  have l3 := l1 q
  rw [<- hP] at x1 l2
  rw [<- hQ] at x2 l3
  obtain ⟨i1, hi1⟩ : ∃ i1 : Nat, i1 = i + 1 := ⟨_, rfl⟩
  rw [<- hi1] at b3 ⊢
  by_cases hd : p = q
  ·rw [decide_eq_false (by simpa using hd)] at ea
   rw [if_pos hd]
   simp [iZ, hla, x1, x2, l2, l3, ea, b1, b3, -af, -ab, -aj, -ae, -gy]
  ·rw [decide_eq_true (by simpa using hd)] at ea
   rw [if_neg hd]
   simp [iZ, hla, x1, x2, l2, l3, ea, b1, -af, -ab, -aj, -ae, -gy]
 have bE := bc xs.length xs.length .i64
 rw [decide_eq_false (by omega)] at bE
 unfold M21
 rw [aN _ _ rfl]
 rcases bz (E := au GC []) (fuel := 300) (a := iZ) (mask := iI) (fun i => kO a b (.int .i64 (i : Int))) (fun _ => []) xs.length (fun i => ¬ ∀ (hi : i < xs.length), xs[i] = ys[i]'(by omega))
  (oF := fun i => .ret [a, b, .bool false, .int .i64 (i : Int), .undef, .bool true, .bool true] []) (oE := .exit 0 ((kO a b (.int .i64 (xs.length : Int))).set 5 (.bool false)) [])
  (fun _ => AM) (fun _ _ _ h => by cases h) (fun _ _ h => by cases h)
  (fun i hi hp => by
   rw [round [] i hi]
   exact if_pos (Classical.not_not.1 hp hi))
  (fun i hi hp => by
   rw [round [] i hi]
   exact if_neg fun h => hp fun _ => h)
  (by simp [iZ, hla, bE, -af, -aj]) (show xs.length < 300 by omega) with ⟨i, hi, hp, hj, lp⟩ | ⟨hp, lp⟩
 ·have lp : bg (evC (au GC []) 300 iZ) iI 300 (kO a b (.int .i64 0)) [] = _ := lp
  rw [decide_eq_false (fun h => hp (fun _ => by subst h; rfl))]
  simp [ye, hla, hlb, b0, An lp, -af, -aj]
 ·have lp : bg (evC (au GC []) 300 iZ) iI 300 (kO a b (.int .i64 0)) [] = _ := lp
  rw [decide_eq_true (List.ext_getElem h0 fun i h1 h2 => Classical.not_not.1 (hp i h1) h1)]
  simp [ye, hla, hlb, b0, An lp, -af, -aj]
namespace Cy
theorem sc {n : Int} {l : List aW} {p : Int} (hr : a6 n l p) : (lvM n l p).2.2 = true ↔ ¬ Pos l p := by
 obtain ⟨m, rfl⟩ : ∃ m : Nat, n = (m : Int) := ⟨n.toNat, by have := hr.1.1; omega⟩
 rw [<- ji hr]
 unfold lvM
 rw [if_pos hr, Int.toNat_natCast]
 split
 ·rename_i h; simp [h]
 ·rename_i h; simp [h]
theorem jV {n : Int} {l : List aW} {p : Int} (hr : a6 n l p) (h : (lvM n l p).2.2 = true) : (lvM n l p).2.1 = [] /\ bY n l p (lvM n l p).1 /\ (∀ x ∈ (lvM n l p).1, x <= 100000000) /\ ∀ x, bY n l p x -> ∀ v : Nat, (v : Int) < n -> (lvM n l p).1.getD v 0 <= x.getD v 0 := by
 obtain ⟨m, rfl⟩ : ∃ m : Nat, n = (m : Int) := ⟨n.toNat, by have := hr.1.1; omega⟩
 have hv := hr.1.2.2
 have hn := hr.1.1
 have e : lvM m l p = ((a7 (lar p l) m).1, [], true) := by
  unfold lvM at h ⊢
  rw [if_pos hr, Int.toNat_natCast] at h ⊢
  split
  ·rfl
  ·rename_i h'
   rw [if_neg h'] at h; cases h
 have hlv : (a7 (lar p l) m).2 = true := by
  have := (sc hr).1 h
  exact (ji hr).2 this
 obtain ⟨h1, h2, h3, h4, h5⟩ := dE (eQ (p := p) hv)
 rw [e]
 have key : ∀ x ∈ (a7 (lar p l) m).1, 0 <= x /\ x <= 100000000 := ?_
 ·refine ⟨rfl, ⟨hr, by rw [h1], fun x hx => by have := key x hx; omega, h4 hlv⟩, fun x hx => (key x hx).2, fun x hx v hvm => ?_⟩
  refine h5 x hx.2.2.2 (fun w hw => ?_) v (by omega)
  have hwl : w < x.length := by have := hx.2.1; omega
  have hg : x.getD w 0 = x[w] := by rw [List.getD_eq_getElem?_getD, List.getElem?_eq_getElem hwl]; rfl
  rw [hg]
  exact (hx.2.2.1 _ (List.getElem_mem hwl)).1
 intro x hx'
 obtain ⟨v, hv', rfl⟩ := List.mem_iff_getElem.1 hx'
 have hvn : v < m := by rw [<- h1]; exact hv'
 have hg : (a7 (lar p l) m).1.getD v 0 = (a7 (lar p l) m).1[v] := by rw [List.getD_eq_getElem?_getD, List.getElem?_eq_getElem hv']; rfl
 have h0 := h2 v
 rw [hg] at h0
 refine ⟨h0, ?_⟩
 obtain ⟨u, r, k1, k2, k3⟩ := h3 v hvn
 have hN := (g9 (eQ (p := p) hv)).1 hlv
 obtain ⟨r', j1, j2, j3⟩ := BF (eQ (p := p) hv) hN _ r u v rfl k1 k2
 rw [hg] at k3
 have hbd : ∀ {r : List bZ} {u v : Nat}, isW (lar p l) u r v -> hJ r <= 3000000 * r.length := by
  intro r
  induction r with
  | nil => intro _ _ _; simp [hJ]
  | cons a r ih =>
   rintro u v ⟨q1, _, q3⟩
   have := ih q3
   have := (lf (show m <= 32 by omega) hr.2 hv a q1).2.2.2
   simp only [hJ, List.length_cons]
   omega
 have := hbd j1
 omega
theorem mj {n : Int} {l : List aW} {p : Int} (hr : a6 n l p) (h : (lvM n l p).2.2 = false) : (lvM n l p).1 = [] /\ ck n l p (lvM n l p).2.1 /\ (lvM n l p).2.1.length <= 32 /\ ∀ z ∈ (lvM n l p).2.1, inI z := by
 obtain ⟨m, rfl⟩ : ∃ m : Nat, n = (m : Int) := ⟨n.toNat, by have := hr.1.1; omega⟩
 have hlv : ¬ (a7 (lar p l) m).2 = true := fun h' => by
  have := (sc hr).2 ((ji hr).1 h')
  rw [h] at this; cases this
 obtain ⟨res, u, xs, k1, k2, k3, k4, k5, k6, k7⟩ := pe hr hlv
 have e : lvM m l p = ([], res, false) := by
  unfold lvM
  rw [if_pos hr, Int.toNat_natCast, if_neg hlv, k1]; rfl
 rw [e]
 refine ⟨rfl, ⟨hr, _, _, k7, k6⟩, by rw [k2]; simpa using k5, fun z hz => ?_⟩
 unfold exM at k7
 simp only [Option.ite_none_right_eq_some] at k7
 have := k7.1.2 z hz
 have := hr.1.2.1
 unfold inI; omega
theorem Dg {n : Int} {l : List aW} {p : Int} {s : List Int} (h : bY n l p s) : s.length <= 32 /\ ∀ z ∈ s, inI z := by
 obtain ⟨h1, h2, h3, _⟩ := h
 have := h1.1.1
 refine ⟨by omega, fun z hz => ?_⟩
 have := h3 z hz
 unfold inI; omega
open Classical in
theorem m19 {n : Int} {a b : AV} {l : List aW} {p : Int} {s : List Int} (ha : aX a = some l) (hb : ey b = some s) : M19 [.int .i64 n, a, .int .i64 p, b] = some (.bool (decide (bY n l p s))) := by simp only [M19, ha, hb]
end Cy
open Cy (Pos sc jV mj)
theorem zb {T : bD} {s : Option (Int × List Int)} (h : sOk T s) : a8 (iJ s) := by
 unfold iJ a8
 cases s with
 | none => simp
 | some x => have := h x rfl; simp only; omega
structure zH (T : bD) (s : Option (Int × List Int)) (l : List (List Int)) : Prop where
 ok : sOk T s
 no : ∀ x, s = some x -> ¬ Pos (aR T x.2) x.1 /\ ∃ l1 l2, l = l1 ++ x.2 :: l2 /\ ∀ o ∈ l1, Pos (aR T o) x.1
 pos : ∀ o ∈ l, ∀ q, 1 <= q -> q <= iJ s -> Pos (aR T o) q
theorem zH.step {T : bD} {s : Option (Int × List Int)} {l : List (List Int)} (h : zH T s l) {o : List Int} (hO : o ∈ ax T) : zH T (eD T s o) (l ++ [o]) := by
 have hper := zb h.ok
 have hok := mw h.ok hO
 have hv := (nW hO).1
 unfold eD at hok ⊢
 cases hm : smM (o.length : Int) (aR T o) 1 (iJ s) with
 | none =>
  rw [hm] at hok
  have hn := rO hper hv hm
  refine ⟨h.ok, fun x hx => ?_, fun o' ho' q h1 h2 => ?_⟩
  ·obtain ⟨k1, l1, l2, k2, k3⟩ := h.no x hx
   exact ⟨k1, l1, l2 ++ [o], by rw [k2]; simp, k3⟩
  ·rcases List.mem_append.1 ho' with h3 | h3
   ·exact h.pos o' h3 q h1 h2
   ·rw [List.mem_singleton] at h3
    subst h3
    exact hn q h1 h2
 | some p =>
  rw [hm] at hok
  obtain ⟨k1, k2, k3, k4, k5⟩ := gf hper hm
  refine ⟨hok, fun x hx => ?_, fun o' ho' q h1 h2 => ?_⟩
  ·injection hx with hx
   subst hx
   exact ⟨k4, l, [], rfl, fun o' ho' => h.pos o' ho' p k1 k2⟩
  ·have h2 : q <= p - 1 := h2
   rcases List.mem_append.1 ho' with h3 | h3
   ·exact h.pos o' h3 q h1 (by omega)
   ·rw [List.mem_singleton] at h3
    subst h3
    exact k5 q h1 (by omega)
theorem zH.fold {T : bD} : ∀ (r : List (List Int)) {s : Option (Int × List Int)} {l : List (List Int)}, zH T s l -> (∀ o ∈ r, o ∈ ax T) -> zH T (r.foldl (eD T) s) (l ++ r)
 | [], s, l, h, _ => by simpa using h
 | o :: r, s, l, h, hr => by
  have := zH.fold r (h.step (hr o (by simp))) (fun o' ho' => hr o' (by simp [ho']))
  rw [List.append_assoc] at this
  exact this
theorem qb (T : bD) : zH T (ju T) (ax T) := by
 have := zH.fold (T := T) (ax T) (s := none) (l := []) ⟨fun x h => (by cases h), fun x h => (by cases h), fun o h => (by cases h)⟩ (fun _ h => h)
 rwa [List.nil_append] at this
theorem iz {T : bD} {o : List Int} (hO : o ∈ ax T) {p : Int} (h1 : -1000000 <= p) (h2 : p <= 1000000) : a6 (o.length : Int) (aR T o) p := ⟨(nW hO).1, h1, h2⟩
theorem Eq {T : bD} {o : List Int} (hO : o ∈ ax T) {p : Int} (h1 : 1 <= p) (h2 : p <= 1000000) (hp : ¬ Pos (aR T o) p) (hq : 1 < p -> Pos (aR T o) (p - 1)) : Chk T (lF T (p, o)) := by
 have hR := iz hO (p := p) (by omega) h2
 have k1 := jV hR ((sc hR).2 hp)
 refine ⟨hO, ⟨h1, h2⟩, k1.2.1, ?_⟩
 show if p = 1 then (if p > 1 then (lvM (o.length : Int) (aR T o) (p - 1)).2.1 else []) = [] else _
 by_cases e : p = 1
 ·rw [if_pos e, if_neg (by omega)]
 ·rw [if_neg e]
  have hR' := iz hO (p := p - 1) (by omega) (by omega)
  have hf : (lvM (o.length : Int) (aR T o) (p - 1)).2.2 = false := by
   cases h : (lvM (o.length : Int) (aR T o) (p - 1)).2.2 with
   | false => rfl
   | true => exact absurd (hq (by omega)) ((sc hR').1 h)
  have := (mj hR' hf).2.1
  show ck (o.length : Int) (aR T o) (p - 1) (if p > 1 then (lvM (o.length : Int) (aR T o) (p - 1)).2.1 else [])
  rw [if_pos (by omega)]
  exact this
theorem km {T : bD} {s : eE} (h : fe T = some s) : Chk T s := by
 unfold fe at h
 rw [Option.map_eq_some_iff] at h
 obtain ⟨⟨p, o⟩, h, rfl⟩ := h
 have hB := qb T
 rw [h] at hB
 obtain ⟨h1, h2, h3⟩ := hB.ok _ rfl
 exact Eq h3 h1 h2 (hB.no _ rfl).1 fun hp => hB.pos o h3 (p - 1) (by simp only at h1; omega) (Int.le_refl _)
theorem xO {T : bD} {p : Int} {o : List Int} (hO : o ∈ ax T) (h1 : 1 <= p) (h2 : p <= 1000000) (hp : ¬ Pos (aR T o) p) (hb : ∀ o' ∈ ax T, ∀ q, 1 <= q -> q < p -> Pos (aR T o') q) : ∃ o', o' ∈ ax T /\ ¬ Pos (aR T o') p /\ ju T = some (p, o') := by
 have hB := qb T
 cases hs : ju T with
 | none =>
  rw [hs] at hB
  exact absurd (hB.pos o hO p h1 h2) hp
 | some x =>
  obtain ⟨r, o'⟩ := x
  rw [hs] at hB
  obtain ⟨k1, k2, k3⟩ := hB.ok _ rfl
  have k4 := (hB.no _ rfl).1
  simp only at k1 k2 k3 k4
  have : r = p := by
   rcases Int.lt_trichotomy r p with h | h | h
   ·exact absurd (hb o' k3 r k1 h) k4
   ·exact h
   ·exact absurd (hB.pos o hO p h1 (by show p <= r - 1; omega)) hp
  subst this
  exact ⟨o', k3, k4, rfl⟩
theorem CM {T : bD} (hb : ∀ o' ∈ ax T, ∀ q, 1 <= q -> q <= 1000000 -> Pos (aR T o') q) : ju T = none := by
 have hB := qb T
 cases hs : ju T with
 | none => rfl
 | some x =>
  obtain ⟨r, o'⟩ := x
  rw [hs] at hB
  obtain ⟨k1, k2, k3⟩ := hB.ok _ rfl
  exact absurd (hb o' k3 r k1 k2) (hB.no _ rfl).1
open Cy (lar a7 ji)
def t1 : bD := ⟨[(20, 12), (30, 12)], 1, 1, 2, 1⟩
def t2 : bD := ⟨[(20, 12), (30, 12)], 1, 1, 2, 2⟩
def t3 : bD := ⟨[(20, 9), (30, 9)], 1, 1, 2, 2⟩
theorem C2 : ax t1 = [[0, 1, 2], [0, 2, 1]] := by decide +kernel
theorem Fa : ax t2 = [[0, 1, 2]] := by decide +kernel
theorem ord3 : ax t3 = [[0, 1, 2]] := by decide +kernel
def ar1 : List aW := [⟨0, 2, 6, 0⟩, ⟨2, 1, 6, 0⟩, ⟨1, 0, 6, 1⟩, ⟨0, 1, 24, 0⟩, ⟨1, 0, -36, 0⟩, ⟨1, 2, 34, 1⟩, ⟨2, 1, -46, -1⟩]
def ar0 : List aW := [⟨0, 1, 4, 0⟩, ⟨1, 2, 4, 0⟩, ⟨2, 0, 6, 1⟩, ⟨0, 1, 24, 0⟩, ⟨1, 0, -36, 0⟩, ⟨1, 2, 34, 0⟩, ⟨2, 1, -46, 0⟩]
def ar2 : List aW := [⟨0, 1, 4, 0⟩, ⟨1, 2, 4, 0⟩, ⟨2, 0, 4, 1⟩, ⟨1, 1, 22, 1⟩, ⟨1, 1, -34, -1⟩, ⟨2, 2, 32, 1⟩, ⟨2, 2, -44, -1⟩]
def ar3 : List aW := [⟨0, 1, 4, 0⟩, ⟨1, 2, 4, 0⟩, ⟨2, 0, 4, 1⟩, ⟨1, 1, 22, 1⟩, ⟨1, 1, -31, -1⟩, ⟨2, 2, 32, 1⟩, ⟨2, 2, -41, -1⟩]
theorem zy : aR t1 [0, 2, 1] = ar1 := by decide +kernel
theorem Et : aR t1 [0, 1, 2] = ar0 := by decide +kernel
theorem CN : aR t2 [0, 1, 2] = ar2 := by decide +kernel
theorem Im : aR t3 [0, 1, 2] = ar3 := by decide +kernel
theorem mR {l : List aW} {q : Int} (c : List (aW × Nat)) (u : Int) (hw : Cy.rv l u c u) (hl : 0 < Cy.ga q c) : Pos l q := ⟨u, c, hw, hl⟩
theorem gV {l : List aW} {x : aW} {i : Nat} (h : l[i]? = some x) : (x, i) ∈ Cy.num l := by
 obtain ⟨hi, rfl⟩ := List.getElem?_eq_some_iff.1 h
 exact List.mem_of_getElem? (Cy.dc l i hi)
theorem pos1 {q : Int} (h : q < 40) : Pos ar1 q := mR [(⟨2, 1, 6, 0⟩, 1), (⟨1, 2, 34, 1⟩, 5)] 2 ⟨gV rfl, rfl, gV rfl, rfl, rfl⟩ (by simp [Cy.ga, aW.len]; omega)
theorem Z4 {q : Int} (h : q < 64) : Pos ar0 q := mR [(⟨0, 1, 24, 0⟩, 3), (⟨1, 2, 34, 0⟩, 5), (⟨2, 0, 6, 1⟩, 2)] 0 ⟨gV rfl, rfl, gV rfl, rfl, gV rfl, rfl, rfl⟩ (by simp [Cy.ga, aW.len]; omega)
theorem pos2 {q : Int} (h : q < 32) : Pos ar2 q := mR [(⟨2, 2, 32, 1⟩, 5)] 2 ⟨gV rfl, rfl, rfl⟩ (by simp [Cy.ga, aW.len]; omega)
theorem pos3 (q : Int) : Pos ar3 q := by
 by_cases h : q < 32
 ·exact mR [(⟨2, 2, 32, 1⟩, 5)] 2 ⟨gV rfl, rfl, rfl⟩ (by simp [Cy.ga, aW.len]; omega)
 ·exact mR [(⟨1, 1, -31, -1⟩, 4)] 1 ⟨gV rfl, rfl, rfl⟩ (by simp [Cy.ga, aW.len]; omega)
theorem in1 : [0, 2, 1] ∈ ax t1 := by rw [C2]; decide
theorem in2 : [0, 1, 2] ∈ ax t2 := by rw [Fa]; decide
theorem FR : ¬ Pos (aR t1 [0, 2, 1]) 40 := (ji (n := 3) (iz in1 (by omega) (by omega))).1 (by rw [zy]; decide +kernel)
theorem FQ : ¬ Pos (aR t2 [0, 1, 2]) 32 := (ji (n := 3) (iz in2 (by omega) (by omega))).1 (by rw [CN]; decide +kernel)
theorem HR : ju t1 = some (40, [0, 2, 1]) := by
 obtain ⟨o, h1, h2, h3⟩ := xO in1 (by omega) (by omega) FR (fun o ho q h1 h2 => by
  rw [C2] at ho
  rcases List.mem_cons.1 ho with rfl | ho
  ·rw [Et]; exact Z4 (by omega)
  ·rcases List.mem_cons.1 ho with rfl | ho
   ·rw [zy]; exact pos1 h2
   ·cases ho)
 rw [C2] at h1
 rcases List.mem_cons.1 h1 with rfl | h1
 ·rw [Et] at h2; exact absurd (Z4 (by omega)) h2
 ·rcases List.mem_cons.1 h1 with rfl | h1
  ·exact h3
  ·cases h1
theorem HQ : ju t2 = some (32, [0, 1, 2]) := by
 obtain ⟨o, h1, h2, h3⟩ := xO in2 (by omega) (by omega) FQ (fun o ho q h1 h2 => by
  rw [Fa] at ho
  rcases List.mem_cons.1 ho with rfl | ho
  ·rw [CN]; exact pos2 h2
  ·cases ho)
 rw [Fa] at h1
 rcases List.mem_cons.1 h1 with rfl | h1
 ·exact h3
 ·cases h1
theorem HP : ju t3 = none := CM fun o ho q _ _ => by
 rw [ord3] at ho
 rcases List.mem_cons.1 ho with rfl | ho
 ·rw [Im]; exact pos3 q
 ·cases ho
theorem lv1 : (lvM 3 (aR t1 [0, 2, 1]) 40).1 = [0, 24, 18] := by
 have hr : a6 3 (aR t1 [0, 2, 1]) 40 := iz in1 (by omega) (by omega)
 have h1 : a7 (lar 40 (aR t1 [0, 2, 1])) 3 = ([0, 24, 18], true) := by rw [zy]; decide +kernel
 unfold lvM
 rw [if_pos hr, show (3 : Int).toNat = 3 from rfl, h1, if_pos rfl]
theorem lv2 : (lvM 3 (aR t2 [0, 1, 2]) 32).1 = [0, 4, 8] := by
 have hr : a6 3 (aR t2 [0, 1, 2]) 32 := iz in2 (by omega) (by omega)
 have h1 : a7 (lar 32 (aR t2 [0, 1, 2])) 3 = ([0, 4, 8], true) := by rw [CN]; decide +kernel
 unfold lvM
 rw [if_pos hr, show (3 : Int).toNat = 3 from rfl, h1, if_pos rfl]
theorem bm1 : ∃ pr, fe t1 = some ⟨40, [0, 2, 1], [0, 24, 18], pr⟩ := by
 refine ⟨(lvM 3 (aR t1 [0, 2, 1]) 39).2.1, ?_⟩
 unfold fe
 rw [HR, Option.map_some]
 show some (eE.mk 40 [0, 2, 1] (lvM 3 (aR t1 [0, 2, 1]) 40).1 _) = _
 rw [lv1]
 rfl
theorem bm2 : ∃ pr, fe t2 = some ⟨32, [0, 1, 2], [0, 4, 8], pr⟩ := by
 refine ⟨(lvM 3 (aR t2 [0, 1, 2]) 31).2.1, ?_⟩
 unfold fe
 rw [HQ, Option.map_some]
 show some (eE.mk 32 [0, 1, 2] (lvM 3 (aR t2 [0, 1, 2]) 32).1 _) = _
 rw [lv2]
 rfl
theorem bm3 : fe t3 = none := by unfold fe; rw [HP]; rfl
theorem ta {T : bD} {s : eE} (h : Chk T s) : (s.order.length <= 5 /\ ∀ z ∈ s.order, inI z) /\ (s.starts.length <= 32 /\ ∀ z ∈ s.starts, inI z) /\ (s.proof.length <= 200 /\ ∀ z ∈ s.proof, inI z) := by
 obtain ⟨h1, h2, h3, h4⟩ := h
 have k := bo h1
 have kb := fL h1
 refine ⟨⟨by have := k.1.2.2.2.1; omega, fun z hz => by have := kb z hz; have := k.1.2.2.2.1; unfold inI; omega⟩, Cy.Dg h3, ?_⟩
 split at h4
 ·rw [h4]; simp
 ·obtain ⟨hR, a, b, h5, _⟩ := h4
  unfold Cy.exM at h5
  simp only [Option.ite_none_right_eq_some] at h5
  refine ⟨h5.1.1.2, fun z hz => ?_⟩
  have := h5.1.2 z hz
  have := hR.1.2.1
  unfold inI; omega
theorem rP {T : bD} {s : eE} (h : Chk T s) : Dc s (slA 1 (ag s.order)) (slA 1 (ag s.starts)) (slA 1 (ag s.proof)) := by
 obtain ⟨⟨h1, h2⟩, ⟨h3, h4⟩, h5, h6⟩ := ta h
 exact ⟨aI _ _, aI _ _, aI _ _, by have := h.2.1; unfold inI; omega, by omega, by omega, h4, by omega, h6⟩
def ze : List (FuncId × aL) := [(14, bA 4 M14), (19, bA 4 M19), (22, H22), (18, aF 4 Cy.M18), (21, aF 4 M21), (26, aF 4 M26), (16, aF 4 M16)]
@[simp] theorem HK : aB ze 14 = some (bA 4 M14) := rfl
@[simp] theorem HH : aB ze 19 = some (bA 4 M19) := rfl
@[simp] theorem HF : aB ze 22 = some H22 := rfl
@[simp] theorem HI : aB ze 18 = some (aF 4 Cy.M18) := rfl
@[simp] theorem HG : aB ze 21 = some (aF 4 M21) := rfl
@[simp] theorem HE : aB ze 26 = some (aF 4 M26) := rfl
@[simp] theorem HJ : aB ze 16 = some (aF 4 M16) := rfl
theorem BE : ∀ f M, aB ze f = some M -> an Try.prog GC f M := ak (an.of_pureF qs 4) (ak (an.of_pureF qq 4) (ak Bk (ak (an.of_pure Cy.vB 4) (ak (an.of_pure vA 4) (ak (an.of_pure zO 4) (ak (an.of_pure sY 4) az))))))
def M11 : aT := fun args => match args with
 | [] => some (.bool true)
 | _ => none
abbrev ca : AV := .agg [.int .i64 20, .int .i64 12]
abbrev cb : AV := .agg [.int .i64 30, .int .i64 12]
abbrev cc : AV := .agg [.int .i64 20, .int .i64 9]
abbrev cd : AV := .agg [.int .i64 30, .int .i64 9]
abbrev T1 (v : AV) : AV := .agg [v, .int .i64 1, .int .i64 1, .int .i64 2, .int .i64 1]
abbrev T2 (v : AV) : AV := .agg [v, .int .i64 1, .int .i64 1, .int .i64 2, .int .i64 2]
abbrev i3 (a b c : Int) : AV := .fs 1 [.int .i64 a, .int .i64 b, .int .i64 c]
theorem Cz (a b c : Int) (ha : 0 <= a /\ a <= 100) (hb : 0 <= b /\ b <= 100) (hc : 0 <= c /\ c <= 100) : ey (i3 a b c) = some [a, b, c] := ex (xs := [a, b, c]) (.inr rfl) (by simp) (by intro x hx; simp at hx; rcases hx with rfl | rfl | rfl <;> (unfold inI; omega))
open Classical in
theorem Dv : aq Try.prog GC 11 M11 := by
 refine aq.of_ev (E := au GC ze) (av BE) rfl at11 Eo 1 ?_
 intro args r h
 unfold M11 at h
 split at h
 rotate_left
 ·cases h
 injection h with h; subst h
 refine ⟨0, ?_⟩
 obtain ⟨p1, hb1⟩ := bm1
 obtain ⟨p2, hb2⟩ := bm2
 have hb3 := bm3
 have s1 := rP (km hb1)
 have s2 := rP (km hb2)
 have h12 : SlA 2 (t1.ch.map chA) (.fs 2 [ca, cb]) := .inr rfl
 have h22 : SlA 2 (t2.ch.map chA) (.fs 2 [ca, cb]) := .inr rfl
 have h32 : SlA 2 (t3.ch.map chA) (.fs 2 [cc, cd]) := .inr rfl
 have m1 := ud h12 (by decide)
 rw [C2] at m1
 have m1 : M14 [T1 (.fs 2 [ca, cb])] = some (.fs 1 [i3 0 1 2, i3 0 2 1]) := m1
 have m2 := uc (o := [0, 2, 1]) h12 (by decide) (ov := i3 0 2 1) (.inr rfl)
 rw [eU in1, zy] at m2
 obtain ⟨W, hW⟩ : ∃ W, W = slA 4 (ar1.map bM) := ⟨_, rfl⟩
 have m2 : M19 [T1 (.fs 2 [ca, cb]), i3 0 2 1] = some (.tup [W, .int .i64 0]) := by rw [hW]; exact m2
 have m3 := uc (o := [0, 1]) h12 (by decide) (ov := .fs 1 [.int .i64 0, .int .i64 1]) (.inr rfl)
 have n3 : ri t1 [0, 1] = none := if_neg (by rw [C2]; decide)
 rw [n3] at m3
 have m3 : M19 [T1 (.fs 2 [ca, cb]), .fs 1 [.int .i64 0, .int .i64 1]] = some (.tup [.nilS, .int .i64 130]) := m3
 obtain ⟨P1, hP1⟩ : ∃ P, P = slA 1 (ag p1) := ⟨_, rfl⟩
 obtain ⟨P2, hP2⟩ : ∃ P, P = slA 1 (ag p2) := ⟨_, rfl⟩
 have fP1 : ∀ A n, frz A n P1 = P1 := fun A n => by rw [hP1]; exact (aI 1 _).frz n
 have fP2 : ∀ A n, frz A n P2 = P2 := fun A n => by rw [hP2]; exact (aI 1 _).frz n
 have fW : ∀ A n, frz A n W = W := fun A n => by rw [hW]; exact (aI 4 _).frz n
 obtain ⟨z1, z2⟩ := cV p1
 rw [<- hP1] at z1 z2
 obtain ⟨y1, y2⟩ := cV p2
 rw [<- hP2] at y1 y2
 obtain ⟨S1, hS1⟩ : ∃ S, S = AV.agg [.int .i64 40, i3 0 2 1, i3 0 24 18, P1] := ⟨_, rfl⟩
 obtain ⟨S2, hS2⟩ : ∃ S, S = AV.agg [.int .i64 32, i3 0 1 2, i3 0 4 8, P2] := ⟨_, rfl⟩
 have c1 := fun h => ue h (A := [.row 2 false [ca, cb], .row 5 false [T1 (.sl 0 0 2)]]) (chv := .sl 0 0 2) h12 (fun X => rfl) (by decide)
 rw [hb1] at c1
 have c1 : ∀ h, H22 h [T1 (.sl 0 0 2)] [.row 2 false [ca, cb], .row 5 false [T1 (.sl 0 0 2)]] = some (.tup [S1, .int .i64 0], [.row 2 false [ca, cb], .row 5 false [T1 (.sl 0 0 2)], .row 5 false [T1 (.sl 0 0 2)], .row 4 false [S1], .row 4 false [S1]]) := fun h => by
  rw [hS1, hP1]; exact c1 h
 have c2 := fun h => ue h (A := [.row 2 false [ca, cb], .row 5 false [T1 (.sl 0 0 2)], .row 5 false [T1 (.sl 0 0 2)], .row 4 false [S1], .row 4 false [S1], .row 4 false [S1], .row 5 false [T2 (.sl 0 0 2)]]) (chv := .sl 0 0 2) h22 (fun X => rfl) (by decide)
 rw [hb2] at c2
 have c2 : ∀ h, H22 h [T2 (.sl 0 0 2)] [.row 2 false [ca, cb], .row 5 false [T1 (.sl 0 0 2)], .row 5 false [T1 (.sl 0 0 2)], .row 4 false [S1], .row 4 false [S1], .row 4 false [S1], .row 5 false [T2 (.sl 0 0 2)]] =
   some (.tup [S2, .int .i64 0], [.row 2 false [ca, cb], .row 5 false [T1 (.sl 0 0 2)], .row 5 false [T1 (.sl 0 0 2)], .row 4 false [S1], .row 4 false [S1], .row 4 false [S1], .row 5 false [T2 (.sl 0 0 2)], .row 5 false [T2 (.sl 0 0 2)], .row 4 false [S2], .row 4 false [S2]]) := fun h => by
  rw [hS2, hP2]; exact c2 h
 have c3 := fun h => ue h (A := [.row 2 false [ca, cb], .row 5 false [T1 (.sl 0 0 2)], .row 5 false [T1 (.sl 0 0 2)], .row 4 false [S1], .row 4 false [S1], .row 4 false [S1], .row 5 false [T2 (.sl 0 0 2)], .row 5 false [T2 (.sl 0 0 2)], .row 4 false [S2], .row 4 false [S2], .row 4 false [S2], .row 5 false [T2 (.sl 12 0 2)], .row 2 false [cc, cd]]) (chv := .sl 12 0 2) h32 (fun X => rfl) (by decide)
 rw [hb3] at c3
 have c3 : ∀ h, H22 h [T2 (.sl 12 0 2)] [.row 2 false [ca, cb], .row 5 false [T1 (.sl 0 0 2)], .row 5 false [T1 (.sl 0 0 2)], .row 4 false [S1], .row 4 false [S1], .row 4 false [S1], .row 5 false [T2 (.sl 0 0 2)], .row 5 false [T2 (.sl 0 0 2)], .row 4 false [S2], .row 4 false [S2], .row 4 false [S2], .row 5 false [T2 (.sl 12 0 2)], .row 2 false [cc, cd]] =
   some (.tup [zA, .int .i64 130], [.row 2 false [ca, cb], .row 5 false [T1 (.sl 0 0 2)], .row 5 false [T1 (.sl 0 0 2)], .row 4 false [S1], .row 4 false [S1], .row 4 false [S1], .row 5 false [T2 (.sl 0 0 2)], .row 5 false [T2 (.sl 0 0 2)], .row 4 false [S2], .row 4 false [S2], .row 4 false [S2], .row 5 false [T2 (.sl 12 0 2)], .row 2 false [cc, cd], .row 5 false [T2 (.sl 12 0 2)], .row 4 false [zA], .row 4 false [zA]]) := c3
 have k1 : Cy.M18 [i3 0 2 1, i3 0 2 1] = some (.bool true) := by simp only [Cy.M18, Cz 0 2 1 (by omega) (by omega) (by omega)]; simp
 have k2 : Cy.M18 [i3 0 24 18, i3 0 24 18] = some (.bool true) := by simp only [Cy.M18, Cz 0 24 18 (by omega) (by omega) (by omega)]; simp
 have k3 : Cy.M18 [i3 0 4 8, i3 0 4 8] = some (.bool true) := by simp only [Cy.M18, Cz 0 4 8 (by omega) (by omega) (by omega)]; simp
 have e1 := E0 (xs := ar1) (ys := ar1) (a := W) (b := .fs 4 (ar1.map bM)) (by rw [hW]; exact aI _ _) (.inr rfl) (by decide) (by decide)
 rw [decide_eq_true rfl] at e1
 have e1 : M21 [W, .fs 4 [.agg [.int .i64 0, .int .i64 2, .int .i64 6, .int .i64 0], .agg [.int .i64 2, .int .i64 1, .int .i64 6, .int .i64 0], .agg [.int .i64 1, .int .i64 0, .int .i64 6, .int .i64 1], .agg [.int .i64 0, .int .i64 1, .int .i64 24, .int .i64 0], .agg [.int .i64 1, .int .i64 0, .int .i64 (-36), .int .i64 0], .agg [.int .i64 1, .int .i64 2, .int .i64 34, .int .i64 1], .agg [.int .i64 2, .int .i64 1, .int .i64 (-46), .int .i64 (-1)]]] = some (.bool true) := e1
 have q1 := lD h12 (by decide) s1
 rw [decide_eq_true (km hb1)] at q1
 have q1 : M26 [T1 (.fs 2 [ca, cb]), .agg [.int .i64 40, i3 0 2 1, i3 0 24 18, P1]] = some (.bool true) := by rw [hP1]; exact q1
 have q2 := lD h22 (by decide) s2
 rw [decide_eq_true (km hb2)] at q2
 have q2 : M26 [T2 (.fs 2 [ca, cb]), .agg [.int .i64 32, i3 0 1 2, i3 0 4 8, P2]] = some (.bool true) := by rw [hP2]; exact q2
 have q3 := lD h22 (by decide) s1
 rw [decide_eq_false (fun h => absurd h.1 (by rw [Fa]; show ¬ ([0, 2, 1] : List Int) ∈ [[0, 1, 2]]; decide))] at q3
 have q3 : M26 [T2 (.fs 2 [ca, cb]), .agg [.int .i64 40, i3 0 2 1, i3 0 24 18, P1]] = some (.bool false) := by rw [hP1]; exact q3
 have q4 := lD h12 (by decide) (s := dK) (ov := .nilS) (sv := .nilS) (pv := .nilS) ⟨.inl ⟨rfl, rfl⟩, .inl ⟨rfl, rfl⟩, .inl ⟨rfl, rfl⟩, by unfold inI dK; simp, by simp [dK], by simp [dK], by simp [dK], by simp [dK], by simp [dK]⟩
 rw [decide_eq_false (fun h => absurd h.1 (by rw [C2]; decide))] at q4
 have q4 : M26 [T1 (.fs 2 [ca, cb]), .agg [.int .i64 0, .nilS, .nilS, .nilS]] = some (.bool false) := q4
 have q5 := A7 (T := ⟨[], 0, 0, 0, 0⟩) (chv := .nilS) (.inl ⟨rfl, rfl⟩) (by decide)
 have q5 : M16 [.agg [.nilS, .int .i64 0, .int .i64 0, .int .i64 0, .int .i64 0]] = some (.bool false) := q5
 have q6 := ud (T := ⟨[], 0, 0, 0, 0⟩) (chv := .nilS) (.inl ⟨rfl, rfl⟩) (by decide)
 have q6 : M14 [.agg [.nilS, .int .i64 0, .int .i64 0, .int .i64 0, .int .i64 0]] = some .nilS := q6
 subst hS1; subst hS2
 unfold zA at c3
 rw [aN _ _ rfl]
 simp [IR, m1, m2, m3, c1, c2, c3, fP1, fP2, fW, k1, k2, k3, e1, q1, q2, q3, q4, q5, q6]
@[simp] theorem IL : M11 [] = some (.bool true) := rfl
theorem De {x : AV} {n : Nat} (h : TA Try.prog (n + 2) 26 x) : ∃ y, x = x5A y /\ y.inR := by
 obtain ⟨ls, rfl, hc, hl⟩ := TA.agg (show qe Try.prog 26 = true by kernel_rfl) h
 simp only [TC, Try.underlying26] at hc
 rw [show Try.prog.cellsOf 3 = 1 by kernel_rfl] at hc
 simp only [TCa, Try.underlying3] at hc
 obtain ⟨_, _, rfl, ⟨a, rfl, ha⟩, _, _, _, rfl, ⟨b, rfl, hb⟩, _, _, _, rfl, ⟨c, rfl, hc'⟩, _, _, _, rfl, ⟨d, rfl, hd⟩, _, _, _, rfl, ⟨e, rfl, he⟩, _, rfl⟩ := hc
 exact ⟨⟨a, b, c, d, e⟩, rfl, ha, hb, hc', hd, he⟩
theorem Bg {x : AV} {n : Nat} (h : TA Try.prog (n + 2) 68 x) : ∃ y : Int × Int, x = chA y /\ inI y.1 /\ inI y.2 := by
 obtain ⟨ls, rfl, hc, hl⟩ := TA.agg (show qe Try.prog 68 = true by kernel_rfl) h
 simp only [TC, Try.underlying68] at hc
 rw [show Try.prog.cellsOf 3 = 1 by kernel_rfl] at hc
 simp only [TCa, Try.underlying3] at hc
 obtain ⟨_, _, rfl, ⟨a, rfl, ha⟩, _, _, _, rfl, ⟨b, rfl, hb⟩, _, rfl⟩ := hc
 exact ⟨(a, b), rfl, ha, hb⟩
theorem vg {x : AV} {n : Nat} (h : TA Try.prog (n + 2) 45 x) : ∃ a b c : Int, x = .agg [.int .i64 a, .int .i64 b, .int .i64 c] /\ inI a /\ inI b /\ inI c := by
 obtain ⟨ls, rfl, hc, hl⟩ := TA.agg (show qe Try.prog 45 = true by kernel_rfl) h
 simp only [TC, Try.underlying45] at hc
 rw [show Try.prog.cellsOf 3 = 1 by kernel_rfl] at hc
 simp only [TCa, Try.underlying3] at hc
 obtain ⟨_, _, rfl, ⟨a, rfl, ha⟩, _, _, _, rfl, ⟨b, rfl, hb⟩, _, _, _, rfl, ⟨c, rfl, hc'⟩, _, rfl⟩ := hc
 exact ⟨a, b, c, rfl, ha, hb, hc'⟩
theorem yn {raw : AV} {n : Nat} (h : TA Try.prog (n + 3) 27 raw) : ∃ ys : List (Int × Int), SlA 2 (ys.map chA) raw /\ (∀ y ∈ ys, inI y.1 /\ inI y.2) /\ ys.length <= 9223372036854775807 := by
 obtain ⟨es, h1, h2, h3⟩ := TA.sl Try.underlying27 h
 rw [show Try.prog.cellsOf 68 = 2 by kernel_rfl] at h1
 obtain ⟨ys, rfl, hy⟩ := gn (f := chA) (p := fun y => inI y.1 /\ inI y.2) fun x hx => Bg (n := n) (h3 x hx)
 exact ⟨ys, h1, hy, by simpa using h2⟩
theorem yZ {x : AV} {n : Nat} (h : TA Try.prog (n + 1) 25 x) : ∃ zs : List Int, SlA 1 (ag zs) x /\ zs.length <= 9223372036854775807 /\ ∀ z ∈ zs, inI z :=
 TA.ints Try.underlying25 Try.underlying3 (by kernel_rfl) h
theorem ng {ls : List AV} {n : Nat} (h : TC Try.prog (n + 1) 25 ls) (hl : ls.length = Try.prog.cellsOf 25) : ∃ (x : AV) (zs : List Int), ls = [x] /\ SlA 1 (ag zs) x /\ zs.length <= 9223372036854775807 /\ ∀ z ∈ zs, inI z := by
 rw [show Try.prog.cellsOf 25 = 1 by kernel_rfl] at hl
 obtain ⟨x, rfl⟩ := List.length_eq_one_iff.1 hl
 obtain ⟨zs, h1, h2, h3⟩ := yZ (n := n) (x := x) ⟨[x], h, by rw [show Try.prog.cellsOf 25 = 1 by kernel_rfl]; rfl, by
  unfold gC
  rw [if_neg (by rw [show qe Try.prog 25 = false by kernel_rfl]; simp)]; rfl⟩
 exact ⟨x, zs, rfl, h1, h2, h3⟩
theorem ownK : ownKnob Try.prog.godebug = none := by kernel_rfl
theorem F4 {W : World} {OK : Nat -> Prop} : Bb GC W OK := fun gl cs h => by simp [GC] at h
def ne (os : Os) : World := World.holding Try.prog os ⟨#[], #[], []⟩
theorem Z5 (x : X5) (ys : List (Int × Int)) : SlA 2 ((mY x ys).ch.map chA) (slA 2 ((mY x ys).ch.map chA)) := aI _ _
theorem DB (x : X5) (ys : List (Int × Int)) : (mY x ys).ch.length <= 4 := (uD x ys).2.2.2.1
theorem yp (s : eE) (A : ac) (n : Nat) : frz A (n + 1) (gg s) = gg s := by
 have k := fun o => (aI 1 (ag o)).frz (A := A) n
 simp [gg, frz, k, aS]
theorem ul (s : eE) (n : Nat) : be (n + 1) (gg s) = true := by
 have k := fun o => (aI 1 (ag o)).noRef n
 have ki : ∀ z, be n (.int .i64 z) = true := fun z => by cases n <;> rfl
 simp [gg, be, k, ki]
def Fj : ci := ⟨1, 4, .seq (.region [⟨some 1, .box (.var 0), none⟩, ⟨some 2, .mv (.cst (.int .i64 0)), none⟩]) (.seq (.seq (.region [⟨none, .fieldAddr 4 (.var 1), none⟩, ⟨none, .load false 1 (.tmp 0), none⟩, ⟨some 3, .bin .eql (.tmp 1) (.cst (.int .i64 2)), none⟩]) (.cond (.var 3) (.seq (.region [⟨none, .fieldAddr 1 (.var 1), none⟩, ⟨none, .load false 1 (.tmp 0), none⟩, ⟨none, .fieldAddr 2 (.var 1), none⟩, ⟨none, .load false 1 (.tmp 2), none⟩, ⟨none, .bin .add (.tmp 1) (.tmp 3), none⟩, ⟨some 2, .mv (.tmp 4), none⟩]) .ret) .skip)) (.seq (.region [⟨none, .fieldAddr 1 (.var 1), none⟩, ⟨none, .load false 1 (.tmp 0), none⟩, ⟨none, .fieldAddr 3 (.var 1), none⟩, ⟨none, .load false 1 (.tmp 2), none⟩, ⟨none, .bin .add (.tmp 1) (.tmp 3), none⟩, ⟨none, .fieldAddr 2 (.var 1), none⟩, ⟨none, .load false 1 (.tmp 5), none⟩, ⟨none, .bin .add (.tmp 4) (.tmp 6), none⟩, ⟨some 2, .mv (.tmp 7), none⟩]) .ret)), [.tmp 2]⟩
theorem Ek : aE Try.prog Try.f29 1 [0, 1, 2, 5] [] true ([], []) = some Fj := by kernel_rfl
theorem H8 : Try.prog.funcs[29]? = some Try.f29 := by kernel_rfl
def M29 : aT := fun args => evP (au GC []) 0 Fj 1 args
theorem vt : aq Try.prog GC 29 M29 := aq.of_ev (E := au GC []) (av az) rfl H8 Ek 1 fun _ _ h => ⟨0, h⟩
theorem x8 {T : bD} (chv : AV) (h : ez T) : M29 [aD T chv] = some (.int .i64 (cF T)) := by
 obtain ⟨_, ⟨h1, h2, h3⟩, _⟩ := h
 obtain ⟨ch, pk, pl, tr, bl⟩ := T
 simp only at h1 h2 h3
 have b0 := ce bl 2
 have b1 := dj (a := pk) (b := pl) (by omega)
 have b2 := dj (a := pk) (b := tr) (by omega)
 have b3 := dj (a := pk + tr) (b := pl) (by omega)
 rw [show aD ⟨ch, pk, pl, tr, bl⟩ chv = .agg [chv, .int .i64 pk, .int .i64 pl, .int .i64 tr, .int .i64 bl] from rfl]
 have l : ∀ A : ac, A[0]? = some (.row 5 false [.agg [chv, .int .i64 pk, .int .i64 pl, .int .i64 tr, .int .i64 bl]]) -> ae false 1 A (.ptr 0 0 1) = some (.int .i64 pk) /\ ae false 1 A (.ptr 0 0 2) = some (.int .i64 pl) /\ ae false 1 A (.ptr 0 0 3) = some (.int .i64 tr) /\ ae false 1 A (.ptr 0 0 4) = some (.int .i64 bl) := fun A hA => by
  refine ⟨?_, ?_, ?_, ?_⟩ <;> simp only [ae, hA] <;> rfl
 obtain ⟨l1, l2, l3, l4⟩ := l [.row 5 false [.agg [chv, .int .i64 pk, .int .i64 pl, .int .i64 tr, .int .i64 bl]]] rfl
 obtain ⟨s1, hs1⟩ : ∃ s, s = pk + pl := ⟨_, rfl⟩
 obtain ⟨s2, hs2⟩ : ∃ s, s = pk + tr := ⟨_, rfl⟩
 obtain ⟨s3, hs3⟩ : ∃ s, s = s2 + pl := ⟨_, rfl⟩
 rw [<- hs1] at b1
 rw [<- hs2] at b2 b3
 rw [<- hs3] at b3
 have e : cF ⟨ch, pk, pl, tr, bl⟩ = if bl = 2 then s1 else s3 := by
  unfold cF; simp only; rw [hs3, hs2, hs1]
 rw [e]
 unfold M29
 rw [aN _ _ rfl]
 by_cases hb : bl = 2
 ·rw [decide_eq_true hb] at b0
  rw [if_pos hb]
  simp [Fj, b0, b1, l1, l2, l4, -af, -ae]
 ·rw [decide_eq_false hb] at b0
  rw [if_neg hb]
  simp [Fj, b0, b2, b3, l1, l2, l3, l4, -af, -ae]
def zT : ci := ⟨2, 6, .seq (.region [⟨some 2, .box (.var 0), none⟩, ⟨some 3, .box (.var 1), none⟩, ⟨some 4, .alloc 5 (.agg [.nilS, .int .i64 0, .int .i64 0, .int .i64 0, .int .i64 0]), none⟩, ⟨some 5, .alloc 4 (.agg [.int .i64 0, .nilS, .nilS, .nilS]), none⟩]) (.seq (.region [⟨none, .fieldAddr 0 (.var 2), none⟩, ⟨none, .load false 1 (.tmp 0), none⟩, ⟨none, .fieldAddr 0 (.var 2), none⟩, ⟨none, .load false 1 (.tmp 2), none⟩, ⟨none, .lenSl (.tmp 3), none⟩, ⟨none, .minmax false (.tmp 4) [.cst (.int .i64 6)], none⟩, ⟨none, .sliceSl 2 (.tmp 1) none (some (.tmp 5)), none⟩, ⟨none, .fieldAddr 0 (.var 2), none⟩, ⟨none, .store 1 (.tmp 7) (.tmp 6), none⟩]) (.seq (.region [⟨none, .fieldAddr 1 (.var 3), none⟩, ⟨none, .load false 1 (.tmp 0), none⟩, ⟨none, .fieldAddr 1 (.var 3), none⟩, ⟨none, .load false 1 (.tmp 2), none⟩, ⟨none, .lenSl (.tmp 3), none⟩, ⟨none, .minmax false (.tmp 4) [.cst (.int .i64 7)], none⟩, ⟨none, .sliceSl 1 (.tmp 1) none (some (.tmp 5)), none⟩, ⟨none, .fieldAddr 1 (.var 3), none⟩, ⟨none, .store 1 (.tmp 7) (.tmp 6), none⟩]) (.seq (.region [⟨none, .fieldAddr 2 (.var 3), none⟩, ⟨none, .load false 1 (.tmp 0), none⟩, ⟨none, .fieldAddr 2 (.var 3), none⟩, ⟨none, .load false 1 (.tmp 2), none⟩, ⟨none, .lenSl (.tmp 3), none⟩, ⟨none, .minmax false (.tmp 4) [.cst (.int .i64 7)], none⟩, ⟨none, .sliceSl 1 (.tmp 1) none (some (.tmp 5)), none⟩, ⟨none, .fieldAddr 2 (.var 3), none⟩, ⟨none, .store 1 (.tmp 7) (.tmp 6), none⟩]) (.seq (.region [⟨none, .fieldAddr 3 (.var 3), none⟩, ⟨none, .load false 1 (.tmp 0), none⟩, ⟨none, .fieldAddr 3 (.var 3), none⟩, ⟨none, .load false 1 (.tmp 2), none⟩, ⟨none, .lenSl (.tmp 3), none⟩, ⟨none, .minmax false (.tmp 4) [.cst (.int .i64 12)], none⟩, ⟨none, .sliceSl 1 (.tmp 1) none (some (.tmp 5)), none⟩, ⟨none, .fieldAddr 3 (.var 3), none⟩, ⟨none, .store 1 (.tmp 7) (.tmp 6), none⟩]) (.seq (.regionD [] [⟨none, .load true 5 (.var 2), none⟩, ⟨none, .load true 4 (.var 3), none⟩, ⟨none, .store 5 (.var 4) (.tmp 0), none⟩, ⟨none, .store 4 (.var 5) (.tmp 1), none⟩] [(1, 2)]) .ret))))), [.cell 4 true 5, .cell 5 true 4]⟩
theorem xr : aE Try.prog Try.f12 2 [0, 1, 2, 3, 4, 5] [] true ([], []) = some zT := by kernel_rfl
theorem Il : Try.prog.funcs[12]? = some Try.f12 := by kernel_rfl
def dS : MC := .seq (.seq (.region [⟨none, .mv (.var 4), none⟩, ⟨none, .fieldAddr 0 (.var 1), none⟩, ⟨none, .load false 1 (.tmp 1), none⟩, ⟨none, .lenSl (.tmp 2), none⟩, ⟨some 7, .bin .leq (.tmp 0) (.tmp 3), none⟩]) (.cond (.var 7) .skip (.exit 0))) (.seq (.seq (.block 1 (.region [⟨none, .mv (.var 3), none⟩, ⟨none, .mv (.var 4), none⟩, ⟨none, .buildF 1 [.tmp 1], none⟩, ⟨none, .append 1 8 (.tmp 0) (.tmp 2), none⟩, ⟨some 3, .mv (.tmp 3), none⟩])) (.kill [0, 2, 5, 6, 7])) (.region [⟨none, .mv (.var 4), none⟩, ⟨none, .bin .add (.tmp 0) (.cst (.int .i64 1)), none⟩, ⟨some 4, .mv (.tmp 1), none⟩]))
def vX : ci := ⟨1, 8, .seq (.region [⟨some 1, .box (.var 0), none⟩, ⟨some 2, .mv (.cst .nilS), none⟩]) (.seq (.seq (.region [⟨none, .load true 5 (.var 1), none⟩, ⟨none, .call (.fn 17) [.tmp 0], none⟩, ⟨some 5, .un .not (.tmp 1), none⟩]) (.cond (.var 5) (.seq (.region [⟨some 2, .mv (.cst .nilS), none⟩]) .ret) .skip)) (.seq (.seq (.region [⟨none, .fieldAddr 4 (.var 1), none⟩, ⟨none, .load false 1 (.tmp 0), none⟩, ⟨some 6, .bin .eql (.tmp 1) (.cst (.int .i64 2)), none⟩]) (.cond (.var 6) (.seq (.region [⟨some 3, .mv (.cst .nilS), none⟩]) (.seq (.seq (.region [⟨some 4, .mv (.cst (.int .i64 0)), none⟩]) (.seq (.block 0 (.loop [0, 2, 5, 6, 7] dS)) (.kill [0, 1, 2, 4, 5, 6, 7]))) (.seq (.region [⟨none, .mv (.var 3), none⟩, ⟨none, .buildSlice 1 [.tmp 0], none⟩, ⟨some 2, .mv (.tmp 1), none⟩]) .ret))) .skip)) (.seq (.region [⟨none, .fieldAddr 0 (.var 1), none⟩, ⟨none, .load false 1 (.tmp 0), none⟩, ⟨none, .lenSl (.tmp 1), none⟩, ⟨none, .buildF 1 [.cst (.int .i64 0)], none⟩, ⟨none, .call (.fn 37) [.tmp 2, .tmp 3, .cst .nilS], none⟩, ⟨some 2, .mv (.tmp 4), none⟩]) .ret))), [.tmp 2]⟩
def dz : List Nat := [0, 2, 5, 6, 7]
abbrev en (v1 v3 v4 : AV) : List AV := [.undef, v1, .undef, v3, v4, .undef, .undef, .undef]
theorem pj {d0 v1 d2 v3 v4 d5 d6 d7 : AV} : clear dz [d0, v1, d2, v3, v4, d5, d6, d7] = en v1 v3 v4 := rfl
theorem tM {E : Env} {fuel : Nat} {A : ac} {o : Out} {k : List KC} {d0 v1 d2 v3 v4 d5 d6 d7 : AV} (h : bg (evC E fuel dS) dz fuel (en v1 v3 v4) A = some o) :
  run E fuel (.code (.loop [0, 2, 5, 6, 7] dS) :: k) [d0, v1, d2, v3, v4, d5, d6, d7] A = after E fuel k o := aG dz _ _ (by rw [pj]; exact h)
theorem xp : aE Try.prog Try.f15 1 [0, 1, 2, 3, 4, 7, 10, 15] [] true ([[0, 2, 5, 6, 7]], [[0, 2, 5, 6, 7], [0, 1, 2, 4, 5, 6, 7]]) = some vX := by kernel_rfl
theorem Ij : Try.prog.funcs[15]? = some Try.f15 := by kernel_rfl
def cv : MC := .seq (.seq (.region [⟨none, .mv (.var 4), none⟩, ⟨none, .mv (.var 3), none⟩, ⟨some 8, .bin .lss (.tmp 0) (.tmp 1), none⟩]) (.cond (.var 8) .skip (.exit 0))) (.seq (.seq (.block 1 (.seq (.region [⟨none, .fieldAddr 0 (.var 1), none⟩, ⟨none, .load false 1 (.tmp 0), none⟩, ⟨none, .mv (.var 4), none⟩, ⟨none, .indexSl 2 (.tmp 1) (.tmp 2), none⟩, ⟨none, .load true 2 (.tmp 3), none⟩, ⟨some 5, .alloc 2 (.agg [.int .i64 0, .int .i64 0]), none⟩, ⟨none, .store 2 (.var 5) (.tmp 4), none⟩]) (.seq (.region [⟨none, .fieldAddr 0 (.var 5), none⟩, ⟨none, .load false 1 (.tmp 0), none⟩, ⟨none, .bin .lss (.tmp 1) (.cst (.int .i64 0)), none⟩, ⟨none, .mv (.tmp 2), none⟩, ⟨none, .fieldAddr 0 (.var 5), some (.tmp 3, false)⟩, ⟨none, .load false 1 (.tmp 4), some (.tmp 3, false)⟩, ⟨none, .bin .gtr (.tmp 5) (.cst (.int .i64 100000)), some (.tmp 3, false)⟩, ⟨none, .pick (.tmp 3) (.cst (.bool true)) (.tmp 6), none⟩, ⟨none, .mv (.tmp 7), none⟩, ⟨none, .fieldAddr 1 (.var 5), some (.tmp 8, false)⟩, ⟨none, .load false 1 (.tmp 9), some (.tmp 8, false)⟩, ⟨none, .bin .lss (.tmp 10) (.cst (.int .i64 0)), some (.tmp 8, false)⟩, ⟨none, .pick (.tmp 8) (.cst (.bool true)) (.tmp 11), none⟩, ⟨none, .mv (.tmp 12), none⟩, ⟨none, .fieldAddr 1 (.var 5), some (.tmp 13, false)⟩, ⟨none, .load false 1 (.tmp 14), some (.tmp 13, false)⟩, ⟨none, .bin .gtr (.tmp 15) (.cst (.int .i64 100000)), some (.tmp 13, false)⟩, ⟨some 9, .pick (.tmp 13) (.cst (.bool true)) (.tmp 16), none⟩]) (.cond (.var 9) (.seq (.region [⟨some 2, .mv (.cst (.bool false)), none⟩]) .ret) .skip)))) (.kill [0, 2, 5, 6, 7, 8, 9, 10, 11, 12, 13, 14])) (.region [⟨none, .mv (.var 4), none⟩, ⟨none, .bin .add (.tmp 0) (.cst (.int .i64 1)), none⟩, ⟨some 4, .mv (.tmp 1), none⟩]))
def i4 : MC := .seq (.region [⟨some 13, .bin .lss (.var 12) (.var 11), none⟩]) (.seq (.cond (.var 13) .skip (.exit 2)) (.seq (.seq (.block 3 (.seq (.region [⟨none, .indexSl 1 (.var 10) (.var 12), none⟩, ⟨none, .load false 1 (.tmp 0), none⟩, ⟨some 6, .mv (.tmp 1), none⟩]) (.seq (.region [⟨none, .mv (.var 6), none⟩, ⟨none, .bin .lss (.tmp 0) (.cst (.int .i64 0)), none⟩, ⟨none, .mv (.tmp 1), none⟩, ⟨none, .mv (.var 6), some (.tmp 2, false)⟩, ⟨none, .bin .gtr (.tmp 3) (.cst (.int .i64 10000)), some (.tmp 2, false)⟩, ⟨some 14, .pick (.tmp 2) (.cst (.bool true)) (.tmp 4), none⟩]) (.cond (.var 14) (.seq (.region [⟨some 2, .mv (.cst (.bool false)), none⟩]) .ret) .skip)))) (.kill [0, 1, 2, 3, 4, 5, 6, 7, 8, 9, 13, 14])) (.region [⟨none, .bin .add (.var 12) (.cst (.int .i64 1)), none⟩, ⟨some 12, .mv (.tmp 0), none⟩])))
def rt : ci := ⟨1, 15, .seq (.region [⟨some 1, .box (.var 0), none⟩, ⟨some 2, .mv (.cst (.bool false)), none⟩]) (.seq (.region [⟨none, .fieldAddr 0 (.var 1), none⟩, ⟨none, .load false 1 (.tmp 0), none⟩, ⟨none, .lenSl (.tmp 1), none⟩, ⟨some 3, .mv (.tmp 2), none⟩]) (.seq (.seq (.region [⟨none, .mv (.var 3), none⟩, ⟨none, .bin .lss (.tmp 0) (.cst (.int .i64 1)), none⟩, ⟨none, .mv (.tmp 1), none⟩, ⟨none, .mv (.var 3), some (.tmp 2, false)⟩, ⟨none, .bin .gtr (.tmp 3) (.cst (.int .i64 4)), some (.tmp 2, false)⟩, ⟨none, .pick (.tmp 2) (.cst (.bool true)) (.tmp 4), none⟩, ⟨none, .mv (.tmp 5), none⟩, ⟨none, .fieldAddr 4 (.var 1), some (.tmp 6, false)⟩, ⟨none, .load false 1 (.tmp 7), some (.tmp 6, false)⟩, ⟨none, .bin .lss (.tmp 8) (.cst (.int .i64 1)), some (.tmp 6, false)⟩, ⟨none, .pick (.tmp 6) (.cst (.bool true)) (.tmp 9), none⟩, ⟨none, .mv (.tmp 10), none⟩, ⟨none, .fieldAddr 4 (.var 1), some (.tmp 11, false)⟩, ⟨none, .load false 1 (.tmp 12), some (.tmp 11, false)⟩, ⟨none, .bin .gtr (.tmp 13) (.cst (.int .i64 2)), some (.tmp 11, false)⟩, ⟨some 7, .pick (.tmp 11) (.cst (.bool true)) (.tmp 14), none⟩]) (.cond (.var 7) (.seq (.region [⟨some 2, .mv (.cst (.bool false)), none⟩]) .ret) .skip)) (.seq (.seq (.region [⟨some 4, .mv (.cst (.int .i64 0)), none⟩]) (.seq (.block 0 (.loop [0, 2, 5, 6, 7, 8, 9, 10, 11, 12, 13, 14] cv)) (.kill [0, 2, 3, 4, 5, 6, 7, 8, 9, 10, 11, 12, 13, 14]))) (.seq (.seq (.region [⟨none, .fieldAddr 1 (.var 1), none⟩, ⟨none, .load false 1 (.tmp 0), none⟩, ⟨none, .fieldAddr 2 (.var 1), none⟩, ⟨none, .load false 1 (.tmp 2), none⟩, ⟨none, .fieldAddr 3 (.var 1), none⟩, ⟨none, .load false 1 (.tmp 4), none⟩, ⟨some 10, .buildSlice 1 [.tmp 1, .tmp 3, .tmp 5], none⟩, ⟨some 11, .lenSl (.var 10), none⟩, ⟨some 12, .mv (.cst (.int .i64 0)), none⟩]) (.seq (.block 2 (.loop [0, 1, 2, 3, 4, 5, 6, 7, 8, 9, 13, 14] i4)) (.kill [0, 1, 2, 3, 4, 5, 6, 7, 8, 9, 10, 11, 12, 13, 14]))) (.seq (.region [⟨some 2, .mv (.cst (.bool true)), none⟩]) .ret))))), [.tmp 2]⟩
def cX : List Nat := [0, 2, 5, 6, 7, 8, 9, 10, 11, 12, 13, 14]
abbrev dL (v1 v3 v4 : AV) : List AV := [.undef, v1, .undef, v3, v4, .undef, .undef, .undef, .undef, .undef, .undef, .undef, .undef, .undef, .undef]
theorem nP {d0 v1 d2 v3 v4 d5 d6 d7 d8 d9 d10 d11 d12 d13 d14 : AV} : clear cX [d0, v1, d2, v3, v4, d5, d6, d7, d8, d9, d10, d11, d12, d13, d14] = dL v1 v3 v4 := rfl
theorem o7 {E : Env} {fuel : Nat} {A : ac} {o : Out} {k : List KC} {d0 v1 d2 v3 v4 d5 d6 d7 d8 d9 d10 d11 d12 d13 d14 : AV} (h : bg (evC E fuel cv) cX fuel (dL v1 v3 v4) A = some o) :
  run E fuel (.code (.loop [0, 2, 5, 6, 7, 8, 9, 10, 11, 12, 13, 14] cv) :: k) [d0, v1, d2, v3, v4, d5, d6, d7, d8, d9, d10, d11, d12, d13, d14] A = after E fuel k o := aG cX _ _ (by rw [nP]; exact h)
def jR : List Nat := [0, 1, 2, 3, 4, 5, 6, 7, 8, 9, 13, 14]
abbrev kP (v10 v11 v12 : AV) : List AV := [.undef, .undef, .undef, .undef, .undef, .undef, .undef, .undef, .undef, .undef, v10, v11, v12, .undef, .undef]
theorem AN {d0 d1 d2 d3 d4 d5 d6 d7 d8 d9 v10 v11 v12 d13 d14 : AV} : clear jR [d0, d1, d2, d3, d4, d5, d6, d7, d8, d9, v10, v11, v12, d13, d14] = kP v10 v11 v12 := rfl
theorem Ap {E : Env} {fuel : Nat} {A : ac} {o : Out} {k : List KC} {d0 d1 d2 d3 d4 d5 d6 d7 d8 d9 v10 v11 v12 d13 d14 : AV} (h : bg (evC E fuel i4) jR fuel (kP v10 v11 v12) A = some o) :
  run E fuel (.code (.loop [0, 1, 2, 3, 4, 5, 6, 7, 8, 9, 13, 14] i4) :: k) [d0, d1, d2, d3, d4, d5, d6, d7, d8, d9, v10, v11, v12, d13, d14] A = after E fuel k o := aG jR _ _ (by rw [AN]; exact h)
theorem xn : aE Try.prog Try.f17 1 [0, 1, 2, 3, 4, 5, 7, 26, 29, 54, 61, 62, 63, 64, 72] [] true ([[0, 2, 5, 6, 7, 8, 9, 10, 11, 12, 13, 14], [0, 1, 2, 3, 4, 5, 6, 7, 8, 9, 13, 14]], [[0, 2, 5, 6, 7, 8, 9, 10, 11, 12, 13, 14], [0, 2, 3, 4, 5, 6, 7, 8, 9, 10, 11, 12, 13, 14], [0, 1, 2, 3, 4, 5, 6, 7, 8, 9, 13, 14], [0, 1, 2, 3, 4, 5, 6, 7, 8, 9, 10, 11, 12, 13, 14]]) = some rt := by kernel_rfl
theorem Ih : Try.prog.funcs[17]? = some Try.f17 := by kernel_rfl
def c9 : MC := .seq (.seq (.region [⟨none, .mv (.var 7), none⟩, ⟨none, .mv (.var 1), none⟩, ⟨none, .lenSl (.tmp 1), none⟩, ⟨some 16, .bin .lss (.tmp 0) (.tmp 2), none⟩]) (.cond (.var 16) .skip (.exit 0))) (.seq (.seq (.block 1 (.seq (.region [⟨some 8, .mv (.cst (.int .i64 0)), none⟩]) (.seq (.region [⟨some 9, .mv (.cst (.int .i64 1)), none⟩]) (.seq (.seq (.region [⟨none, .mv (.var 7), none⟩, ⟨none, .bin .add (.tmp 0) (.cst (.int .i64 1)), none⟩, ⟨none, .mv (.var 1), none⟩, ⟨none, .lenSl (.tmp 2), none⟩, ⟨some 17, .bin .lss (.tmp 1) (.tmp 3), none⟩]) (.cond (.var 17) (.seq (.region [⟨none, .mv (.var 1), none⟩, ⟨none, .mv (.var 7), none⟩, ⟨none, .bin .add (.tmp 1) (.cst (.int .i64 1)), none⟩, ⟨none, .indexSl 1 (.tmp 0) (.tmp 2), none⟩, ⟨none, .load false 1 (.tmp 3), none⟩, ⟨some 8, .mv (.tmp 4), none⟩]) (.region [⟨some 9, .mv (.cst (.int .i64 0)), none⟩])) .skip)) (.seq (.region [⟨none, .mv (.var 1), none⟩, ⟨none, .mv (.var 7), none⟩, ⟨none, .indexSl 1 (.tmp 0) (.tmp 1), none⟩, ⟨none, .load false 1 (.tmp 2), none⟩, ⟨none, .mv (.var 8), none⟩, ⟨none, .mv (.var 5), none⟩, ⟨none, .mv (.var 9), none⟩, ⟨none, .build [.int .i64 0, .int .i64 0, .int .i64 0, .int .i64 0] [(0, (1, .tmp 3)), (1, (1, .tmp 4)), (2, (1, .tmp 5)), (3, (1, .tmp 6))], none⟩, ⟨some 10, .alloc 4 (.agg [.int .i64 0, .int .i64 0, .int .i64 0, .int .i64 0]), none⟩, ⟨none, .store 4 (.var 10) (.tmp 7), none⟩]) (.seq (.seq (.region [⟨none, .fieldAddr 4 (.var 2), none⟩, ⟨none, .load false 1 (.tmp 0), none⟩, ⟨none, .bin .eql (.tmp 1) (.cst (.int .i64 2)), none⟩, ⟨none, .mv (.tmp 2), none⟩, ⟨none, .mv (.var 8), some (.tmp 3, false)⟩, ⟨none, .mv (.var 1), some (.tmp 3, false)⟩, ⟨none, .mv (.var 7), some (.tmp 3, false)⟩, ⟨none, .indexSl 1 (.tmp 5) (.tmp 6), some (.tmp 3, false)⟩, ⟨none, .load false 1 (.tmp 7), some (.tmp 3, false)⟩, ⟨none, .bin .add (.tmp 8) (.cst (.int .i64 1)), some (.tmp 3, false)⟩, ⟨none, .bin .neq (.tmp 4) (.tmp 9), some (.tmp 3, false)⟩, ⟨some 18, .pick (.tmp 3) (.cst (.bool true)) (.tmp 10), none⟩]) (.cond (.var 18) (.region [⟨none, .fieldAddr 2 (.var 10), none⟩, ⟨none, .load false 1 (.tmp 0), none⟩, ⟨none, .fieldAddr 3 (.var 2), none⟩, ⟨none, .load false 1 (.tmp 2), none⟩, ⟨none, .bin .add (.tmp 1) (.tmp 3), none⟩, ⟨none, .fieldAddr 2 (.var 10), none⟩, ⟨none, .store 1 (.tmp 5) (.tmp 4), none⟩]) .skip)) (.region [⟨none, .mv (.var 6), none⟩, ⟨none, .load true 4 (.var 10), none⟩, ⟨none, .buildF 4 [.tmp 1], none⟩, ⟨none, .append 4 32 (.tmp 0) (.tmp 2), none⟩, ⟨some 6, .mv (.tmp 3), none⟩]))))))) (.kill [0, 3, 4, 8, 9, 10, 11, 12, 13, 14, 15, 16, 17, 18, 19, 20, 21])) (.region [⟨none, .mv (.var 7), none⟩, ⟨none, .bin .add (.tmp 0) (.cst (.int .i64 1)), none⟩, ⟨some 7, .mv (.tmp 1), none⟩]))
def dq : MC := .seq (.seq (.region [⟨none, .mv (.var 11), none⟩, ⟨none, .fieldAddr 0 (.var 2), none⟩, ⟨none, .load false 1 (.tmp 1), none⟩, ⟨none, .lenSl (.tmp 2), none⟩, ⟨some 19, .bin .leq (.tmp 0) (.tmp 3), none⟩]) (.cond (.var 19) .skip (.exit 2))) (.seq (.seq (.block 3 (.seq (.region [⟨none, .fieldAddr 0 (.var 2), none⟩, ⟨none, .load false 1 (.tmp 0), none⟩, ⟨none, .mv (.var 11), none⟩, ⟨none, .bin .sub (.tmp 2) (.cst (.int .i64 1)), none⟩, ⟨none, .indexSl 2 (.tmp 1) (.tmp 3), none⟩, ⟨none, .load true 2 (.tmp 4), none⟩, ⟨some 12, .alloc 2 (.agg [.int .i64 0, .int .i64 0]), none⟩, ⟨none, .store 2 (.var 12) (.tmp 5), none⟩]) (.seq (.region [⟨none, .mv (.var 11), none⟩, ⟨none, .bin .sub (.tmp 0) (.cst (.int .i64 1)), none⟩, ⟨some 13, .mv (.tmp 1), none⟩]) (.seq (.region [⟨some 14, .mv (.cst (.int .i64 0)), none⟩]) (.seq (.seq (.region [⟨none, .fieldAddr 4 (.var 2), none⟩, ⟨none, .load false 1 (.tmp 0), none⟩, ⟨some 20, .bin .eql (.tmp 1) (.cst (.int .i64 2)), none⟩]) (.cond (.var 20) (.seq (.region [⟨none, .mv (.var 11), none⟩, ⟨some 13, .mv (.tmp 0), none⟩]) (.region [⟨some 14, .mv (.cst (.int .i64 1)), none⟩])) (.seq (.region [⟨none, .mv (.var 1), none⟩, ⟨none, .mv (.var 11), none⟩, ⟨none, .call (.fn 48) [.tmp 0, .tmp 1], none⟩, ⟨none, .mv (.var 1), none⟩, ⟨none, .mv (.var 11), none⟩, ⟨none, .bin .sub (.tmp 4) (.cst (.int .i64 1)), none⟩, ⟨none, .call (.fn 48) [.tmp 3, .tmp 5], none⟩, ⟨some 21, .bin .lss (.tmp 2) (.tmp 6), none⟩]) (.cond (.var 21) (.region [⟨some 14, .mv (.cst (.int .i64 1)), none⟩]) .skip)))) (.region [⟨none, .mv (.var 6), none⟩, ⟨none, .mv (.var 13), none⟩, ⟨none, .mv (.var 11), none⟩, ⟨none, .mv (.var 5), none⟩, ⟨none, .fieldAddr 0 (.var 12), none⟩, ⟨none, .load false 1 (.tmp 4), none⟩, ⟨none, .bin .add (.tmp 3) (.tmp 5), none⟩, ⟨none, .mv (.var 14), none⟩, ⟨none, .build [.int .i64 0, .int .i64 0, .int .i64 0, .int .i64 0] [(0, (1, .tmp 1)), (1, (1, .tmp 2)), (2, (1, .tmp 6)), (3, (1, .tmp 7))], none⟩, ⟨none, .mv (.var 11), none⟩, ⟨none, .mv (.var 13), none⟩, ⟨none, .mv (.var 5), none⟩, ⟨none, .fieldAddr 0 (.var 12), none⟩, ⟨none, .load false 1 (.tmp 12), none⟩, ⟨none, .bin .add (.tmp 11) (.tmp 13), none⟩, ⟨none, .fieldAddr 1 (.var 12), none⟩, ⟨none, .load false 1 (.tmp 15), none⟩, ⟨none, .bin .add (.tmp 14) (.tmp 16), none⟩, ⟨none, .un .neg (.tmp 17), none⟩, ⟨none, .mv (.var 14), none⟩, ⟨none, .un .neg (.tmp 19), none⟩, ⟨none, .build [.int .i64 0, .int .i64 0, .int .i64 0, .int .i64 0] [(0, (1, .tmp 9)), (1, (1, .tmp 10)), (2, (1, .tmp 18)), (3, (1, .tmp 20))], none⟩, ⟨none, .buildF 4 [.tmp 8, .tmp 21], none⟩, ⟨none, .append 4 32 (.tmp 0) (.tmp 22), none⟩, ⟨some 6, .mv (.tmp 23), none⟩])))))) (.kill [0, 3, 4, 7, 8, 9, 10, 12, 13, 14, 15, 16, 17, 18, 19, 20, 21])) (.region [⟨none, .mv (.var 11), none⟩, ⟨none, .bin .add (.tmp 0) (.cst (.int .i64 1)), none⟩, ⟨some 11, .mv (.tmp 1), none⟩]))
def vW : ci := ⟨2, 22, .seq (.region [⟨some 2, .box (.var 0), none⟩, ⟨some 3, .mv (.cst .nilS), none⟩, ⟨some 4, .mv (.cst (.int .i64 0)), none⟩]) (.seq (.seq (.region [⟨none, .load true 5 (.var 2), none⟩, ⟨none, .mv (.var 1), none⟩, ⟨none, .call (.fn 47) [.tmp 0, .tmp 1], none⟩, ⟨some 15, .un .not (.tmp 2), none⟩]) (.cond (.var 15) (.seq (.region [⟨some 3, .mv (.cst .nilS), none⟩, ⟨some 4, .mv (.cst (.int .i64 130)), none⟩]) .ret) .skip)) (.seq (.region [⟨none, .load true 5 (.var 2), none⟩, ⟨none, .call (.fn 29) [.tmp 0], none⟩, ⟨some 5, .mv (.tmp 1), none⟩]) (.seq (.region [⟨some 6, .mv (.cst .nilS), none⟩]) (.seq (.seq (.region [⟨some 7, .mv (.cst (.int .i64 0)), none⟩]) (.seq (.block 0 (.loop [0, 3, 4, 8, 9, 10, 11, 12, 13, 14, 15, 16, 17, 18, 19, 20, 21] c9)) (.kill [0, 3, 4, 7, 8, 9, 10, 11, 12, 13, 14, 15, 16, 17, 18, 19, 20, 21]))) (.seq (.seq (.region [⟨some 11, .mv (.cst (.int .i64 1)), none⟩]) (.seq (.block 2 (.loop [0, 3, 4, 7, 8, 9, 10, 12, 13, 14, 15, 16, 17, 18, 19, 20, 21] dq)) (.kill [0, 1, 2, 3, 4, 5, 7, 8, 9, 10, 11, 12, 13, 14, 15, 16, 17, 18, 19, 20, 21]))) (.seq (.region [⟨none, .mv (.var 6), none⟩, ⟨some 3, .mv (.tmp 0), none⟩, ⟨some 4, .mv (.cst (.int .i64 0)), none⟩]) .ret)))))), [.tmp 3, .tmp 4]⟩
def dy : List Nat := [0, 3, 4, 8, 9, 10, 11, 12, 13, 14, 15, 16, 17, 18, 19, 20, 21]
abbrev eI (v1 v2 v5 v6 v7 : AV) : List AV := [.undef, v1, v2, .undef, .undef, v5, v6, v7, .undef, .undef, .undef, .undef, .undef, .undef, .undef, .undef, .undef, .undef, .undef, .undef, .undef, .undef]
theorem pi {d0 v1 v2 d3 d4 v5 v6 v7 d8 d9 d10 d11 d12 d13 d14 d15 d16 d17 d18 d19 d20 d21 : AV} : clear dy [d0, v1, v2, d3, d4, v5, v6, v7, d8, d9, d10, d11, d12, d13, d14, d15, d16, d17, d18, d19, d20, d21] = eI v1 v2 v5 v6 v7 := rfl
theorem qL {E : Env} {fuel : Nat} {A : ac} {o : Out} {k : List KC} {d0 v1 v2 d3 d4 v5 v6 v7 d8 d9 d10 d11 d12 d13 d14 d15 d16 d17 d18 d19 d20 d21 : AV} (h : bg (evC E fuel c9) dy fuel (eI v1 v2 v5 v6 v7) A = some o) :
  run E fuel (.code (.loop [0, 3, 4, 8, 9, 10, 11, 12, 13, 14, 15, 16, 17, 18, 19, 20, 21] c9) :: k) [d0, v1, v2, d3, d4, v5, v6, v7, d8, d9, d10, d11, d12, d13, d14, d15, d16, d17, d18, d19, d20, d21] A = after E fuel k o := aG dy _ _ (by rw [pi]; exact h)
def dx : List Nat := [0, 3, 4, 7, 8, 9, 10, 12, 13, 14, 15, 16, 17, 18, 19, 20, 21]
abbrev eH (v1 v2 v5 v6 v11 : AV) : List AV := [.undef, v1, v2, .undef, .undef, v5, v6, .undef, .undef, .undef, .undef, v11, .undef, .undef, .undef, .undef, .undef, .undef, .undef, .undef, .undef, .undef]
theorem ph {d0 v1 v2 d3 d4 v5 v6 d7 d8 d9 d10 v11 d12 d13 d14 d15 d16 d17 d18 d19 d20 d21 : AV} : clear dx [d0, v1, v2, d3, d4, v5, v6, d7, d8, d9, d10, v11, d12, d13, d14, d15, d16, d17, d18, d19, d20, d21] = eH v1 v2 v5 v6 v11 := rfl
theorem tL {E : Env} {fuel : Nat} {A : ac} {o : Out} {k : List KC} {d0 v1 v2 d3 d4 v5 v6 d7 d8 d9 d10 v11 d12 d13 d14 d15 d16 d17 d18 d19 d20 d21 : AV} (h : bg (evC E fuel dq) dx fuel (eH v1 v2 v5 v6 v11) A = some o) :
  run E fuel (.code (.loop [0, 3, 4, 7, 8, 9, 10, 12, 13, 14, 15, 16, 17, 18, 19, 20, 21] dq) :: k) [d0, v1, v2, d3, d4, v5, v6, d7, d8, d9, d10, v11, d12, d13, d14, d15, d16, d17, d18, d19, d20, d21] A = after E fuel k o := aG dx _ _ (by rw [ph]; exact h)
theorem xk : aE Try.prog Try.f20 2 [0, 1, 2, 4, 5, 6, 7, 8, 9, 10, 11, 12, 13, 14, 15, 19, 25, 32, 57, 72, 85, 94] [] true ([[0, 3, 4, 8, 9, 10, 11, 12, 13, 14, 15, 16, 17, 18, 19, 20, 21], [0, 3, 4, 7, 8, 9, 10, 12, 13, 14, 15, 16, 17, 18, 19, 20, 21]], [[0, 3, 4, 8, 9, 10, 11, 12, 13, 14, 15, 16, 17, 18, 19, 20, 21], [0, 3, 4, 7, 8, 9, 10, 11, 12, 13, 14, 15, 16, 17, 18, 19, 20, 21], [0, 3, 4, 7, 8, 9, 10, 12, 13, 14, 15, 16, 17, 18, 19, 20, 21], [0, 1, 2, 3, 4, 5, 7, 8, 9, 10, 11, 12, 13, 14, 15, 16, 17, 18, 19, 20, 21]]) = some vW := by kernel_rfl
theorem If : Try.prog.funcs[20]? = some Try.f20 := by kernel_rfl
def eL : MC := .seq (.seq (.region [⟨none, .mv (.var 6), none⟩, ⟨none, .mv (.var 1), none⟩, ⟨none, .lenSl (.tmp 1), none⟩, ⟨some 9, .bin .lss (.tmp 0) (.tmp 2), none⟩]) (.cond (.var 9) .skip (.exit 2))) (.seq (.seq (.block 3 (.region [⟨none, .mv (.var 5), none⟩, ⟨none, .mv (.tmp 0), none⟩, ⟨none, .mv (.var 1), some (.tmp 1, false)⟩, ⟨none, .mv (.var 6), some (.tmp 1, false)⟩, ⟨none, .indexSl 1 (.tmp 2) (.tmp 3), some (.tmp 1, false)⟩, ⟨none, .load false 1 (.tmp 4), some (.tmp 1, false)⟩, ⟨none, .mv (.var 4), some (.tmp 1, false)⟩, ⟨none, .bin .eql (.tmp 5) (.tmp 6), some (.tmp 1, false)⟩, ⟨none, .pick (.tmp 1) (.cst (.bool true)) (.tmp 7), none⟩, ⟨some 5, .mv (.tmp 8), none⟩])) (.kill [3, 7, 8, 9, 10])) (.region [⟨none, .mv (.var 6), none⟩, ⟨none, .bin .add (.tmp 0) (.cst (.int .i64 1)), none⟩, ⟨some 6, .mv (.tmp 1), none⟩]))
def jW : MC := .seq (.seq (.region [⟨none, .mv (.var 4), none⟩, ⟨none, .mv (.var 0), none⟩, ⟨some 8, .bin .leq (.tmp 0) (.tmp 1), none⟩]) (.cond (.var 8) .skip (.exit 0))) (.seq (.seq (.block 1 (.seq (.region [⟨some 5, .mv (.cst (.bool false)), none⟩]) (.seq (.seq (.region [⟨some 6, .mv (.cst (.int .i64 0)), none⟩]) (.seq (.block 2 (.loop [3, 7, 8, 9, 10] eL)) (.kill [3, 6, 7, 8, 9, 10]))) (.seq (.region [⟨none, .mv (.var 5), none⟩, ⟨some 10, .un .not (.tmp 0), none⟩]) (.cond (.var 10) (.region [⟨none, .mv (.var 0), none⟩, ⟨none, .buildSlice 1 [], none⟩, ⟨none, .mv (.var 1), none⟩, ⟨none, .append 1 8 (.tmp 1) (.tmp 2), none⟩, ⟨none, .mv (.var 4), none⟩, ⟨none, .buildSlice 1 [.tmp 4], none⟩, ⟨none, .append 1 8 (.tmp 3) (.tmp 5), none⟩, ⟨none, .mv (.var 2), none⟩, ⟨none, .call (.fn 37) [.tmp 0, .tmp 6, .tmp 7], none⟩, ⟨some 2, .mv (.tmp 8), none⟩]) .skip))))) (.kill [3, 5, 6, 7, 8, 9, 10])) (.region [⟨none, .mv (.var 4), none⟩, ⟨none, .bin .add (.tmp 0) (.cst (.int .i64 1)), none⟩, ⟨some 4, .mv (.tmp 1), none⟩]))
def pK : ci := ⟨3, 11, .seq (.region [⟨some 3, .mv (.cst .nilS), none⟩]) (.seq (.seq (.region [⟨none, .mv (.var 1), none⟩, ⟨none, .lenSl (.tmp 0), none⟩, ⟨none, .mv (.var 0), none⟩, ⟨none, .bin .add (.tmp 2) (.cst (.int .i64 1)), none⟩, ⟨some 7, .bin .eql (.tmp 1) (.tmp 3), none⟩]) (.cond (.var 7) (.seq (.region [⟨none, .mv (.var 2), none⟩, ⟨none, .buildSlice 1 [], none⟩, ⟨none, .mv (.var 1), none⟩, ⟨none, .append 1 8 (.tmp 1) (.tmp 2), none⟩, ⟨none, .buildSlice 1 [.tmp 3], none⟩, ⟨none, .append 1 24 (.tmp 0) (.tmp 4), none⟩, ⟨some 3, .mv (.tmp 5), none⟩]) .ret) .skip)) (.seq (.seq (.region [⟨some 4, .mv (.cst (.int .i64 1)), none⟩]) (.seq (.block 0 (.loop [3, 5, 6, 7, 8, 9, 10] jW)) (.kill [0, 1, 3, 4, 5, 6, 7, 8, 9, 10]))) (.seq (.region [⟨none, .mv (.var 2), none⟩, ⟨some 3, .mv (.tmp 0), none⟩]) .ret))), [.tmp 3]⟩
def ek : List Nat := [3, 7, 8, 9, 10]
abbrev fJ (v0 v1 v2 v4 v5 v6 : AV) : List AV := [v0, v1, v2, .undef, v4, v5, v6, .undef, .undef, .undef, .undef]
theorem pg {v0 v1 v2 d3 v4 v5 v6 d7 d8 d9 d10 : AV} : clear ek [v0, v1, v2, d3, v4, v5, v6, d7, d8, d9, d10] = fJ v0 v1 v2 v4 v5 v6 := rfl
theorem tK {E : Env} {fuel : Nat} {A : ac} {o : Out} {k : List KC} {v0 v1 v2 d3 v4 v5 v6 d7 d8 d9 d10 : AV} (h : bg (evC E fuel eL) ek fuel (fJ v0 v1 v2 v4 v5 v6) A = some o) :
  run E fuel (.code (.loop [3, 7, 8, 9, 10] eL) :: k) [v0, v1, v2, d3, v4, v5, v6, d7, d8, d9, d10] A = after E fuel k o := aG ek _ _ (by rw [pg]; exact h)
def jK : List Nat := [3, 5, 6, 7, 8, 9, 10]
abbrev mG (v0 v1 v2 v4 : AV) : List AV := [v0, v1, v2, .undef, v4, .undef, .undef, .undef, .undef, .undef, .undef]
theorem xw {v0 v1 v2 d3 v4 d5 d6 d7 d8 d9 d10 : AV} : clear jK [v0, v1, v2, d3, v4, d5, d6, d7, d8, d9, d10] = mG v0 v1 v2 v4 := rfl
theorem DP {E : Env} {fuel : Nat} {A : ac} {o : Out} {k : List KC} {v0 v1 v2 d3 v4 d5 d6 d7 d8 d9 d10 : AV} (h : bg (evC E fuel jW) jK fuel (mG v0 v1 v2 v4) A = some o) :
  run E fuel (.code (.loop [3, 5, 6, 7, 8, 9, 10] jW) :: k) [v0, v1, v2, d3, v4, d5, d6, d7, d8, d9, d10] A = after E fuel k o := aG jK _ _ (by rw [xw]; exact h)
theorem tV : aE Try.prog Try.f37 3 [0, 1, 2, 6, 7, 8, 9, 14, 23, 29, 42] [] false ([[3, 5, 6, 7, 8, 9, 10], [3, 7, 8, 9, 10]], [[3, 7, 8, 9, 10], [3, 6, 7, 8, 9, 10], [3, 5, 6, 7, 8, 9, 10], [0, 1, 3, 4, 5, 6, 7, 8, 9, 10]]) = some pK := by kernel_rfl
theorem FD : Try.prog.funcs[37]? = some Try.f37 := by kernel_rfl
def dp : MC := .seq (.seq (.region [⟨none, .mv (.var 5), none⟩, ⟨none, .mv (.var 4), none⟩, ⟨none, .lenSl (.tmp 1), none⟩, ⟨some 7, .bin .lss (.tmp 0) (.tmp 2), none⟩]) (.cond (.var 7) .skip (.exit 0))) (.seq (.seq (.block 1 (.seq (.region [⟨none, .mv (.var 4), none⟩, ⟨none, .mv (.var 5), none⟩, ⟨none, .indexSl 1 (.tmp 0) (.tmp 1), none⟩, ⟨none, .load false 1 (.tmp 2), none⟩, ⟨none, .mv (.var 1), none⟩, ⟨none, .call (.fn 18) [.tmp 3, .tmp 4], none⟩, ⟨some 6, .mv (.tmp 5), none⟩]) (.seq (.region [⟨some 8, .mv (.var 6), none⟩]) (.cond (.var 8) (.seq (.region [⟨some 3, .mv (.cst (.bool true)), none⟩]) .ret) .skip)))) (.kill [0, 2, 3, 6, 7, 8])) (.region [⟨none, .mv (.var 5), none⟩, ⟨none, .bin .add (.tmp 0) (.cst (.int .i64 1)), none⟩, ⟨some 5, .mv (.tmp 1), none⟩]))
def yO : ci := ⟨2, 9, .seq (.region [⟨some 2, .box (.var 0), none⟩, ⟨some 3, .mv (.cst (.bool false)), none⟩]) (.seq (.region [⟨none, .load true 5 (.var 2), none⟩, ⟨none, .call (.fn 15) [.tmp 0], none⟩, ⟨some 4, .mv (.tmp 1), none⟩]) (.seq (.seq (.region [⟨some 5, .mv (.cst (.int .i64 0)), none⟩]) (.seq (.block 0 (.loop [0, 2, 3, 6, 7, 8] dp)) (.kill [0, 1, 2, 3, 4, 5, 6, 7, 8]))) (.seq (.region [⟨some 3, .mv (.cst (.bool false)), none⟩]) .ret))), [.tmp 3]⟩
def cW : List Nat := [0, 2, 3, 6, 7, 8]
abbrev ec (v1 v4 v5 : AV) : List AV := [.undef, v1, .undef, .undef, v4, v5, .undef, .undef, .undef]
theorem pf {d0 v1 d2 d3 v4 v5 d6 d7 d8 : AV} : clear cW [d0, v1, d2, d3, v4, v5, d6, d7, d8] = ec v1 v4 v5 := rfl
theorem qJ {E : Env} {fuel : Nat} {A : ac} {o : Out} {k : List KC} {d0 v1 d2 d3 v4 v5 d6 d7 d8 : AV} (h : bg (evC E fuel dp) cW fuel (ec v1 v4 v5) A = some o) :
  run E fuel (.code (.loop [0, 2, 3, 6, 7, 8] dp) :: k) [d0, v1, d2, d3, v4, v5, d6, d7, d8] A = after E fuel k o := aG cW _ _ (by rw [pf]; exact h)
theorem wR : aE Try.prog Try.f47 2 [0, 1, 2, 4, 5, 6, 7, 13, 22] [] true ([[0, 2, 3, 6, 7, 8]], [[0, 2, 3, 6, 7, 8], [0, 1, 2, 3, 4, 5, 6, 7, 8]]) = some yO := by kernel_rfl
theorem HU : Try.prog.funcs[47]? = some Try.f47 := by kernel_rfl
def dQ : MC := .seq (.seq (.region [⟨none, .mv (.var 3), none⟩, ⟨none, .mv (.var 0), none⟩, ⟨none, .lenSl (.tmp 1), none⟩, ⟨some 4, .bin .lss (.tmp 0) (.tmp 2), none⟩]) (.cond (.var 4) .skip (.exit 0))) (.seq (.seq (.block 1 (.seq (.region [⟨none, .mv (.var 0), none⟩, ⟨none, .mv (.var 3), none⟩, ⟨none, .indexSl 1 (.tmp 0) (.tmp 1), none⟩, ⟨none, .load false 1 (.tmp 2), none⟩, ⟨none, .mv (.var 1), none⟩, ⟨some 5, .bin .eql (.tmp 3) (.tmp 4), none⟩]) (.cond (.var 5) (.seq (.region [⟨none, .mv (.var 3), none⟩, ⟨some 2, .mv (.tmp 0), none⟩]) .ret) .skip))) (.kill [2, 4, 5])) (.region [⟨none, .mv (.var 3), none⟩, ⟨none, .bin .add (.tmp 0) (.cst (.int .i64 1)), none⟩, ⟨some 3, .mv (.tmp 1), none⟩]))
def zS : ci := ⟨2, 6, .seq (.region [⟨some 2, .mv (.cst (.int .i64 0)), none⟩]) (.seq (.seq (.region [⟨some 3, .mv (.cst (.int .i64 0)), none⟩]) (.seq (.block 0 (.loop [2, 4, 5] dQ)) (.kill [0, 1, 2, 3, 4, 5]))) (.seq (.region [⟨some 2, .mv (.cst (.int .i64 (-1))), none⟩]) .ret)), [.tmp 2]⟩
def du : List Nat := [2, 4, 5]
abbrev el (v0 v1 v3 : AV) : List AV := [v0, v1, .undef, v3, .undef, .undef]
theorem qZ {v0 v1 d2 v3 d4 d5 : AV} : clear du [v0, v1, d2, v3, d4, d5] = el v0 v1 v3 := rfl
theorem tJ {E : Env} {fuel : Nat} {A : ac} {o : Out} {k : List KC} {v0 v1 d2 v3 d4 d5 : AV} (h : bg (evC E fuel dQ) du fuel (el v0 v1 v3) A = some o) :
  run E fuel (.code (.loop [2, 4, 5] dQ) :: k) [v0, v1, d2, v3, d4, d5] A = after E fuel k o := aG du _ _ (by rw [qZ]; exact h)
theorem wQ : aE Try.prog Try.f48 2 [0, 1, 4, 5, 9, 17] [] true ([[2, 4, 5]], [[2, 4, 5], [0, 1, 2, 3, 4, 5]]) = some zS := by kernel_rfl
theorem HS : Try.prog.funcs[48]? = some Try.f48 := by kernel_rfl
def M48 : aT := fun args => evP (au GC []) 300 zS 1 args
theorem Dp : aq Try.prog GC 48 M48 := aq.of_ev (E := au GC []) (av az) rfl HS wQ 1 fun _ _ h => ⟨300, h⟩
theorem t8 {xs : List Int} {b : AV} (hb : SlA 1 (ag xs) b) (hl : xs.length <= 200) (v : Int) : M48 [b, .int .i64 v] = some (.int .i64 (cy (isI v) xs)) := by
 have hlen := hb.len
 rw [aA] at hlen
 have round : ∀ (A : ac) (i : Nat) (hi : i < xs.length), run (au GC []) 300 [.code dQ] (el b (.int .i64 v) (.int .i64 (i : Int))) A =
   if isI v xs[i] = false then some (.normal (el b (.int .i64 v) (.int .i64 ((i + 1 : Nat) : Int))) A) else some (.ret [b, .int .i64 v, .int .i64 (i : Int), .int .i64 (i : Int), .bool true, .bool true] A) := fun A i hi => by
  have x1 := hb.int (A := A) _ _ (List.getElem?_eq_getElem hi) .i64
  have m : af .eql (.int .i64 xs[i]) (.int .i64 v) = some (.bool (isI v xs[i])) := by
   rw [ce]; congr 2; unfold isI; exact decide_eq_decide.2 eq_comm
  have b1 := bc i xs.length .i64
  rw [decide_eq_true hi] at b1
  have b3 := aK i (by omega)
  obtain ⟨i1, hi1⟩ : ∃ i1 : Nat, i1 = i + 1 := ⟨_, rfl⟩
  rw [<- hi1] at b3 ⊢
  obtain ⟨d, hd⟩ : ∃ d, d = isI v xs[i] := ⟨_, rfl⟩
  rw [<- hd] at m ⊢
  cases d with
  | false => simp [dQ, x1, m, b1, b3, hlen, -af, -ab, -aj]
  | true => simp [dQ, x1, m, b1, hlen, -af, -ab, -aj]
 have bE := bc xs.length xs.length .i64
 rw [decide_eq_false (by omega)] at bE
 unfold M48
 rw [aN _ _ rfl]
 rcases bz (E := au GC []) (fuel := 300) (a := dQ) (mask := du) (fun i => el b (.int .i64 v) (.int .i64 (i : Int))) (fun _ => []) xs.length (fun i => ¬ ∀ hi : i < xs.length, isI v xs[i] = false)
  (oF := fun i => .ret [b, .int .i64 v, .int .i64 (i : Int), .int .i64 (i : Int), .bool true, .bool true] []) (oE := .exit 0 ((el b (.int .i64 v) (.int .i64 (xs.length : Int))).set 4 (.bool false)) [])
  (fun _ => qZ) (fun _ _ _ h => by cases h) (fun _ _ h => by cases h)
  (fun i hi hp => by
   rw [round [] i hi]
   exact if_pos (Classical.not_not.1 hp hi))
  (fun i hi hp => by
   rw [round [] i hi]
   exact if_neg fun h => hp fun _ => h)
  (by simp [dQ, hlen, bE, -af, -aj]) (show xs.length < 300 by omega) with ⟨i, hi, hp, hj, lp⟩ | ⟨hp, lp⟩
 ·have lp : bg (evC (au GC []) 300 dQ) du 300 (el b (.int .i64 v) (.int .i64 0)) [] = _ := lp
  have e : cy (isI v) xs = (i : Int) := a9 hi (by
   cases h' : isI v xs[i] with
   | true => rfl
   | false => exact absurd (fun _ => h') hp) (fun j hj' => Classical.not_not.1 (hj j hj') (by omega))
  rw [e]
  simp [zS, tJ lp, -af, -aj]
 ·have lp : bg (evC (au GC []) 300 dQ) du 300 (el b (.int .i64 v) (.int .i64 0)) [] = _ := lp
  have e : cy (isI v) xs = -1 := ba fun i hi => Classical.not_not.1 (hp i hi) hi
  rw [e]
  simp [zS, tJ lp, -af, -aj]
def M17 : aT := fun args => evP (au GC []) 300 rt 1 args
theorem vC : aq Try.prog GC 17 M17 := aq.of_ev (E := au GC []) (av az) rfl Ih xn 1 fun _ _ h => ⟨300, h⟩
def B17 (T : bD) (chv : AV) (i : Nat) : ac := .row 5 false [aD T chv] :: (T.ch.take i).map fun c => .row 2 false [chA c]
theorem zI {T : bD} {chv : AV} {i : Nat} (hi : i < T.ch.length) : B17 T chv i ++ [.row 2 false [chA T.ch[i]]] = B17 T chv (i + 1) := by
 unfold B17
 rw [List.take_succ_eq_append_getElem hi, List.map_append]; rfl
theorem yG {T : bD} {chv : AV} (hcv : SlA 2 (T.ch.map chA) chv) (hl : T.ch.length <= 4) {i : Nat} (hi : i < T.ch.length) :
  ∃ d5 d9 : AV, run (au GC []) 300 [.code cv] (dL (.ptr 0 0 0) (.int .i64 (T.ch.length : Int)) (.int .i64 (i : Int))) (B17 T chv i) =
   if l8 T.ch[i] then some (.normal (dL (.ptr 0 0 0) (.int .i64 (T.ch.length : Int)) (.int .i64 ((i + 1 : Nat) : Int))) (B17 T chv (i + 1)))
   else some (.ret [.undef, .ptr 0 0 0, .bool false, .int .i64 (T.ch.length : Int), .int .i64 (i : Int), d5, .undef, .undef, .bool true, d9, .undef, .undef, .undef, .undef, .undef] (B17 T chv (i + 1))) := by
 rw [<- zI hi]
 obtain ⟨A, hA⟩ : ∃ A, A = B17 T chv i := ⟨_, rfl⟩
 have f0 : aa 0 A (.ptr 0 0 0) = some (.ptr 0 0 0) := by rw [hA]; rfl
 have l0 : ae false 1 A (.ptr 0 0 0) = some chv := by rw [hA]; rfl
 obtain ⟨⟨tm, sy⟩, hc⟩ : ∃ c, c = T.ch[i] := ⟨_, rfl⟩
 have x1 := hcv.index (A := A) (i := i) (x := chA T.ch[i]) (by simp [hi]) rfl (by omega) .i64
 rw [<- hc] at x1 ⊢
 rw [<- hA]
 have x1 : ab 2 A chv (.int .i64 (i : Int)) = some (.fp [.int .i64 tm, .int .i64 sy]) := x1
 have bx : aV 2 (.agg [.int .i64 0, .int .i64 0]) A = some (.ptr A.length 0 0, A ++ [.row 2 false [.agg [.int .i64 0, .int .i64 0]]]) := rfl
 have st : aw 2 (A ++ [.row 2 false [.agg [.int .i64 0, .int .i64 0]]]) (.ptr A.length 0 0) (.agg [.int .i64 tm, .int .i64 sy]) = some (A ++ [.row 2 false [.agg [.int .i64 tm, .int .i64 sy]]]) := by simp [aw, aJ]
 have g0 : aa 0 (A ++ [.row 2 false [.agg [.int .i64 tm, .int .i64 sy]]]) (.ptr A.length 0 0) = some (.ptr A.length 0 0) := gM (es := [.int .i64 tm, .int .i64 sy]) (k := 2) rfl (by omega)
 have g1 : aa 1 (A ++ [.row 2 false [.agg [.int .i64 tm, .int .i64 sy]]]) (.ptr A.length 0 0) = some (.ptr A.length 0 1) := gM (es := [.int .i64 tm, .int .i64 sy]) (k := 2) rfl (by omega)
 have d0 : ae false 1 (A ++ [.row 2 false [.agg [.int .i64 tm, .int .i64 sy]]]) (.ptr A.length 0 0) = some (.int .i64 tm) := gD (es := [.int .i64 tm, .int .i64 sy]) (k := 2) rfl rfl
 have d1 : ae false 1 (A ++ [.row 2 false [.agg [.int .i64 tm, .int .i64 sy]]]) (.ptr A.length 0 1) = some (.int .i64 sy) := gD (es := [.int .i64 tm, .int .i64 sy]) (k := 2) rfl rfl
 have b0 := bc i T.ch.length .i64
 rw [decide_eq_true hi] at b0
 have b1 := aK i (by omega)
 have c1 := ed tm 0
 have c2 := f8 tm 100000
 have c3 := ed sy 0
 have c4 := f8 sy 100000
 refine ⟨.ptr A.length 0 0, .bool true, ?_⟩
 rw [show (.row 2 false [chA (tm, sy)] : Ent) = .row 2 false [.agg [.int .i64 tm, .int .i64 sy]] from rfl]
 obtain ⟨N, hN⟩ : ∃ n, n = A.length := ⟨_, rfl⟩
 rw [<- hN] at bx st g0 g1 d0 d1 ⊢
 obtain ⟨A1, hA1⟩ : ∃ X, X = A ++ [Ent.row 2 false [.agg [.int .i64 tm, .int .i64 sy]]] := ⟨_, rfl⟩
 rw [<- hA1] at st g0 g1 d0 d1 ⊢
 obtain ⟨i1, hi1⟩ : ∃ n, n = i + 1 := ⟨_, rfl⟩
 rw [<- hi1] at b1 ⊢
 by_cases h1 : tm < 0
 ·rw [decide_eq_true h1] at c1
  rw [if_neg (fun h => by unfold l8 at h; simp only at h; omega)]
  simp [cv, f0, l0, x1, bx, st, g0, d0, b0, c1, -af, -ae, -aw, -aa, -ab, -aV]
 rw [decide_eq_false h1] at c1
 by_cases h2 : tm > 100000
 ·rw [decide_eq_true h2] at c2
  rw [if_neg (fun h => by unfold l8 at h; simp only at h; omega)]
  simp [cv, f0, l0, x1, bx, st, g0, d0, b0, c1, c2, -af, -ae, -aw, -aa, -ab, -aV]
 rw [decide_eq_false h2] at c2
 by_cases h3 : sy < 0
 ·rw [decide_eq_true h3] at c3
  rw [if_neg (fun h => by unfold l8 at h; simp only at h; omega)]
  simp [cv, f0, l0, x1, bx, st, g0, g1, d0, d1, b0, c1, c2, c3, -af, -ae, -aw, -aa, -ab, -aV]
 rw [decide_eq_false h3] at c3
 by_cases h4 : sy > 100000
 ·rw [decide_eq_true h4] at c4
  rw [if_neg (fun h => by unfold l8 at h; simp only at h; omega)]
  simp [cv, f0, l0, x1, bx, st, g0, g1, d0, d1, b0, c1, c2, c3, c4, -af, -ae, -aw, -aa, -ab, -aV]
 rw [decide_eq_false h4] at c4
 rw [if_pos (by unfold l8; simp only; omega)]
 simp [cv, f0, l0, x1, bx, st, g0, g1, d0, d1, b0, b1, c1, c2, c3, c4, -af, -ae, -aw, -aa, -ab, -aV]
def r8 (v : Int) : Bool := decide (0 <= v) && decide (v <= 10000)
theorem tj {A : ac} {r : Nat} {l : List Int} (hr : A[r]? = some (.row 1 false (ag l))) (hl : l.length = 3) {i : Nat} (hi : i < 3) :
  run (au GC []) 300 [.code i4] (kP (.sl r 0 3) (.int .i64 3) (.int .i64 (i : Int))) A =
   if r8 (l.getD i 0) = true then some (.normal (kP (.sl r 0 3) (.int .i64 3) (.int .i64 ((i + 1 : Nat) : Int))) A)
   else some (.ret [.undef, .undef, .bool false, .undef, .undef, .undef, .int .i64 (l.getD i 0), .undef, .undef, .undef, .sl r 0 3, .int .i64 3, .int .i64 (i : Int), .bool true, .bool true] A) := by
 have ix : ab 1 A (.sl r 0 3) (.int .i64 (i : Int)) = some (.ptr r i 0) := by simp [ab, hr]; omega
 have la : ae false 1 A (.ptr r i 0) = some (.int .i64 (l.getD i 0)) := by
  have : i < l.length := by omega
  simp [ae, hr, ag, this]
 obtain ⟨v, hv⟩ : ∃ v, v = l.getD i 0 := ⟨_, rfl⟩
 rw [<- hv] at la ⊢
 have b0 : af .lss (.int .i64 (i : Int)) (.int .i64 3) = some (.bool true) := by rw [ed, decide_eq_true (by omega)]
 have b1 := aK i (by omega)
 have c1 := ed v 0
 have c2 := f8 v 10000
 obtain ⟨i1, hi1⟩ : ∃ n, n = i + 1 := ⟨_, rfl⟩
 rw [<- hi1] at b1 ⊢
 by_cases h1 : v < 0
 ·rw [decide_eq_true h1] at c1
  rw [if_neg (by unfold r8; simp; omega)]
  simp [i4, ix, la, b0, c1, -af, -ae, -ab]
 rw [decide_eq_false h1] at c1
 by_cases h2 : v > 10000
 ·rw [decide_eq_true h2] at c2
  rw [if_neg (by unfold r8; simp; omega)]
  simp [i4, ix, la, b0, c1, c2, -af, -ae, -ab]
 rw [decide_eq_false h2] at c2
 rw [if_pos (by unfold r8; simp; omega)]
 simp [i4, ix, la, b0, b1, c1, c2, -af, -ae, -ab]
theorem Cn {A : ac} {r : Nat} {a b c : Int} (hr : A[r]? = some (.row 1 false (ag [a, b, c]))) :
  ∃ o, bg (evC (au GC []) 300 i4) jR 300 (kP (.sl r 0 3) (.int .i64 3) (.int .i64 0)) A = some o /\
   (if r8 a && r8 b && r8 c then o = .exit 2 ((kP (.sl r 0 3) (.int .i64 3) (.int .i64 3)).set 13 (.bool false)) A else ∃ σ, o = .ret σ A /\ σ[2]? = some (.bool false)) := by
 rcases bz (E := au GC []) (fuel := 300) (a := i4) (mask := jR) (fun i => kP (.sl r 0 3) (.int .i64 3) (.int .i64 (i : Int))) (fun _ => A) 3 (fun i => r8 ([a, b, c].getD i 0) ≠ true)
  (oF := fun i => .ret [.undef, .undef, .bool false, .undef, .undef, .undef, .int .i64 ([a, b, c].getD i 0), .undef, .undef, .undef, .sl r 0 3, .int .i64 3, .int .i64 (i : Int), .bool true, .bool true] A) (oE := .exit 2 ((kP (.sl r 0 3) (.int .i64 3) (.int .i64 3)).set 13 (.bool false)) A)
  (fun _ => AN) (fun _ _ _ h => by cases h) (fun _ _ h => by cases h)
  (fun i hi hp => by
   rw [tj hr rfl hi]
   exact if_pos (Classical.not_not.1 hp))
  (fun i hi hp => by
   rw [tj hr rfl hi]
   exact if_neg hp)
  (by simp [i4]) (show 3 < 300 by omega) with ⟨i, hi, hp, hj, lp⟩ | ⟨hp, lp⟩
 ·refine ⟨_, lp, ?_⟩
  have : i = 0 \/ i = 1 \/ i = 2 := by omega
  rw [if_neg]
  ·exact ⟨_, rfl, rfl⟩
  ·intro h
   simp only [Bool.and_eq_true] at h
   rcases this with rfl | rfl | rfl
   ·exact hp h.1.1
   ·exact hp h.1.2
   ·exact hp h.2
 ·refine ⟨_, lp, ?_⟩
  rw [if_pos]
  ·have h0 := Classical.not_not.1 (hp 0 (by omega))
   have h1 := Classical.not_not.1 (hp 1 (by omega))
   have h2 := Classical.not_not.1 (hp 2 (by omega))
   simp only [Bool.and_eq_true]
   exact ⟨⟨h0, h1⟩, h2⟩
theorem E2 {T : bD} {chv : AV} (hcv : SlA 2 (T.ch.map chA) chv) (hl : T.ch.length <= 200) : M17 [aD T chv] = some (.bool (decide (ez T))) := by
 have hlen := hcv.len
 rw [List.length_map] at hlen
 have bx0 : aV 5 (aD T chv) [] = some (.ptr 0 0 0, B17 T chv 0) := rfl
 have ct : (cellsOf (aD T chv)).length = 5 := rfl
 have fA : ∀ i j, j < 5 -> aa j (B17 T chv i) (.ptr 0 0 0) = some (.ptr 0 0 j) := fun i j hj => by simp [aa, B17, hj]
 have l0 : ∀ i, ae false 1 (B17 T chv i) (.ptr 0 0 0) = some chv := fun i => rfl
 have l1 : ∀ i, ae false 1 (B17 T chv i) (.ptr 0 0 1) = some (.int .i64 T.pick) := fun i => rfl
 have l2 : ∀ i, ae false 1 (B17 T chv i) (.ptr 0 0 2) = some (.int .i64 T.place) := fun i => rfl
 have l3 : ∀ i, ae false 1 (B17 T chv i) (.ptr 0 0 3) = some (.int .i64 T.travel) := fun i => rfl
 have l4 : ∀ i, ae false 1 (B17 T chv i) (.ptr 0 0 4) = some (.int .i64 T.blades) := fun i => rfl
 have c1 := ed (T.ch.length : Int) 1
 have c2 := f8 (T.ch.length : Int) 4
 have c3 := ed T.blades 1
 have c4 := f8 T.blades 2
 obtain ⟨B0, hB0⟩ : ∃ B, B = B17 T chv 0 := ⟨_, rfl⟩
 have fA0 := fun j hj => fA 0 j hj
 have l00 := l0 0
 have l40 := l4 0
 simp only [<- hB0] at fA0
 unfold M17
 rw [aN _ _ rfl]
 by_cases h1 : (T.ch.length : Int) < 1
 ·rw [decide_eq_true h1] at c1
  rw [decide_eq_false (fun h => by have := h.2.2.1; omega)]
  rw [<- hB0] at bx0 l00 l40
  obtain ⟨t, ht⟩ : ∃ t, t = aD T chv := ⟨_, rfl⟩
  rw [<- ht] at bx0 ct ⊢
  simp [rt, bx0, ct, fA0, l00, hlen, c1, aZ, -af, -ae, -aa, -aV, -aj, -frz, -cellsOf]
 rw [decide_eq_false h1] at c1
 by_cases h2 : (T.ch.length : Int) > 4
 ·rw [decide_eq_true h2] at c2
  rw [decide_eq_false (fun h => by have := h.2.2.2.1; omega)]
  rw [<- hB0] at bx0 l00 l40
  obtain ⟨t, ht⟩ : ∃ t, t = aD T chv := ⟨_, rfl⟩
  rw [<- ht] at bx0 ct ⊢
  simp [rt, bx0, ct, fA0, l00, hlen, c1, c2, aZ, -af, -ae, -aa, -aV, -aj, -frz, -cellsOf]
 rw [decide_eq_false h2] at c2
 by_cases h3 : T.blades < 1
 ·rw [decide_eq_true h3] at c3
  rw [decide_eq_false (fun h => by have := h.2.2.2.2; omega)]
  rw [<- hB0] at bx0 l00 l40
  obtain ⟨t, ht⟩ : ∃ t, t = aD T chv := ⟨_, rfl⟩
  rw [<- ht] at bx0 ct ⊢
  simp [rt, bx0, ct, fA0, l00, l40, hlen, c1, c2, c3, aZ, -af, -ae, -aa, -aV, -aj, -frz, -cellsOf]
 rw [decide_eq_false h3] at c3
 by_cases h4 : T.blades > 2
 ·rw [decide_eq_true h4] at c4
  rw [decide_eq_false (fun h => by have := h.2.2.2.2; omega)]
  rw [<- hB0] at bx0 l00 l40
  obtain ⟨t, ht⟩ : ∃ t, t = aD T chv := ⟨_, rfl⟩
  rw [<- ht] at bx0 ct ⊢
  simp [rt, bx0, ct, fA0, l00, l40, hlen, c1, c2, c3, c4, aZ, -af, -ae, -aa, -aV, -aj, -frz, -cellsOf]
 rw [decide_eq_false h4] at c4
 have hn4 : T.ch.length <= 4 := by omega
 have e := bc T.ch.length T.ch.length .i64
 rw [decide_eq_false (by omega)] at e
 have ha : (∃ (i : Nat) (hi : i < T.ch.length) (d5 d9 : AV), ¬ l8 T.ch[i] /\ bg (evC (au GC []) 300 cv) cX 300 (dL (.ptr 0 0 0) (.int .i64 (T.ch.length : Int)) (.int .i64 0)) (B17 T chv 0) = some (.ret [.undef, .ptr 0 0 0, .bool false, .int .i64 (T.ch.length : Int), .int .i64 (i : Int), d5, .undef, .undef, .bool true, d9, .undef, .undef, .undef, .undef, .undef] (B17 T chv (i + 1)))) \/
   ((∀ i (hi : i < T.ch.length), l8 T.ch[i]) /\ bg (evC (au GC []) 300 cv) cX 300 (dL (.ptr 0 0 0) (.int .i64 (T.ch.length : Int)) (.int .i64 0)) (B17 T chv 0) = some (.exit 0 ((dL (.ptr 0 0 0) (.int .i64 (T.ch.length : Int)) (.int .i64 (T.ch.length : Int))).set 8 (.bool false)) (B17 T chv T.ch.length))) := by
  have key : ∀ (c i m : Nat), i + c = T.ch.length -> (∀ j (hj : j < T.ch.length), j < i -> l8 T.ch[j]) -> c < m -> (∃ (i' : Nat) (hi : i' < T.ch.length) (d5 d9 : AV), ¬ l8 T.ch[i'] /\ bg (evC (au GC []) 300 cv) cX m (dL (.ptr 0 0 0) (.int .i64 (T.ch.length : Int)) (.int .i64 (i : Int))) (B17 T chv i) = some (.ret [.undef, .ptr 0 0 0, .bool false, .int .i64 (T.ch.length : Int), .int .i64 (i' : Int), d5, .undef, .undef, .bool true, d9, .undef, .undef, .undef, .undef, .undef] (B17 T chv (i' + 1)))) \/
   ((∀ i (hi : i < T.ch.length), l8 T.ch[i]) /\ bg (evC (au GC []) 300 cv) cX m (dL (.ptr 0 0 0) (.int .i64 (T.ch.length : Int)) (.int .i64 (i : Int))) (B17 T chv i) = some (.exit 0 ((dL (.ptr 0 0 0) (.int .i64 (T.ch.length : Int)) (.int .i64 (T.ch.length : Int))).set 8 (.bool false)) (B17 T chv T.ch.length))) := by
   intro c
   induction c with
   | zero =>
    intro i m hi hok hm
    obtain ⟨m, rfl⟩ : ∃ j, m = j + 1 := ⟨m - 1, by omega⟩
    obtain rfl : i = T.ch.length := by omega
    right
    refine ⟨fun j hj => hok j hj hj, ?_⟩
    rw [aQ, nP]
    simp [cv, e, -af]
   | succ c ih =>
    intro i m hi hok hm
    obtain ⟨m, rfl⟩ : ∃ j, m = j + 1 := ⟨m - 1, by omega⟩
    have hil : i < T.ch.length := by omega
    obtain ⟨d5, d9, hr⟩ := yG hcv hn4 hil
    by_cases hc : l8 T.ch[i]
    ·rw [if_pos hc] at hr
     have := ih (i + 1) m (by omega) (fun j hj hji => by
      by_cases e : j = i
      ·subst e; exact hc
      ·exact hok j hj (by omega)) (by omega)
     rw [aQ, nP, hr]
     exact this
    ·rw [if_neg hc] at hr
     left
     refine ⟨i, hil, d5, d9, hc, ?_⟩
     rw [aQ, nP, hr]
  exact key T.ch.length 0 300 (by omega) (fun j hj h => by omega) (by omega)
 rcases ha with ⟨i, hi, d5, d9, hbad, lp⟩ | ⟨hok, lp⟩
 ·rw [decide_eq_false (fun h => hbad (h.1 _ (List.getElem_mem hi)))]
  rw [<- hB0] at bx0 l00 l40 lp
  obtain ⟨t, ht⟩ : ∃ t, t = aD T chv := ⟨_, rfl⟩
  rw [<- ht] at bx0 ct ⊢
  simp [rt, bx0, ct, fA0, l00, l40, hlen, c1, c2, c3, c4, o7 lp, aZ, -af, -ae, -aa, -aV, -aj, -frz, -cellsOf]
 ·obtain ⟨Bn, hBn⟩ : ∃ B, B = B17 T chv T.ch.length := ⟨_, rfl⟩
  have fAn := fun j hj => fA T.ch.length j hj
  have l1n := l1 T.ch.length
  have l2n := l2 T.ch.length
  have l3n := l3 T.ch.length
  simp only [<- hBn] at fAn
  rw [<- hBn] at l1n l2n l3n lp
  have bs : aC 1 [.int .i64 T.pick, .int .i64 T.place, .int .i64 T.travel] Bn = some (.sl Bn.length 0 3, Bn ++ [.row 1 false (ag [T.pick, T.place, T.travel])]) := rfl
  have lr : ∀ r, aj (.sl r 0 3) = some (.int .i64 3) := fun r => rfl
  obtain ⟨ob, lb, ho⟩ := Cn (A := Bn ++ [.row 1 false (ag [T.pick, T.place, T.travel])]) (r := Bn.length) (a := T.pick) (b := T.place) (c := T.travel) (by simp)
  have hv : decide (ez T) = (r8 T.pick && r8 T.place && r8 T.travel) := by
   rw [Bool.eq_iff_iff, decide_eq_true_eq]
   unfold ez r8
   simp only [Bool.and_eq_true, decide_eq_true_eq]
   constructor
   ·rintro ⟨_, ⟨a, b, c⟩, _⟩
    exact ⟨⟨a, b⟩, c⟩
   ·rintro ⟨⟨a, b⟩, c⟩
    refine ⟨fun x hx => ?_, ⟨a, b, c⟩, by omega, by omega, by omega⟩
    obtain ⟨i, hi, rfl⟩ := List.mem_iff_getElem.1 hx
    exact hok i hi
  rw [hv]
  obtain ⟨B1, hB1⟩ : ∃ B, B = Bn ++ [Ent.row 1 false (ag [T.pick, T.place, T.travel])] := ⟨_, rfl⟩
  obtain ⟨r, hr⟩ : ∃ r, r = Bn.length := ⟨_, rfl⟩
  rw [<- hB1, <- hr] at bs lb
  rw [<- hB1] at ho
  obtain ⟨d, hd⟩ : ∃ d, d = (r8 T.pick && r8 T.place && r8 T.travel) := ⟨_, rfl⟩
  rw [<- hd] at ho ⊢
  rw [<- hB0] at bx0 l00 l40 lp
  obtain ⟨t, ht⟩ : ∃ t, t = aD T chv := ⟨_, rfl⟩
  rw [<- ht] at bx0 ct ⊢
  cases d with
  | true =>
   rw [if_pos rfl] at ho
   subst ho
   simp [rt, bx0, ct, fA0, fAn, l00, l40, l1n, l2n, l3n, hlen, c1, c2, c3, c4, o7 lp, bs, lr, Ap lb, aZ, -af, -ae, -aa, -aV, -aj, -aC, -frz, -cellsOf]
  | false =>
   rw [if_neg (by simp)] at ho
   obtain ⟨σ, rfl, hσ⟩ := ho
   have hσ : σ[2]?.getD .undef = .bool false := by rw [hσ]; rfl
   simp [rt, bx0, ct, fA0, fAn, l00, l40, l1n, l2n, l3n, hlen, c1, c2, c3, c4, o7 lp, bs, lr, Ap lb, hσ, aZ, -af, -ae, -aa, -aV, -aj, -aC, -frz, -cellsOf]
def rz (A : ac) (v : AV) (pl : List (Nat × List Int)) : Prop :=
 (∀ x ∈ pl, x.2 ≠ [] /\ A[x.1]? = some (.row 1 false (ag x.2))) /\ ((v = .nilS /\ pl = []) \/ ∃ id gr, v = .sl id 0 pl.length /\ pl ≠ [] /\ A[id]? = some (.row 1 gr (pl.map pE)))
theorem rz.app {A : ac} {v : AV} {pl : List (Nat × List Int)} (h : rz A v pl) (X : ac) : rz (A ++ X) v pl := by
 have hk : ∀ (j : Nat) (e : Ent), A[j]? = some e -> (A ++ X)[j]? = some e := fun j e h => by
  rw [List.getElem?_append_left (List.getElem?_eq_some_iff.1 h).1]; exact h
 refine ⟨fun x hx => ⟨(h.1 x hx).1, hk _ _ (h.1 x hx).2⟩, ?_⟩
 rcases h.2 with h4 | ⟨id, gr, h4, h5, h6⟩
 ·exact .inl h4
 ·exact .inr ⟨id, gr, h4, h5, hk _ _ h6⟩
theorem rz.add {A : ac} {v : AV} {pl : List (Nat × List Int)} (h : rz A v pl) {l : List Int} (hl : l ≠ []) (hb : pl.length <= 100000) {r y : Nat} (hr : A[r]? = some (.row 1 false (ag l))) (hy : A[y]? = some (.row 1 false [.sl r 0 l.length])) :
  ∃ v' A', aH 1 24 A v (.sl y 0 1) = some (v', A') /\ rz A' v' (pl ++ [(r, l)]) /\ f9 A A' := by
 obtain ⟨h3, h4⟩ := h
 have hsrc : aU 1 A (.sl y 0 1) = some [.sl r 0 l.length] := by simp [aU, hy]
 rcases h4 with ⟨rfl, rfl⟩ | ⟨id, gr, rfl, hpl, hrow⟩
 ·refine ⟨.sl A.length 0 1, A ++ [.row 1 false [.sl r 0 l.length]], ?_, ⟨fun x hx => ?_, .inr ⟨A.length, false, by simp, by simp, by simp [pE]⟩⟩, f9.app _ _⟩
  ·unfold aH; rw [hsrc]; simp
  ·simp only [List.nil_append, List.mem_singleton] at hx
   subst hx
   exact ⟨hl, by rw [List.getElem?_append_left (List.getElem?_eq_some_iff.1 hr).1]; exact hr⟩
 ·have hidl : id < A.length := (List.getElem?_eq_some_iff.1 hrow).1
  have hlen : 0 < pl.length := List.length_pos_iff.2 hpl
  have hnp2 : ¬ gS (.row 1 gr (pl.map pE)) := by
   cases pl with
   | nil => exact absurd rfl hpl
   | cons x r => exact gU _ _ _ _ _ _
  have hnid : ∀ j (m : List Int), m ≠ [] -> A[j]? = some (.row 1 false (ag m)) -> j ≠ id := fun j m hm hj e => by
   subst e
   rw [hrow] at hj
   injection hj with hj
   exact hnp2 (hj ▸ fK hm 1 false)
  refine ⟨.sl id 0 (pl.length + 1), A.set id (.row 1 true (pl.map pE ++ [.sl r 0 l.length])), ?_, ⟨fun x hx => ?_, .inr ⟨id, true, by simp, by simp, ?_⟩⟩, by simp, fun j e hj he => ?_⟩
  ·have hz : pl.length ≠ 0 := by omega
   have hb2 : (pl.length + 1) * 24 <= 140737488355328 := by omega
   unfold aH; rw [hsrc]; simp [hrow, hz, hb2]
  ·rcases List.mem_append.1 hx with hx | hx
   ·have := h3 x hx
    exact ⟨this.1, by rw [List.getElem?_set_ne (fun e => hnid _ _ this.1 this.2 e.symm)]; exact this.2⟩
   ·rw [List.mem_singleton] at hx
    subst hx
    exact ⟨hl, by rw [List.getElem?_set_ne (fun e => hnid _ _ hl hr e.symm)]; exact hr⟩
  ·rw [List.getElem?_set_self hidl, List.map_append]; rfl
  ·have n2 : j ≠ id := fun e' => by
    subst e'; rw [hrow] at hj; injection hj with hj; exact hnp2 (hj ▸ he)
   rw [List.getElem?_set_ne (fun e => n2 e.symm)]
   exact hj
def HB (A : ac) (bv : AV) (b : List Int) : Prop := b ≠ [] /\ (bv = .fs 1 (ag b) \/ ∃ id gr, bv = .sl id 0 b.length /\ A[id]? = some (.row 1 gr (ag b)))
theorem HB.step {A B : ac} {bv : AV} {b : List Int} (h : HB A bv b) (s : f9 A B) : HB B bv b := by
 refine ⟨h.1, ?_⟩
 rcases h.2 with h2 | ⟨id, gr, h2, h3⟩
 ·exact .inl h2
 ·exact .inr ⟨id, gr, h2, s.2 _ _ h3 (fK h.1 1 gr)⟩
theorem HB.len {A : ac} {bv : AV} {b : List Int} (h : HB A bv b) : aj bv = some (.int .i64 (b.length : Int)) := by
 rcases h.2 with rfl | ⟨id, gr, rfl, h3⟩
 ·simp [aj, ag]
 ·rfl
theorem HB.src {A : ac} {bv : AV} {b : List Int} (h : HB A bv b) : aU 1 A bv = some (ag b) := by
 rcases h.2 with rfl | ⟨id, gr, rfl, h3⟩
 ·simp
 ·rw [mK h3, <- aA b, List.drop_zero, List.take_length]
theorem HB.at {A : ac} {bv : AV} {b : List Int} (h : HB A bv b) {i : Nat} (hi : i < b.length) : ∃ p, ab 1 A bv (.int .i64 (i : Int)) = some p /\ ae false 1 A p = some (.int .i64 b[i]) := by
 rcases h.2 with rfl | ⟨id, gr, rfl, h3⟩
 ·exact ⟨.fp [.int .i64 b[i]], (show SlA 1 (ag b) (.fs 1 (ag b)) from Or.inr rfl).int (A := A) _ _ (List.getElem?_eq_getElem hi) .i64, rfl⟩
 ·refine ⟨.ptr id i 0, by simp [ab, h3, hi], ?_⟩
  simp [ae, h3, ag, hi]
theorem D7 {A : ac} {bv : AV} {b : List Int} (h : HB A bv b) (hl : b.length <= 1000) : aC 1 [] A = some (.sl A.length 0 0, A ++ [.row 1 false []]) /\ aH 1 8 (A ++ [.row 1 false []]) (.sl A.length 0 0) bv = some (.sl (A.length + 1) 0 b.length, A ++ [.dead, .row 1 false (ag b)]) := by
 refine ⟨rfl, ?_⟩
 have hs := (h.step (f9.app A [.row 1 false []])).src
 have e : (ag b).length = b.length := aA b
 have hb : b.length * 8 <= 140737488355328 := by omega
 have hset : (A ++ [Ent.row 1 false []]).set A.length .dead = A ++ [.dead] := by
  rw [List.set_append_right _ _ (Nat.le_refl _), Nat.sub_self]; rfl
 simp only [aH, hs]
 rw [List.getElem?_concat_length]
 simp only [e]
 rw [if_pos ⟨trivial, by omega, by omega, by omega⟩, if_neg (by omega), hset]
 simp
def H37 : Nat -> aL
 | 0 => fun h => cu (eS GC [] h) 300 pK
 | k + 1 => fun h => cu (eS GC [(37, H37 k)] h) 300 pK
theorem qp : ∀ k, an Try.prog GC 37 (H37 k)
 | 0 => dF az FD tV
 | k + 1 => dF (ak (qp k) az) FD tV
theorem z4 (fs : List (FuncId × aL)) (h : bb) {A : ac} {n : Nat} {v bv : AV} {b : List Int} {pl : List (Nat × List Int)} (hB : HB A bv b) (ho : rz A v pl) (hlen : b.length = n + 1) (hn4 : n <= 4) (hll : pl.length <= 100000) :
  ∃ v' B r, cu (eS GC fs h) 300 pK [.int .i64 (n : Int), bv, v] A = some (v', B) /\ rz B v' (pl ++ [(r, b)]) /\ f9 A B := by
 have hl := hB.len
 obtain ⟨c1, c2⟩ := D7 hB (by omega)
 have b1 := aK n (by omega)
 have b2 : af .eql (.int .i64 (b.length : Int)) (.int .i64 ((n + 1 : Nat) : Int)) = some (.bool true) := by rw [ce, decide_eq_true (by omega)]
 obtain ⟨A1, hA1⟩ : ∃ X, X = A ++ [Ent.dead, .row 1 false (ag b)] := ⟨_, rfl⟩
 have hl1 : A1.length = A.length + 2 := by rw [hA1]; simp
 have c3 : aC 1 [.sl (A.length + 1) 0 b.length] A1 = some (.sl (A.length + 2) 0 1, A1 ++ [.row 1 false [.sl (A.length + 1) 0 b.length]]) := by
  simp [aC, hl1]
 obtain ⟨v', B, k1, k2, k3⟩ := ((ho.app [.dead, .row 1 false (ag b)]).app [.row 1 false [.sl (A.length + 1) 0 b.length]]).add hB.1 hll (r := A.length + 1) (y := A.length + 2) (by
   rw [List.append_assoc, List.getElem?_append_right (by omega)]; simp) (by
   rw [List.getElem?_append_right (by simp)]; simp)
 rw [<- hA1] at k1 k3 c2
 refine ⟨v', B, A.length + 1, ?_, k2, ((f9.app A _).trans (by rw [<- hA1]; exact f9.app A1 _)).trans k3⟩
 obtain ⟨A2, hA2⟩ : ∃ X, X = A1 ++ [Ent.row 1 false [.sl (A.length + 1) 0 b.length]] := ⟨_, rfl⟩
 rw [<- hA2] at c3 k1
 obtain ⟨A3, hA3⟩ : ∃ X, X = A ++ [Ent.row 1 false []] := ⟨_, rfl⟩
 rw [<- hA3] at c1 c2
 rw [bU _ _ rfl]
 obtain ⟨r0, hr0⟩ : ∃ x, x = A.length := ⟨_, rfl⟩
 rw [<- hr0] at c1 c2 c3 k1
 obtain ⟨r1, hr1⟩ : ∃ x, x = r0 + 1 := ⟨_, rfl⟩
 rw [<- hr1] at c2 c3
 obtain ⟨r2, hr2⟩ : ∃ x, x = r0 + 2 := ⟨_, rfl⟩
 rw [<- hr2] at c3 k1
 obtain ⟨n1, hn1⟩ : ∃ x, x = n + 1 := ⟨_, rfl⟩
 rw [<- hn1] at b1 b2
 obtain ⟨bl, hbl⟩ : ∃ x, x = b.length := ⟨_, rfl⟩
 rw [<- hbl] at hl c2 c3 b2
 simp [pK, hl, b1, b2, c1, c2, c3, k1, -af, -aj, -aC]
theorem in37 (fs : List (FuncId × aL)) (h : bb) {A : ac} {bv v0 v2 : AV} {b : List Int} (hB : HB A bv b) (hb : b.length <= 5) (i : Nat) : ∀ (c j m : Nat), j + c = b.length -> c < m ->
  bg (evC (eS GC fs h) 300 eL) ek m (fJ v0 bv v2 (.int .i64 (i : Int)) (.bool (decide ((i : Int) ∈ b.take j))) (.int .i64 (j : Int))) A = some (.exit 2 ((fJ v0 bv v2 (.int .i64 (i : Int)) (.bool (decide ((i : Int) ∈ b))) (.int .i64 (b.length : Int))).set 9 (.bool false)) A) := by
 have hl := hB.len
 intro c
 induction c with
 | zero =>
  intro j m hj hm
  obtain ⟨m, rfl⟩ : ∃ k, m = k + 1 := ⟨m - 1, by omega⟩
  obtain rfl : j = b.length := by omega
  rw [List.take_length]
  have b0 : af .lss (.int .i64 (b.length : Int)) (.int .i64 (b.length : Int)) = some (.bool false) := by rw [ed, decide_eq_false (by omega)]
  rw [aQ, pg]
  simp [eL, hl, b0, -af, -aj]
 | succ c ih =>
  intro j m hj hm
  obtain ⟨m, rfl⟩ : ∃ k, m = k + 1 := ⟨m - 1, by omega⟩
  have hjl : j < b.length := by omega
  obtain ⟨p, p1, p2⟩ := hB.at hjl
  have b0 : af .lss (.int .i64 (j : Int)) (.int .i64 (b.length : Int)) = some (.bool true) := by rw [ed, decide_eq_true (by omega)]
  have b1 : af .eql (.int .i64 b[j]) (.int .i64 (i : Int)) = some (.bool (decide (b[j] = (i : Int)))) := ce _ _
  have b3 := aK j (by omega)
  have e : decide ((i : Int) ∈ b.take (j + 1)) = (decide ((i : Int) ∈ b.take j) || decide (b[j] = (i : Int))) := by
   have : (i : Int) ∈ b.take (j + 1) ↔ ((i : Int) ∈ b.take j \/ b[j] = (i : Int)) := by
    rw [List.take_succ_eq_append_getElem hjl, List.mem_append, List.mem_singleton]
    exact or_congr Iff.rfl eq_comm
   rw [decide_eq_decide.2 this, Bool.decide_or]
  have := ih (j + 1) m (by omega) (by omega)
  rw [e] at this
  rw [aQ, pg]
  obtain ⟨j1, hj1⟩ : ∃ j1 : Nat, j1 = j + 1 := ⟨_, rfl⟩
  rw [<- hj1] at b3 this
  obtain ⟨d1, h1⟩ : ∃ d, d = decide ((i : Int) ∈ b.take j) := ⟨_, rfl⟩
  rw [<- h1] at this ⊢
  obtain ⟨d2, h2⟩ : ∃ d, d = decide (b[j] = (i : Int)) := ⟨_, rfl⟩
  rw [<- h2] at b1 this
  obtain ⟨x, hx⟩ : ∃ x, x = b[j] := ⟨_, rfl⟩
  rw [<- hx] at p2 b1
  obtain ⟨bl, hbl⟩ : ∃ x, x = b.length := ⟨_, rfl⟩
  rw [<- hbl] at b0 hl this ⊢
  cases d1 with
  | true => simpa [eL, hl, b0, b3, -af, -aj] using this
  | false => simpa [eL, hl, b0, b1, b3, p1, p2, -af, -aj, -ab, -ae] using this
theorem FN {A : ac} {b : List Int} (hb0 : b ≠ []) (hl : b.length <= 1000) (i : Int) : aC 1 [.int .i64 i] (A ++ [.dead, .row 1 false (ag b)]) = some (.sl (A.length + 2) 0 1, A ++ [.dead, .row 1 false (ag b), .row 1 false [.int .i64 i]]) /\
  aH 1 8 (A ++ [.dead, .row 1 false (ag b), .row 1 false [.int .i64 i]]) (.sl (A.length + 1) 0 b.length) (.sl (A.length + 2) 0 1) = some (.sl (A.length + 1) 0 (b.length + 1), A ++ [.dead, .row 1 true (ag (b ++ [i])), .row 1 false [.int .i64 i]]) := by
 refine ⟨by simp [aC], ?_⟩
 obtain ⟨A2, hA2⟩ : ∃ X, X = A ++ [.dead, .row 1 false (ag b), .row 1 false [.int .i64 i]] := ⟨_, rfl⟩
 rw [<- hA2]
 have g1 : A2[A.length + 1]? = some (.row 1 false (ag b)) := by rw [hA2, List.getElem?_append_right (by omega)]; simp
 have g2 : A2[A.length + 2]? = some (.row 1 false [.int .i64 i]) := by rw [hA2, List.getElem?_append_right (by omega)]; simp
 have hsrc : aU 1 A2 (.sl (A.length + 2) 0 1) = some [.int .i64 i] := by simp [aU, g2]
 have hlen : 0 < b.length := List.length_pos_iff.2 hb0
 have hz : b.length ≠ 0 := by omega
 have hb2 : (b.length + 1) * 8 <= 140737488355328 := by omega
 have hne : ag b ≠ [] := by unfold ag; simpa using hb0
 have hil := aA b
 have hset : A2.set (A.length + 1) (.row 1 true (ag b ++ [.int .i64 i])) = A ++ [.dead, .row 1 true (ag (b ++ [i])), .row 1 false [.int .i64 i]] := by
  rw [hA2, List.set_append_right _ _ (by omega), show A.length + 1 - A.length = 1 by omega]
  simp [ag]
 unfold aH
 rw [hsrc]
 simp [g1, hz, hb2, hil, hset]
theorem rY {h : bb} {fs : List (FuncId × aL)} {H : aL} (hH : aB fs 37 = some H) {A : ac} {n : Nat} {v bv : AV} {b : List Int} (hB : HB A bv b) (hbn : b.length <= 5) {i : Nat} (hi : i <= n) (hn4 : n <= 4) {v' : AV} {B : ac}
  (hr : (i : Int) ∉ b -> H h [.int .i64 (n : Int), .sl (A.length + 1) 0 (b.length + 1), v] (A ++ [.dead, .row 1 true (ag (b ++ [(i : Int)])), .row 1 false [.int .i64 (i : Int)]]) = some (v', B))
  (hr0 : (i : Int) ∈ b -> B = A /\ v' = v) :
  run (eS GC fs h) 300 [.code jW] (mG (.int .i64 (n : Int)) bv v (.int .i64 (i : Int))) A = some (.normal (mG (.int .i64 (n : Int)) bv v' (.int .i64 ((i + 1 : Nat) : Int))) B) := by
 have b0 : af .leq (.int .i64 (i : Int)) (.int .i64 (n : Int)) = some (.bool true) := by rw [lw, decide_eq_true (by omega)]
 have b3 := aK i (by omega)
 obtain ⟨c1, c2⟩ := D7 hB (by omega)
 obtain ⟨c3, c4⟩ := FN (A := A) hB.1 (by omega) (i : Int)
 have hin : bg (evC (eS GC fs h) 300 eL) ek 300 (fJ (.int .i64 (n : Int)) bv v (.int .i64 (i : Int)) (.bool false) (.int .i64 0)) A = _ := in37 fs h hB hbn i b.length 0 300 (by omega) (by omega)
 obtain ⟨i1, hi1⟩ : ∃ i1 : Nat, i1 = i + 1 := ⟨_, rfl⟩
 rw [<- hi1] at b3 ⊢
 obtain ⟨A1, hA1⟩ : ∃ X, X = A ++ [Ent.row 1 false []] := ⟨_, rfl⟩
 rw [<- hA1] at c1 c2
 obtain ⟨A2, hA2⟩ : ∃ X, X = A ++ [Ent.dead, .row 1 false (ag b)] := ⟨_, rfl⟩
 rw [<- hA2] at c2 c3
 obtain ⟨A3, hA3⟩ : ∃ X, X = A ++ [Ent.dead, .row 1 false (ag b), .row 1 false [.int .i64 (i : Int)]] := ⟨_, rfl⟩
 rw [<- hA3] at c3 c4
 obtain ⟨A4, hA4⟩ : ∃ X, X = A ++ [Ent.dead, .row 1 true (ag (b ++ [(i : Int)])), .row 1 false [.int .i64 (i : Int)]] := ⟨_, rfl⟩
 rw [<- hA4] at c4 hr
 obtain ⟨r1, hr1⟩ : ∃ x, x = A.length + 1 := ⟨_, rfl⟩
 rw [<- hr1] at c2 c4 hr
 obtain ⟨r2, hr2⟩ : ∃ x, x = A.length + 2 := ⟨_, rfl⟩
 rw [<- hr2] at c3 c4
 obtain ⟨r0, hr00⟩ : ∃ x, x = A.length := ⟨_, rfl⟩
 rw [<- hr00] at c1 c2
 obtain ⟨bl1, hbl1⟩ : ∃ x, x = b.length + 1 := ⟨_, rfl⟩
 rw [<- hbl1] at c4 hr
 obtain ⟨bl, hbl⟩ : ∃ x, x = b.length := ⟨_, rfl⟩
 rw [<- hbl] at c2 c4 hin
 by_cases hd : (i : Int) ∈ b
 ·obtain ⟨rfl, rfl⟩ := hr0 hd
  rw [decide_eq_true hd] at hin
  simp [jW, b0, b3, tK hin, -af]
 ·have hr := hr hd
  rw [decide_eq_false hd] at hin
  simp [jW, b0, b3, tK hin, c1, c2, c3, c4, hH, hr, -af, -aC]
theorem Cc {pl pl' : List (Nat × List Int)} {l : List (List Int)} (h : pl'.map (·.2) = pl.map (·.2) ++ l) : pl'.length = pl.length + l.length := by
 have := congrArg List.length h
 simpa using this
theorem Fv (h : bb) {n : Nat} (hn4 : n <= 4) (d : Nat) : ∀ (k : Nat) {A : ac} {v bv : AV} {b : List Int} {pl : List (Nat × List Int)}, b.length + k = n + 1 -> HB A bv b -> rz A v pl -> pl.length + 4 ^ k <= 100000 ->
  ∃ v' B pl', H37 (d + k) h [.int .i64 (n : Int), bv, v] A = some (v', B) /\ rz B v' pl' /\ pl'.map (·.2) = pl.map (·.2) ++ ext n true (k + 1) b /\ f9 A B
 | 0, A, v, bv, b, pl, hk, hB, ho, hll => by
  have e : ext n true (0 + 1) b = [b] := by unfold ext; rw [if_pos (by omega)]
  rw [e]
  cases d with
  | zero =>
   obtain ⟨v', B, r, h1, h2, h3⟩ := z4 [] h hB ho (by omega) hn4 (by omega)
   exact ⟨v', B, _, h1, h2, by simp, h3⟩
  | succ d =>
   obtain ⟨v', B, r, h1, h2, h3⟩ := z4 [(37, H37 d)] h hB ho (by omega) hn4 (by omega)
   exact ⟨v', B, _, h1, h2, by simp, h3⟩
 | k + 1, A, v, bv, b, pl, hk, hB, ho, hll => by
  have e : ext n true (k + 1 + 1) b = (List.range' 1 n).flatMap (fE n true (k + 1) b) := by
   rw [ext, if_neg (by omega)]; rfl
  rw [e]
  have loop : ∀ (c i : Nat) (A : ac) (v : AV) (pl : List (Nat × List Int)) (m : Nat), i + c = n + 1 -> HB A bv b -> rz A v pl -> pl.length + c * 4 ^ k <= 100000 -> c < m ->
    ∃ v' B pl', bg (evC (eS GC [(37, H37 (d + k))] h) 300 jW) jK m (mG (.int .i64 (n : Int)) bv v (.int .i64 (i : Int))) A = some (.exit 0 ((mG (.int .i64 (n : Int)) bv v' (.int .i64 ((n + 1 : Nat) : Int))).set 8 (.bool false)) B) /\
     rz B v' pl' /\ pl'.map (·.2) = pl.map (·.2) ++ (List.range' i c).flatMap (fE n true (k + 1) b) /\ f9 A B := by
   intro c
   induction c with
   | zero =>
    intro i A v pl m hi hB ho hll hm
    obtain ⟨m, rfl⟩ : ∃ j, m = j + 1 := ⟨m - 1, by omega⟩
    refine ⟨v, A, pl, ?_, ho, by simp, f9.refl _⟩
    have b0 : af .leq (.int .i64 ((n + 1 : Nat) : Int)) (.int .i64 (n : Int)) = some (.bool false) := by rw [lw, decide_eq_false (by omega)]
    obtain rfl : i = n + 1 := by omega
    obtain ⟨i1, hi1⟩ : ∃ i1 : Nat, i1 = n + 1 := ⟨_, rfl⟩
    rw [<- hi1] at b0 ⊢
    rw [aQ, xw]
    simp [jW, b0, -af]
   | succ c ihc =>
    intro i A v pl m hi hB ho hll hm
    obtain ⟨m, rfl⟩ : ∃ j, m = j + 1 := ⟨m - 1, by omega⟩
    rw [Nat.add_mul, Nat.one_mul] at hll
    obtain ⟨v1, B, pl1, hB1, hB2, hB3, hB4, hB5⟩ : ∃ v1 B pl1, ((i : Int) ∉ b -> H37 (d + k) h [.int .i64 (n : Int), .sl (A.length + 1) 0 (b.length + 1), v] (A ++ [.dead, .row 1 true (ag (b ++ [(i : Int)])), .row 1 false [.int .i64 (i : Int)]]) = some (v1, B)) /\
      ((i : Int) ∈ b -> B = A /\ v1 = v) /\ rz B v1 pl1 /\ pl1.map (·.2) = pl.map (·.2) ++ fE n true (k + 1) b i /\ f9 A B := by
     by_cases hd : (i : Int) ∈ b
     ·refine ⟨v, A, pl, fun e => absurd hd e, fun _ => ⟨rfl, rfl⟩, ho, ?_, f9.refl _⟩
      unfold fE
      rw [if_neg (by simp [hd]), List.append_nil]
     ·obtain ⟨v1, B, pl1, h1, h2, h3, h4⟩ := Fv h hn4 d k (A := A ++ [.dead, .row 1 true (ag (b ++ [(i : Int)])), .row 1 false [.int .i64 (i : Int)]]) (v := v) (bv := .sl (A.length + 1) 0 (b.length + 1)) (b := b ++ [(i : Int)]) (pl := pl) (by simp; omega) ⟨by simp, .inr ⟨A.length + 1, true, by simp, by rw [List.getElem?_append_right (by omega)]; simp⟩⟩ (ho.app _) (by omega)
      refine ⟨v1, B, pl1, fun _ => h1, fun e => absurd e hd, h2, ?_, (f9.app A _).trans h4⟩
      unfold fE
      rw [if_pos (by simp [hd])]; exact h3
    have hr := rY (fs := [(37, H37 (d + k))]) (h := h) rfl hB (by omega) (i := i) (by omega) hn4 hB1 hB2
    have hfl : (fE n true (k + 1) b i).length <= 4 ^ k := by
     unfold fE
     split
     ·rcases pT n true hn4 k (b ++ [(i : Int)]) with h1 | h1
      ·exact h1
      ·simp at h1; omega
     ·simp
    obtain ⟨v2, C, pl2, c1, c2, c3, c4⟩ := ihc (i + 1) B v1 pl1 m (by omega) (hB.step hB5) hB3 (by rw [Cc hB4]; omega) (by omega)
    refine ⟨v2, C, pl2, ?_, c2, ?_, hB5.trans c4⟩
    ·rw [aQ, xw, hr]
     exact c1
    ·rw [List.range'_succ, List.flatMap_cons, <- List.append_assoc, c3, hB4]
  have hp : n * 4 ^ k <= 4 ^ (k + 1) := by
   rw [Nat.pow_succ, Nat.mul_comm]
   exact Nat.mul_le_mul_left _ hn4
  obtain ⟨v', B, pl', h1, h2, h3, h4⟩ := loop n 1 A v pl 300 (by omega) hB ho (by omega) (by omega)
  refine ⟨v', B, pl', ?_, h2, h3, h4⟩
  have hl := hB.len
  have b1 := aK n (by omega)
  have b2 : af .eql (.int .i64 (b.length : Int)) (.int .i64 ((n + 1 : Nat) : Int)) = some (.bool false) := by rw [ce, decide_eq_false (by omega)]
  obtain ⟨n1, hn1⟩ : ∃ x, x = n + 1 := ⟨_, rfl⟩
  rw [<- hn1] at b1 b2 h1
  obtain ⟨bl, hbl⟩ : ∃ x, x = b.length := ⟨_, rfl⟩
  rw [<- hbl] at hl b2
  rw [show H37 (d + (k + 1)) = fun h => cu (eS GC [(37, H37 (d + k))] h) 300 pK from rfl]
  simp only
  rw [bU _ _ rfl]
  have h1 : bg (evC (eS GC [(37, H37 (d + k))] h) 300 jW) jK 300 (mG (.int .i64 (n : Int)) bv v (.int .i64 1)) A = _ := h1
  simp [pK, hl, b1, b2, DP h1, -af, -aj]
def Dy (n : Nat) : List Int := (List.range (n + 1)).map fun (i : Nat) => (i : Int)
theorem Bf {T : bD} (hv : ez T) (hb : T.blades = 2) : ax T = [Dy T.ch.length] := by
 unfold ax
 rw [if_pos hv, hb]
 have h1 := hv.2.2.1
 have h4 := hv.2.2.2.1
 generalize T.ch.length = n at *
 have : n = 1 \/ n = 2 \/ n = 3 \/ n = 4 := by omega
 rcases this with rfl | rfl | rfl | rfl <;> decide
def vM (k : Nat) : List Int := (List.range k).map fun (i : Nat) => (i : Int)
theorem yJ (k : Nat) : (vM k).length = k := by simp [vM]
theorem vL (k : Nat) : vM (k + 1) = vM k ++ [(k : Int)] := by simp [vM, List.range_succ]
def Q15 (A0 : ac) (i : Nat) (v : AV) (A : ac) : Prop := (i = 0 /\ v = .nilS /\ A = A0) \/ (0 < i /\ ∃ g, v = .sl A0.length 0 i /\ A = A0 ++ [.row 1 g (ag (vM i))])
theorem Q15.step {A0 A : ac} {i : Nat} {v : AV} (h : Q15 A0 i v A) (hi : i <= 100) : ∃ v' A', aH 1 8 A v (.fs 1 [.int .i64 (i : Int)]) = some (v', A') /\ Q15 A0 (i + 1) v' A' := by
 rcases h with ⟨rfl, rfl, rfl⟩ | ⟨h0, g, rfl, rfl⟩
 ·exact ⟨.sl A.length 0 1, A ++ [.row 1 false [.int .i64 0]], by unfold aH; simp, .inr ⟨by omega, false, rfl, rfl⟩⟩
 ·refine ⟨.sl A0.length 0 (i + 1), A0 ++ [.row 1 true (ag (vM (i + 1)))], ?_, .inr ⟨by omega, true, rfl, rfl⟩⟩
  have hz : i ≠ 0 := by omega
  have hb2 : (i + 1) * 8 <= 140737488355328 := by omega
  have hil : (ag (vM i)).length = i := by rw [aA, yJ]
  have hset : (A0 ++ [Ent.row 1 g (ag (vM i))]).set A0.length (.row 1 true (ag (vM i) ++ [.int .i64 (i : Int)])) = A0 ++ [.row 1 true (ag (vM (i + 1)))] := by
   rw [List.set_append_right _ _ (Nat.le_refl _), Nat.sub_self, vL]
   simp [ag]
  unfold aH
  simp [hz, hb2, hil, hset]
def B15 (T : bD) (chv : AV) : ac := [.row 5 false [aD T chv]]
theorem Q15.at {A0 A : ac} {i : Nat} {v : AV} (h : Q15 A0 i v A) {p : Nat} {e : Ent} (hp : A0[p]? = some e) : A[p]? = some e := by
 rcases h with ⟨_, _, rfl⟩ | ⟨_, g, _, rfl⟩
 ·exact hp
 ·rw [List.getElem?_append_left (List.getElem?_eq_some_iff.1 hp).1]; exact hp
theorem Q15.st {A0 A : ac} {i : Nat} {v : AV} (h : Q15 A0 i v A) : f9 A0 A := by
 rcases h with ⟨_, _, rfl⟩ | ⟨_, g, _, rfl⟩
 ·exact f9.refl _
 ·exact f9.app _ _
theorem DH (E : Env) (fuel : Nat) {T : bD} {chv : AV} {A0 : ac} {p : Nat} (hp : A0[p]? = some (.row 5 false [aD T chv])) (hlen : aj chv = some (.int .i64 (T.ch.length : Int))) (hl : T.ch.length <= 50) : ∀ (c i : Nat) (v : AV) (A : ac) (m : Nat), i + c = T.ch.length + 1 -> Q15 A0 i v A -> c < m ->
  ∃ v' A', bg (evC E fuel dS) dz m (en (.ptr p 0 0) v (.int .i64 (i : Int))) A = some (.exit 0 ((en (.ptr p 0 0) v' (.int .i64 ((T.ch.length + 1 : Nat) : Int))).set 7 (.bool false)) A') /\ Q15 A0 (T.ch.length + 1) v' A' := by
 intro c
 have hA : ∀ {i v A}, Q15 A0 i v A -> aa 0 A (.ptr p 0 0) = some (.ptr p 0 0) /\ ae false 1 A (.ptr p 0 0) = some chv := fun {i v A} h => by
  have := h.at hp
  exact ⟨by simp [aa, this], by simp [ae, this, aD, a0]⟩
 induction c with
 | zero =>
  intro i v A m hi hq hm
  obtain ⟨m, rfl⟩ : ∃ j, m = j + 1 := ⟨m - 1, by omega⟩
  obtain rfl : i = T.ch.length + 1 := by omega
  obtain ⟨f0, l0⟩ := hA hq
  have b0 : af .leq (.int .i64 ((T.ch.length + 1 : Nat) : Int)) (.int .i64 (T.ch.length : Int)) = some (.bool false) := by rw [lw, decide_eq_false (by omega)]
  refine ⟨v, A, ?_, hq⟩
  obtain ⟨i1, hi1⟩ : ∃ i1 : Nat, i1 = T.ch.length + 1 := ⟨_, rfl⟩
  rw [<- hi1] at b0 ⊢
  rw [aQ, pj]
  simp [dS, f0, l0, hlen, b0, -af, -ae, -aa, -aj]
 | succ c ih =>
  intro i v A m hi hq hm
  obtain ⟨m, rfl⟩ : ∃ j, m = j + 1 := ⟨m - 1, by omega⟩
  obtain ⟨f0, l0⟩ := hA hq
  have b0 : af .leq (.int .i64 (i : Int)) (.int .i64 (T.ch.length : Int)) = some (.bool true) := by rw [lw, decide_eq_true (by omega)]
  have b3 := aK i (by omega)
  obtain ⟨v1, A1, s1, hq1⟩ := hq.step (by omega)
  obtain ⟨v', A', h1, h2⟩ := ih (i + 1) v1 A1 m (by omega) hq1 (by omega)
  refine ⟨v', A', ?_, h2⟩
  obtain ⟨i1, hi1⟩ : ∃ i1 : Nat, i1 = i + 1 := ⟨_, rfl⟩
  rw [<- hi1] at b3 h1
  obtain ⟨k1, hk1⟩ : ∃ i1 : Nat, i1 = T.ch.length + 1 := ⟨_, rfl⟩
  rw [<- hk1] at h1 ⊢
  rw [aQ, pj]
  simpa [dS, f0, l0, hlen, b0, b3, s1, -af, -ae, -aa, -aj] using h1
def FJ (A : ac) (v : AV) (pl : List (Nat × List Int)) : Prop :=
 (∀ x ∈ pl, x.2 ≠ [] /\ ∃ g, A[x.1]? = some (.row 1 g (ag x.2))) /\ ((v = .nilS /\ pl = []) \/ ∃ id gr, v = .sl id 0 pl.length /\ pl ≠ [] /\ A[id]? = some (.row 1 gr (pl.map pE)))
theorem rz.g {A : ac} {v : AV} {pl : List (Nat × List Int)} (h : rz A v pl) : FJ A v pl := ⟨fun x hx => ⟨(h.1 x hx).1, _, (h.1 x hx).2⟩, h.2⟩
theorem FJ.frz {A : ac} {v : AV} {pl : List (Nat × List Int)} (h : FJ A v pl) (k : Nat) : Proofs.Ytemklhljjaniaaa.frz A (k + 3) v = eY (pl.map (·.2)) /\ aY A (k + 4) v = true := by
 obtain ⟨h1, h2⟩ := h
 rcases h2 with ⟨rfl, rfl⟩ | ⟨id, gr, rfl, hne, hr⟩
 ·exact ⟨rfl, rfl⟩
 ·have e : ((pl.map pE).drop 0).take pl.length = pl.map pE := by
   rw [List.drop_zero]
   conv => lhs; rw [show pl.length = (pl.map pE).length by simp]
   rw [List.take_length]
  constructor
  ·have hm : (pl.map pE).map (Proofs.Ytemklhljjaniaaa.frz A (k + 2)) = (pl.map (·.2)).map fun l => slA 1 (ag l) := by
    rw [List.map_map, List.map_map]
    refine List.map_congr_left fun x hx => ?_
    obtain ⟨n1, g, n2⟩ := h1 x hx
    show Proofs.Ytemklhljjaniaaa.frz A (k + 1 + 1) (.sl x.1 0 x.2.length) = _
    rw [iK n2]
    exact (zP n1).symm
   rw [show k + 3 = (k + 2) + 1 from rfl]
   simp only [Proofs.Ytemklhljjaniaaa.frz, hr]
   rw [e, hm]
   unfold eY
   cases pl with
   | nil => exact absurd rfl hne
   | cons x r => rfl
  ·rw [show k + 4 = (k + 3) + 1 from rfl]
   simp only [aY, hr, List.drop_zero]
   rw [List.all_eq_true]
   intro y hy
   obtain ⟨x, hx, rfl⟩ := List.mem_map.1 (List.mem_of_mem_take hy)
   obtain ⟨n1, g, n2⟩ := h1 x hx
   exact fV n2 (k + 1)
def lj : List (FuncId × aL) := [(17, aF 4 M17), (37, H37 4)]
@[simp] theorem Hw : aB lj 17 = some (aF 4 M17) := rfl
@[simp] theorem Hs : aB lj 37 = some (H37 4) := rfl
theorem rM : ∀ f M, aB lj f = some M -> an Try.prog GC f M := ak (an.of_pure vC 4) (ak (qp 4) az)
def H15 : aL := fun _ => cu (au GC lj) 300 vX
def M15 : aT := fun args => evF (au GC lj) 300 vX 4 args
theorem qr : bk Try.prog GC 15 M15 := bk.of_ev (E := au GC lj) (av rM) rfl Ij xp 4 fun _ _ h => ⟨300, h⟩
theorem E6 (h : bb) (A : ac) {T : bD} {chv : AV} (hb : SlA 2 (T.ch.map chA) chv) (hl : T.ch.length <= 200) : ∃ v B pl, H15 h [aD T chv] A = some (v, B) /\ FJ B v pl /\ pl.map (·.2) = ax T /\ f9 A B := by
 have m := E2 hb hl
 have hlen := hb.len
 rw [List.length_map] at hlen
 have ft := fun A => cO (T := T) (fun A n => hb.frz (A := A) n) A 3
 have nr := eV (T := T) (fun n => hb.noRef n) 3
 obtain ⟨p, hpe⟩ : ∃ p, p = A.length := ⟨_, rfl⟩
 obtain ⟨B0, hB0⟩ : ∃ B, B = A ++ [Ent.row 5 false [aD T chv]] := ⟨_, rfl⟩
 have bx : aV 5 (aD T chv) A = some (.ptr p 0 0, B0) := by rw [hpe, hB0]; rfl
 have hp : B0[p]? = some (.row 5 false [aD T chv]) := by rw [hpe, hB0]; simp
 have hst : f9 A B0 := by rw [hB0]; exact f9.app _ _
 have ct : (cellsOf (aD T chv)).length = 5 := rfl
 have ct1 : (cellsOf (.int .i64 0)).length = 1 := rfl
 have lt : ae true 5 B0 (.ptr p 0 0) = some (aD T chv) := by simp [ae, hp, aD, dD]
 have f4 : aa 4 B0 (.ptr p 0 0) = some (.ptr p 0 4) := by simp [aa, hp]
 have f0 : aa 0 B0 (.ptr p 0 0) = some (.ptr p 0 0) := by simp [aa, hp]
 have l4 : ae false 1 B0 (.ptr p 0 4) = some (.int .i64 T.blades) := by simp [ae, hp, aD, a0]
 have l0 : ae false 1 B0 (.ptr p 0 0) = some chv := by simp [ae, hp, aD, a0]
 have b0 := ce T.blades 2
 unfold H15
 rw [bU _ _ rfl]
 by_cases hv : ez T
 ·rw [decide_eq_true hv] at m
  have hn4 := hv.2.2.2.1
  by_cases h2 : T.blades = 2
  ·rw [decide_eq_true h2] at b0
   obtain ⟨v, A1, hit, hq⟩ := DH (au GC lj) 300 hp hlen (by omega) (T.ch.length + 1) 0 .nilS B0 300 (by omega) (.inl ⟨rfl, rfl, rfl⟩) (by omega)
   rw [Bf hv h2]
   have hst2 := hq.st
   rcases hq with ⟨h, _⟩ | ⟨_, g, rfl, hAe⟩
   ·exact absurd h (by omega)
   have bs : aC 1 [.sl B0.length 0 (T.ch.length + 1)] A1 = some (.sl A1.length 0 1, A1 ++ [.row 1 false [.sl B0.length 0 (T.ch.length + 1)]]) := rfl
   have hri : (Dy T.ch.length).length = T.ch.length + 1 := by simp [Dy]
   refine ⟨.sl A1.length 0 1, A1 ++ [.row 1 false [.sl B0.length 0 (T.ch.length + 1)]], [(B0.length, Dy T.ch.length)], ?_, ⟨fun x hx => ?_, .inr ⟨A1.length, false, rfl, by simp, ?_⟩⟩, rfl, (hst.trans hst2).trans (f9.app _ _)⟩
   ·obtain ⟨k1, hk1⟩ : ∃ i1 : Nat, i1 = T.ch.length + 1 := ⟨_, rfl⟩
    rw [<- hk1] at hit bs ⊢
    obtain ⟨r1, hr1⟩ : ∃ i1 : Nat, i1 = B0.length := ⟨_, rfl⟩
    rw [<- hr1] at hit bs ⊢
    have hit : bg (evC (au GC lj) 300 dS) dz 300 (en (.ptr p 0 0) .nilS (.int .i64 0)) B0 = _ := hit
    obtain ⟨t, ht⟩ : ∃ t, t = aD T chv := ⟨_, rfl⟩
    rw [<- ht] at bx ct lt ft m nr ⊢
    simp [vX, bx, ct, lt, ft, m, f4, l4, b0, tM hit, bs, -frz, -aj, -ae, -aa, -aV, -af, -aC, -cellsOf]
   ·rw [List.mem_singleton] at hx
    subst hx
    refine ⟨by simp [Dy], g, ?_⟩
    rw [hAe]
    simp only
    rw [List.append_assoc, List.getElem?_append_right (by omega), Nat.sub_self]
    rfl
   ·rw [List.getElem?_append_right (by omega), Nat.sub_self]
    simp [pE, hri]
  ·rw [decide_eq_false h2] at b0
   have hb1 : T.blades = 1 := by have := hv.2.2.2.2; omega
   have ho : rz B0 .nilS [] := ⟨fun _ h => by simp at h, .inl ⟨rfl, rfl⟩⟩
   have hp4 : 4 ^ T.ch.length <= 4 ^ 4 := Nat.pow_le_pow_right (by omega) hn4
   obtain ⟨v', B, pl, h1, h2, h3, h4⟩ := Fv (fun _ _ _ => none) (d := 4 - T.ch.length) hn4 T.ch.length (A := B0) (v := .nilS) (bv := .fs 1 [.int .i64 0]) (b := [0]) (pl := []) (by simp; omega) ⟨by simp, .inl rfl⟩ ho (by simp; omega)
   rw [show 4 - T.ch.length + T.ch.length = 4 by omega] at h1
   have he : pl.map (·.2) = ax T := by rw [h3]; unfold ax; rw [if_pos hv, decide_eq_true hb1]; rfl
   refine ⟨v', B, pl, ?_, h2.g, he, hst.trans h4⟩
   obtain ⟨t, ht⟩ : ∃ t, t = aD T chv := ⟨_, rfl⟩
   rw [<- ht] at bx ct lt ft m nr ⊢
   simp [vX, bx, ct, ct1, lt, ft, m, f4, f0, l0, l4, b0, hlen, h1, -frz, -aj, -ae, -aa, -aV, -af, -aC, -cellsOf]
 ·rw [decide_eq_false hv] at m
  have e : ax T = [] := by unfold ax; rw [if_neg hv]
  refine ⟨.nilS, B0, [], ?_, ⟨fun _ h => by simp at h, .inl ⟨rfl, rfl⟩⟩, by rw [e]; rfl, hst⟩
  obtain ⟨t, ht⟩ : ∃ t, t = aD T chv := ⟨_, rfl⟩
  rw [<- ht] at bx ct lt ft m nr ⊢
  simp [vX, bx, ct, lt, ft, m, -frz, -aj, -ae, -aa, -aV, -af, -aC, -cellsOf]
theorem A8 {T : bD} {chv : AV} (hb : SlA 2 (T.ch.map chA) chv) (hl : T.ch.length <= 200) : M15 [aD T chv] = some (eY (ax T)) := by
 obtain ⟨v, B, pl, h1, h2, h3, _⟩ := E6 (fun _ _ _ => none) [] hb hl
 unfold H15 at h1
 unfold M15 evF
 have hf := (h2.frz 1).1
 rw [h3] at hf
 rw [h1]
 simp only [Option.bind_some]
 rw [if_pos (h2.frz 0).2, hf]
def pQ : List (FuncId × aL) := [(15, bA 4 M15), (18, aF 4 Cy.M18)]
@[simp] theorem Gf : aB pQ 15 = some (bA 4 M15) := rfl
@[simp] theorem Ge : aB pQ 18 = some (aF 4 Cy.M18) := rfl
theorem rD : ∀ f M, aB pQ f = some M -> an Try.prog GC f M := ak (an.of_pureF qr 4) (ak (an.of_pure Cy.vB 4) az)
def M47 : aT := fun args => evP (au GC pQ) 300 yO 1 args
theorem vj : aq Try.prog GC 47 M47 := aq.of_ev (E := au GC pQ) (av rD) rfl HU wR 1 fun _ _ h => ⟨300, h⟩
theorem E1 {xs ys : List Int} {a b : AV} (h1 : ey a = some xs) (h2 : ey b = some ys) : Cy.M18 [a, b] = some (.bool (decide (xs = ys))) := by
 unfold Cy.M18
 simp only [h1, h2]
theorem EP {T : bD} {chv ov : AV} {o : List Int} (hb : SlA 2 (T.ch.map chA) chv) (hl : T.ch.length <= 200) (ho : SlA 1 (ag o) ov) (hol : o.length <= 200) (hoi : ∀ z ∈ o, inI z) : M47 [aD T chv, ov] = some (.bool (decide (o ∈ ax T))) := by
 have m15 := A8 hb hl
 have hll := eh T
 have hmem : ∀ l ∈ ax T, l.length <= 200 /\ ∀ z ∈ l, inI z := fun l hl' => by
  have h1 := bo hl'
  have h2 := fL hl'
  have h3 := h1.1.2.2.2.1
  exact ⟨by have := h1.2.1; omega, fun z hz => by have := h2 z hz; unfold inI; omega⟩
 have ft := fun A => cO (T := T) (fun A n => hb.frz (A := A) n) A 3
 have nr := eV (T := T) (fun n => hb.noRef n) 3
 have fo : ∀ A n, frz A n ov = ov := fun A n => ho.frz n
 have bx : aV 5 (aD T chv) [] = some (.ptr 0 0 0, B15 T chv) := rfl
 have ct : (cellsOf (aD T chv)).length = 5 := rfl
 have lt : ae true 5 (B15 T chv) (.ptr 0 0 0) = some (aD T chv) := rfl
 have hio : ey ov = some o := ex ho (by omega) hoi
 obtain ⟨ll, hlle⟩ : ∃ l, l = ax T := ⟨_, rfl⟩
 rw [<- hlle] at m15 hll hmem ⊢
 have hbb := aI 1 (ll.map fun l => slA 1 (ag l))
 rw [show slA 1 (ll.map fun l => slA 1 (ag l)) = eY ll from rfl] at hbb
 have fO : ∀ A, frz A 4 (eY ll) = eY ll := fun A => hbb.frz 4
 obtain ⟨b, hbv⟩ : ∃ b, b = eY ll := ⟨_, rfl⟩
 rw [<- hbv] at hbb m15 fO
 have hlen := hbb.len
 rw [List.length_map] at hlen
 have round : ∀ (A : ac) (i : Nat) (hi : i < ll.length), run (au GC pQ) 300 [.code dp] (ec ov b (.int .i64 (i : Int))) A =
   if isO o ll[i] = false then some (.normal (ec ov b (.int .i64 ((i + 1 : Nat) : Int))) A) else some (.ret [.undef, ov, .undef, .bool true, b, .int .i64 (i : Int), .bool true, .bool true, .bool true] A) := fun A i hi => by
  have he : (ll.map fun l => slA 1 (ag l))[i]? = some (slA 1 (ag ll[i])) := by simp [hi]
  have hs := aI 1 (ag ll[i])
  have x1 := hbb.index1 (A := A) he (by rcases hs with ⟨h, _⟩ | h <;> rw [h] <;> rfl) (by rcases hs with ⟨h, _⟩ | h <;> rw [h] <;> rfl) .i64
  have ld : ae false 1 A (.fp [slA 1 (ag ll[i])]) = some (slA 1 (ag ll[i])) := by rcases hs with ⟨h, _⟩ | h <;> rw [h] <;> rfl
  have hm := hmem _ (List.getElem_mem hi)
  have m := E1 (ex hs (by have := hm.1; omega) hm.2) hio
  have b1 := bc i ll.length .i64
  rw [decide_eq_true hi] at b1
  have b3 := aK i (by omega)
  have fz : ∀ A, frz A 4 (slA 1 (ag ll[i])) = slA 1 (ag ll[i]) := fun A => hs.frz 4
  obtain ⟨i1, hi1⟩ : ∃ i1 : Nat, i1 = i + 1 := ⟨_, rfl⟩
  rw [<- hi1] at b3 ⊢
  obtain ⟨d, hd⟩ : ∃ d, d = isO o ll[i] := ⟨_, rfl⟩
  rw [show decide (ll[i] = o) = d from hd.symm] at m
  rw [<- hd]
  obtain ⟨c, hc⟩ : ∃ c, c = slA 1 (ag ll[i]) := ⟨_, rfl⟩
  rw [<- hc] at m ld fz x1
  cases d with
  | false => simp [dp, x1, ld, m, fz, fo, b1, b3, hlen, -frz, -af, -ab, -aj, -ae]
  | true => simp [dp, x1, ld, m, fz, fo, b1, hlen, -frz, -af, -ab, -aj, -ae]
 have bE := bc ll.length ll.length .i64
 rw [decide_eq_false (by omega)] at bE
 obtain ⟨B, hB⟩ : ∃ B, B = B15 T chv := ⟨_, rfl⟩
 rw [<- hB] at bx lt
 unfold M47
 rw [aN _ _ rfl]
 obtain ⟨t, ht⟩ : ∃ t, t = aD T chv := ⟨_, rfl⟩
 rw [<- ht] at bx ct lt ft m15 nr ⊢
 rcases bz (E := au GC pQ) (fuel := 300) (a := dp) (mask := cW) (fun i => ec ov b (.int .i64 (i : Int))) (fun _ => B) ll.length (fun i => ¬ ∀ hi : i < ll.length, isO o ll[i] = false)
  (oF := fun i => .ret [.undef, ov, .undef, .bool true, b, .int .i64 (i : Int), .bool true, .bool true, .bool true] B) (oE := .exit 0 ((ec ov b (.int .i64 (ll.length : Int))).set 7 (.bool false)) B)
  (fun _ => pf) (fun _ _ _ h => by cases h) (fun _ _ h => by cases h)
  (fun i hi hp => by
   rw [round B i hi]
   exact if_pos (Classical.not_not.1 hp hi))
  (fun i hi hp => by
   rw [round B i hi]
   exact if_neg fun h => hp fun _ => h)
  (by simp [dp, hlen, bE, -af, -aj]) (show ll.length < 300 by omega) with ⟨i, hi, hp, hj, lp⟩ | ⟨hp, lp⟩
 ·have lp : bg (evC (au GC pQ) 300 dp) cW 300 (ec ov b (.int .i64 0)) B = _ := lp
  have e : decide (o ∈ ll) = true := by
   rw [decide_eq_true_eq]
   cases h' : isO o ll[i] with
   | true =>
    have := of_decide_eq_true h'
    exact this ▸ List.getElem_mem hi
   | false => exact absurd (fun _ => h') hp
  rw [e]
  simp [yO, bx, ct, lt, ft, m15, qJ lp, aZ, -frz, -aj, -ae, -aa, -aV, -af, -cellsOf]
 ·have lp : bg (evC (au GC pQ) 300 dp) cW 300 (ec ov b (.int .i64 0)) B = _ := lp
  have e : decide (o ∈ ll) = false := by
   rw [decide_eq_false_iff_not]
   intro h
   obtain ⟨i, hi, h⟩ := List.mem_iff_getElem.1 h
   have := Classical.not_not.1 (hp i hi) hi
   unfold isO at this
   rw [decide_eq_true h] at this; cases this
  rw [e]
  simp [yO, bx, ct, lt, ft, m15, qJ lp, aZ, -frz, -aj, -ae, -aa, -aV, -af, -cellsOf]
end Go.Proofs.Ytemklhljjaniaaa
