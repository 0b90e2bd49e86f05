import Derived.Test.YtemklhljjaniaaaU07
import Derived.Test.YtemklhljjaniaaaU06
import Derived.Test.YtemklhljjaniaaaU03
import Derived.Test.YtemklhljjaniaaaChecked
import Derived.KernelRfl
set_option maxRecDepth 100000
set_option maxHeartbeats 4000000
noncomputable section
namespace Go.Proofs.Ytemklhljjaniaaa
open Go
open Cy (GC aS aZ aA a8 smM smT lvM bY ck)
def jk : List (FuncId × aL) := [(20, bA 4 M20), (52, aF 4 Cy.M19), (53, aF 4 Cy.M21)]
@[simp] theorem GE : aB jk 20 = some (bA 4 M20) := rfl
@[simp] theorem Gz : aB jk 52 = some (aF 4 Cy.M19) := rfl
@[simp] theorem Gy : aB jk 53 = some (aF 4 Cy.M21) := rfl
theorem rF : ∀ f M, aB jk f = some M -> an Try.prog GC f M := ak (an.of_pureF sX 4) (ak (an.of_pure Cy.sX 4) (ak (an.of_pure Cy.vz 4) az))
def M27 : aT := fun args => evP (au GC jk) 0 tz 4 args
theorem sW : aq Try.prog GC 27 M27 := aq.of_ev (E := au GC jk) (av rF) rfl H9 xd 4 fun _ _ h => ⟨0, h⟩
open Classical in
theorem ub {T : bD} {chv : AV} (hcv : SlA 2 (T.ch.map chA) chv) (hl : T.ch.length <= 200) {s : eE} {ov sv pv : AV} (hs : Dc s ov sv pv) (hol : s.order.length <= 200) (hoi : ∀ z ∈ s.order, inI z) :
  M27 [aD T chv, .agg [.int .i64 s.period, ov, sv, pv]] = some (.bool (decide (Chk T s))) := by
 have m19 := x9 hcv hl hs.o hol hoi
 have ft := fun A => cO (T := T) (fun A n => hcv.frz (A := A) n) A 3
 have fo : ∀ A n, frz A n ov = ov := fun A n => hs.o.frz n
 have fs : ∀ A n, frz A n sv = sv := fun A n => hs.st.frz n
 have fp : ∀ A n, frz A n pv = pv := fun A n => hs.pr.frz n
 have hlo := hs.o.len
 rw [aA] at hlo
 have hlp := hs.pr.len
 rw [aA] at hlp
 have iv1 : ey sv = some s.starts := ex hs.st hs.stl hs.sti
 have iv2 : ey pv = some s.proof := ex hs.pr hs.prl hs.pri
 obtain ⟨p, o, st, pr⟩ := s
 simp only at m19 hlo hlp iv1 iv2
 have hper := hs.per
 simp only [inI] at hper
 have q1 : ov.solid = true /\ cellsOf ov = [ov] := by rcases hs.o with ⟨rfl, _⟩ | rfl <;> exact ⟨rfl, rfl⟩
 have q2 : sv.solid = true /\ cellsOf sv = [sv] := by rcases hs.st with ⟨rfl, _⟩ | rfl <;> exact ⟨rfl, rfl⟩
 have q3 : pv.solid = true /\ cellsOf pv = [pv] := by rcases hs.pr with ⟨rfl, _⟩ | rfl <;> exact ⟨rfl, rfl⟩
 have bx0 : aV 5 (aD T chv) [] = some (.ptr 0 0 0, [.row 5 false [aD T chv]]) := rfl
 have bx1 : ∀ t, aV 4 (.agg [.int .i64 p, ov, sv, pv]) [.row 5 false [t]] = some (.ptr 1 0 0, [.row 5 false [t], .row 4 false [.agg [.int .i64 p, ov, sv, pv]]]) := fun t => rfl
 have ct : (cellsOf (aD T chv)).length = 5 := rfl
 have ca : (cellsOf (.agg [.int .i64 p, ov, sv, pv])).length = 4 := rfl
 obtain ⟨A0, hA0⟩ : ∃ A : ac, A = [.row 5 false [aD T chv], .row 4 false [.agg [.int .i64 p, ov, sv, pv]]] := ⟨_, rfl⟩
 have lt : ae true 5 A0 (.ptr 0 0 0) = some (aD T chv) := by rw [hA0]; rfl
 have fa : ∀ j, j < 4 -> aa j A0 (.ptr 1 0 0) = some (.ptr 1 0 j) := fun j hj => by rw [hA0]; simp [aa, hj]
 have l0 : ae false 1 A0 (.ptr 1 0 0) = some (.int .i64 p) := by rw [hA0]; rfl
 have l1 : ae false 1 A0 (.ptr 1 0 1) = some ov := by rw [hA0]; rfl
 have l2 : ae false 1 A0 (.ptr 1 0 2) = some sv := by rw [hA0]; rfl
 have l3 : ae false 1 A0 (.ptr 1 0 3) = some pv := by rw [hA0]; rfl
 obtain ⟨t, ht⟩ : ∃ t, t = aD T chv := ⟨_, rfl⟩
 rw [<- ht] at m19 ft bx0 ct lt hA0 ⊢
 have bx1 := bx1 t
 rw [<- hA0] at bx1
 unfold M27
 rw [aN _ _ rfl]
 by_cases hO : o ∈ ax T
 rotate_left
 ·rw [decide_eq_false (fun h => hO h.1)]
  have e0 : ri T o = none := if_neg hO
  rw [e0] at m19
  have m19 : M20 [t, ov] = some (.tup [.nilS, .int .i64 130]) := m19
  have b1 := i9 130 0
  rw [decide_eq_true (by omega)] at b1
  simp [tz, bx0, bx1, ct, ca, lt, m19, ft, fo, fa, l1, b1, -aV, -ae, -aa, -aj, -frz, -cellsOf, -af, aZ]
 rw [eU hO] at m19
 have m19 : M20 [t, ov] = some (.tup [cR (aR T o), .int .i64 0]) := m19
 have b1 := i9 0 0
 rw [decide_eq_false (by omega)] at b1
 have b2 := ed p 1
 by_cases hp1 : p < 1
 ·rw [decide_eq_false (fun h => by have := h.2.1.1; simp only at this; omega)]
  rw [decide_eq_true hp1] at b2
  simp [tz, bx0, bx1, ct, ca, lt, m19, ft, fo, fa, l0, l1, b1, b2, -aV, -ae, -aa, -aj, -frz, -cellsOf, -af, aZ]
 rw [decide_eq_false hp1] at b2
 have b3 := f8 p 1000000
 by_cases hp2 : p > 1000000
 ·rw [decide_eq_false (fun h => by have := h.2.1.2; simp only at this; omega)]
  rw [decide_eq_true hp2] at b3
  simp [tz, bx0, bx1, ct, ca, lt, m19, ft, fo, fa, l0, l1, b1, b2, b3, -aV, -ae, -aa, -aj, -frz, -cellsOf, -af, aZ]
 rw [decide_eq_false hp2] at b3
 have mv : Cy.M19 [.int .i64 (o.length : Int), cR (aR T o), .int .i64 p, sv] = some (.bool (decide (bY (o.length : Int) (aR T o) p st))) := by
  simp only [Cy.M19, eR hO, iv1]
 have mr : ∀ p, Cy.M21 [.int .i64 (o.length : Int), cR (aR T o), .int .i64 p, pv] = some (.bool (decide (ck (o.length : Int) (aR T o) p pr))) := fun p => by
  simp only [Cy.M21, eR hO, iv2]
 have fa' : ∀ A n, frz A n (cR (aR T o)) = cR (aR T o) := fun A n => (aI 4 _).frz n
 obtain ⟨V, hV⟩ : ∃ V, V = cR (aR T o) := ⟨_, rfl⟩
 rw [<- hV] at m19 mv fa'
 by_cases hver : bY (o.length : Int) (aR T o) p st
 rotate_left
 ·rw [decide_eq_false hver] at mv
  rw [decide_eq_false (fun h => hver h.2.2.1)]
  simp [tz, bx0, bx1, ct, ca, lt, m19, ft, fo, fs, fa', aS, mv, hlo, fa, l0, l1, l2, b1, b2, b3, -aV, -ae, -aa, -aj, -frz, -cellsOf, -af, aZ]
 rw [decide_eq_true hver] at mv
 have b4 := ce p 1
 by_cases hp : p = 1
 ·rw [decide_eq_true hp] at b4
  have b5 : af .eql (.int .i64 (pr.length : Int)) (.int .i64 0) = some (.bool (decide (pr = []))) := by
   rw [ce]
   congr 2
   exact decide_eq_decide.2 ⟨fun h => List.length_eq_zero_iff.1 (by omega), fun h => by rw [h]; rfl⟩
  have hc : Chk T ⟨p, o, st, pr⟩ ↔ pr = [] := by
   constructor
   ·intro h
    have := h.2.2.2
    simp only at this
    rwa [if_pos hp] at this
   ·intro h
    refine ⟨hO, ⟨by simp only; omega, by simp only; omega⟩, hver, ?_⟩
    simp only
    rw [if_pos hp]; exact h
  rw [decide_eq_decide.2 hc]
  obtain ⟨d, hd⟩ : ∃ d, d = decide (pr = []) := ⟨_, rfl⟩
  rw [<- hd] at b5 ⊢
  simp [tz, bx0, bx1, ct, ca, lt, m19, ft, fo, fs, fa', aS, mv, hlo, hlp, fa, l0, l1, l2, l3, b1, b2, b3, b4, b5, aZ, -aV, -ae, -aa, -aj, -frz, -cellsOf, -af]
 ·rw [decide_eq_false hp] at b4
  have b6 : af .sub (.int .i64 p) (.int .i64 1) = some (.int .i64 (p - 1)) := ij (by omega)
  have hc : Chk T ⟨p, o, st, pr⟩ ↔ ck (o.length : Int) (aR T o) (p - 1) pr := by
   constructor
   ·intro h
    have := h.2.2.2
    simp only at this
    rwa [if_neg hp] at this
   ·intro h
    refine ⟨hO, ⟨by simp only; omega, by simp only; omega⟩, hver, ?_⟩
    simp only
    rw [if_neg hp]; exact h
  rw [decide_eq_decide.2 hc]
  have mr := mr (p - 1)
  rw [<- hV] at mr
  obtain ⟨d, hd⟩ : ∃ d, d = decide (ck (o.length : Int) (aR T o) (p - 1) pr) := ⟨_, rfl⟩
  rw [<- hd] at mr ⊢
  obtain ⟨p1, hp1'⟩ : ∃ q, q = p - 1 := ⟨_, rfl⟩
  rw [<- hp1'] at mr b6
  simp [tz, bx0, bx1, ct, ca, lt, m19, ft, fo, fs, fp, fa', aS, mv, mr, hlo, fa, l0, l1, l2, l3, b1, b2, b3, b4, b6, aZ, -aV, -ae, -aa, -aj, -frz, -cellsOf, -af]
def sk : List (FuncId × aL) := [(18, aF 4 Cy.M18)]
@[simp] theorem GP : aB sk 18 = some (aF 4 Cy.M18) := rfl
theorem rI : ∀ f M, aB sk f = some M -> an Try.prog GC f M := ak (an.of_pure Cy.vB 4) az
def M24 : aT := fun args => evP (au GC sk) 0 Cb 1 args
theorem vx : aq Try.prog GC 24 M24 := aq.of_ev (E := au GC sk) (av rI) rfl Ic xg 1 fun _ _ h => ⟨0, h⟩
theorem EX {s : eE} (h1 : s.order.length <= 9223372036854775807 /\ ∀ z ∈ s.order, inI z) (h2 : s.starts.length <= 9223372036854775807 /\ ∀ z ∈ s.starts, inI z) (h3 : s.proof.length <= 9223372036854775807 /\ ∀ z ∈ s.proof, inI z) : M24 [gg s, gg s] = some (.bool true) := by
 have i1 : ∀ {l : List Int}, (l.length <= 9223372036854775807 /\ ∀ z ∈ l, inI z) -> Cy.M18 [slA 1 (ag l), slA 1 (ag l)] = some (.bool true) := fun {l} h => by
  have hi : ey (slA 1 (ag l)) = some l := ex (aI 1 (ag l)) h.1 h.2
  unfold Cy.M18
  simp [hi]
 have m1 := i1 h1
 have m2 := i1 h2
 have m3 := i1 h3
 obtain ⟨p, o, st, pr⟩ := s
 simp only at m1 m2 m3
 have bp := ce p p
 rw [decide_eq_true rfl] at bp
 have fz : ∀ (l : List Int) A, frz A 4 (slA 1 (ag l)) = slA 1 (ag l) := fun l A => (aI 1 (ag l)).frz 4
 have fo := fz o
 have fs := fz st
 have fp := fz pr
 obtain ⟨q1, q1'⟩ := cV o
 obtain ⟨q2, q2'⟩ := cV st
 obtain ⟨q3, q3'⟩ := cV pr
 rw [show gg ⟨p, o, st, pr⟩ = .agg [.int .i64 p, slA 1 (ag o), slA 1 (ag st), slA 1 (ag pr)] from rfl]
 obtain ⟨O, hO⟩ : ∃ O, O = slA 1 (ag o) := ⟨_, rfl⟩
 obtain ⟨S, hS⟩ : ∃ O, O = slA 1 (ag st) := ⟨_, rfl⟩
 obtain ⟨P, hP⟩ : ∃ O, O = slA 1 (ag pr) := ⟨_, rfl⟩
 rw [<- hO] at m1 q1 q1' ⊢
 simp only [<- hO] at fo
 rw [<- hS] at m2 q2 q2' ⊢
 simp only [<- hS] at fs
 rw [<- hP] at m3 q3 q3' ⊢
 simp only [<- hP] at fp
 obtain ⟨E, hE⟩ : ∃ E, E = Ent.row 4 false [.agg [.int .i64 p, O, S, P]] := ⟨_, rfl⟩
 have bx0 : aV 4 (.agg [.int .i64 p, O, S, P]) [] = some (.ptr 0 0 0, [E]) := by rw [hE]; rfl
 have bx1 : aV 4 (.agg [.int .i64 p, O, S, P]) [E] = some (.ptr 1 0 0, [E, E]) := by rw [hE]; rfl
 have ct : (cellsOf (.agg [.int .i64 p, O, S, P])).length = 4 := rfl
 have f0 : ∀ j, j < 4 -> aa j [E, E] (.ptr 0 0 0) = some (.ptr 0 0 j) := fun j hj => by simp [aa, hE, hj]
 have f1 : ∀ j, j < 4 -> aa j [E, E] (.ptr 1 0 0) = some (.ptr 1 0 j) := fun j hj => by simp [aa, hE, hj]
 have l00 : ae false 1 [E, E] (.ptr 0 0 0) = some (.int .i64 p) := by rw [hE]; rfl
 have l10 : ae false 1 [E, E] (.ptr 1 0 0) = some (.int .i64 p) := by rw [hE]; rfl
 have l01 : ae false 1 [E, E] (.ptr 0 0 1) = some O := by rw [hE]; rfl
 have l11 : ae false 1 [E, E] (.ptr 1 0 1) = some O := by rw [hE]; rfl
 have l02 : ae false 1 [E, E] (.ptr 0 0 2) = some S := by rw [hE]; rfl
 have l12 : ae false 1 [E, E] (.ptr 1 0 2) = some S := by rw [hE]; rfl
 have l03 : ae false 1 [E, E] (.ptr 0 0 3) = some P := by rw [hE]; rfl
 have l13 : ae false 1 [E, E] (.ptr 1 0 3) = some P := by rw [hE]; rfl
 unfold M24
 rw [aN _ _ rfl]
 simp [Cb, bx0, bx1, ct, f0, f1, l00, l10, l01, l11, l02, l12, l03, l13, m1, m2, m3, bp, fo, fs, fp, aZ, -frz, -af, -ae, -aa, -aV, -cellsOf]
theorem ks {T : bD} {s : Option (Int × List Int)} (h : sOk T s) : a8 (iJ s) := by
 unfold iJ a8
 cases s with
 | none => simp
 | some x => have := h x rfl; simp only; omega
theorem E9 : a8 1000000 := by unfold a8; omega
theorem zr {T : bD} {s : Option (Int × List Int)} (hs : sOk T s) {o : List Int} (hO : o ∈ ax T) (h : smM (o.length : Int) (aR T o) 1 1000000 = none) : eD T s o = s := by
 have hn := rO E9 (nW hO).1 h
 unfold eD
 cases hm : smM (o.length : Int) (aR T o) 1 (iJ s) with
 | none => rfl
 | some r =>
  have hper := ks hs
  obtain ⟨h1, h2, _, h4, _⟩ := gf hper hm
  unfold a8 at hper
  exact absurd (hn r h1 (by omega)) h4
theorem q9 {T : bD} {s : Option (Int × List Int)} (hs : sOk T s) {o : List Int} (hO : o ∈ ax T) {p : Int} (h : smM (o.length : Int) (aR T o) 1 1000000 = some p) (hc : p <= iJ s) : eD T s o = some (p, o) := by
 obtain ⟨g1, g2, g3, g4, g5⟩ := gf E9 h
 have hper := ks hs
 unfold eD
 cases hm : smM (o.length : Int) (aR T o) 1 (iJ s) with
 | none => exact absurd (rO hper (nW hO).1 hm p g1 hc) g4
 | some r =>
  obtain ⟨h1, h2, _, h4, h5⟩ := gf hper hm
  have : r = p := by
   rcases Int.lt_trichotomy r p with hlt | rfl | hlt
   ·exact absurd (g5 r h1 hlt) h4
   ·rfl
   ·exact absurd (h5 p g1 hlt) g4
  rw [this]
theorem zt {T : bD} {s : Option (Int × List Int)} (hs : sOk T s) {o : List Int} {p : Int} (h : smM (o.length : Int) (aR T o) 1 1000000 = some p) (hc : ¬ p <= iJ s) : eD T s o = s := by
 obtain ⟨g1, g2, g3, g4, g5⟩ := gf E9 h
 unfold eD
 cases hm : smM (o.length : Int) (aR T o) 1 (iJ s) with
 | none => rfl
 | some r =>
  obtain ⟨h1, h2, _, h4, h5⟩ := gf (ks hs) hm
  exact absurd (g5 r h1 (by omega)) h4
def og : List (FuncId × aL) := [(15, bA 4 M15), (20, bA 4 M20), (49, aF 4 Cy.M23), (50, aF 4 Cy.M15)]
@[simp] theorem GZ : aB og 15 = some (bA 4 M15) := rfl
@[simp] theorem GY : aB og 20 = some (bA 4 M20) := rfl
@[simp] theorem GS : aB og 49 = some (aF 4 Cy.M23) := rfl
@[simp] theorem GR : aB og 50 = some (aF 4 Cy.M15) := rfl
theorem rJ : ∀ f M, aB og f = some M -> an Try.prog GC f M := ak (an.of_pureF qr 4) (ak (an.of_pureF sX 4) (ak (an.of_pure Cy.vx 4) (ak (an.of_pure Cy.qr 4) az)))
def RB (T : bD) (s : Option (Int × List Int)) (b p : Int) : Prop := (s = none /\ b = -1 /\ p = 0) \/ ∃ (k : Nat) (h : k < (ax T).length), b = (k : Int) /\ s = some (p, (ax T)[k])
theorem zR {T : bD} {o : List Int} (hO : o ∈ ax T) : o.length <= 200 /\ ∀ z ∈ o, inI z := by
 have h1 := bo hO
 have h2 := fL hO
 have h3 := h1.1.2.2.2.1
 exact ⟨by have := h1.2.1; omega, fun z hz => by have := h2 z hz; unfold inI; omega⟩
theorem BP {T : bD} {chv : AV} (hcv : SlA 2 (T.ch.map chA) chv) {A : ac} (lt : ae true 5 A (.ptr 0 0 0) = some (aD T chv)) {s : Option (Int × List Int)} (hs : sOk T s) {b p : Int} (hb : RB T s b p) {i : Nat} (hi : i < (ax T).length) (v2 : AV) :
  ∃ b' p', run (au GC og) 300 [.code cP] (eW (.ptr 0 0 0) v2 (eY (ax T)) (.int .i64 b) (.int .i64 p) (.int .i64 (i : Int))) A =
   some (.normal (eW (.ptr 0 0 0) v2 (eY (ax T)) (.int .i64 b') (.int .i64 p') (.int .i64 ((i + 1 : Nat) : Int))) A) /\ RB T (eD T s (ax T)[i]) b' p' := by
 obtain ⟨o, ho⟩ : ∃ o, o = (ax T)[i] := ⟨_, rfl⟩
 have hO : o ∈ ax T := by rw [ho]; exact List.getElem_mem hi
 obtain ⟨hv, hol, _, _⟩ := bo hO
 obtain ⟨hoo, hoi⟩ := zR hO
 have hbb := aI 1 ((ax T).map fun l => slA 1 (ag l))
 rw [show slA 1 ((ax T).map fun l => slA 1 (ag l)) = eY (ax T) from rfl] at hbb
 have hlen := hbb.len
 rw [List.length_map] at hlen
 obtain ⟨q1, q2⟩ := cV o
 have he : ((ax T).map fun l => slA 1 (ag l))[i]? = some (slA 1 (ag o)) := by simp [hi, ho]
 have x1 := hbb.index1 (A := A) he q1 q2 .i64
 have hos := aI 1 (ag o)
 have hlo := hos.len
 rw [aA] at hlo
 have m20 := x9 (T := T) hcv (by have := hv.2.2.2.1; omega) hos hoo hoi
 rw [eU hO] at m20
 have m20 : M20 [aD T chv, slA 1 (ag o)] = some (.tup [cR (aR T o), .int .i64 0]) := m20
 have m23 : Cy.M23 [.int .i64 (o.length : Int), cR (aR T o), .int .i64 1, .int .i64 1000000] = some (smT (smM (o.length : Int) (aR T o) 1 1000000)) := by
  simp only [Cy.M23, eR hO, Option.map_some]
 have ft := cO (T := T) (fun A n => hcv.frz (A := A) n) A 3
 have fo : frz A 4 (slA 1 (ag o)) = slA 1 (ag o) := hos.frz 4
 have fa : frz A 4 (cR (aR T o)) = cR (aR T o) := (aI 4 _).frz 4
 have na : be 4 (cR (aR T o)) = true := (aI 4 _).noRef 4
 have b0 := bc i (ax T).length .i64
 rw [decide_eq_true hi] at b0
 have b1 := aK i (by have := eh T; omega)
 have b2 := ed b 0
 obtain ⟨i1, hi1⟩ : ∃ n, n = i + 1 := ⟨_, rfl⟩
 rw [<- hi1] at b1 ⊢
 have hoe := ho
 rw [<- ho]
 obtain ⟨W, hW⟩ : ∃ W, W = slA 1 (ag o) := ⟨_, rfl⟩
 rw [<- hW] at x1 hlo m20 fo
 obtain ⟨V, hV⟩ : ∃ V, V = cR (aR T o) := ⟨_, rfl⟩
 rw [<- hV] at m20 m23 fa na
 obtain ⟨t, htt⟩ : ∃ t, t = aD T chv := ⟨_, rfl⟩
 rw [<- htt] at m20 ft lt
 obtain ⟨Q, hQ⟩ : ∃ Q, Q = eY (ax T) := ⟨_, rfl⟩
 rw [<- hQ] at x1 hlen ⊢
 obtain ⟨n, hn⟩ : ∃ n, n = (o.length : Int) := ⟨_, rfl⟩
 cases hm : smM (o.length : Int) (aR T o) 1 1000000 with
 | none =>
  rw [zr hs hO hm]
  refine ⟨b, p, ?_, hb⟩
  rw [hm] at m23
  rw [<- hn] at m23 hlo
  simp [cP, x1, lt, ft, fo, fa, na, aS, smT, m20, m23, hlo, hlen, b0, b1, -af, -ae, -ab, -aj, -frz]
 | some r =>
  rw [hm] at m23
  rw [<- hn] at m23 hlo
  obtain ⟨g1, g2, _⟩ := gf E9 hm
  have b3 := ed r p
  rcases hb with ⟨rfl, rfl, rfl⟩ | ⟨k, hk, rfl, rfl⟩
  ·rw [decide_eq_true (by omega)] at b2
   rw [q9 hs hO hm (by unfold iJ; simpa using g2)]
   refine ⟨(i : Int), r, ?_, .inr ⟨i, hi, rfl, by rw [<- ho]⟩⟩
   simp [cP, x1, lt, ft, fo, fa, na, aS, smT, m20, m23, hlo, hlen, b0, b1, b2, -af, -ae, -ab, -aj, -frz]
  ·rw [decide_eq_false (by omega)] at b2
   by_cases hc : r < p
   ·rw [decide_eq_true hc] at b3
    rw [q9 hs hO hm (by unfold iJ; simp only; omega)]
    refine ⟨(i : Int), r, ?_, .inr ⟨i, hi, rfl, by rw [<- ho]⟩⟩
    simp [cP, x1, lt, ft, fo, fa, na, aS, smT, m20, m23, hlo, hlen, b0, b1, b2, b3, -af, -ae, -ab, -aj, -frz]
   ·rw [decide_eq_false hc] at b3
    rw [zt hs hm (by unfold iJ; simp only; omega)]
    refine ⟨(k : Int), p, ?_, .inr ⟨k, hk, rfl, rfl⟩⟩
    simp [cP, x1, lt, ft, fo, fa, na, aS, smT, m20, m23, hlo, hlen, b0, b1, b2, b3, -af, -ae, -ab, -aj, -frz]
theorem tD {T : bD} {chv : AV} (hcv : SlA 2 (T.ch.map chA) chv) {A : ac} (lt : ae true 5 A (.ptr 0 0 0) = some (aD T chv)) (v2 : AV) : ∀ (c i : Nat) (s : Option (Int × List Int)) (b p : Int) (m : Nat), i + c = (ax T).length -> sOk T s -> RB T s b p -> c < m ->
  ∃ b' p', bg (evC (au GC og) 300 cP) dv m (eW (.ptr 0 0 0) v2 (eY (ax T)) (.int .i64 b) (.int .i64 p) (.int .i64 (i : Int))) A =
   some (.exit 0 ((eW (.ptr 0 0 0) v2 (eY (ax T)) (.int .i64 b') (.int .i64 p') (.int .i64 ((ax T).length : Int))).set 13 (.bool false)) A) /\ RB T (((ax T).drop i).foldl (eD T) s) b' p' := by
 intro c
 induction c with
 | zero =>
  intro i s b p m hi hs hb hm
  obtain ⟨m, rfl⟩ : ∃ j, m = j + 1 := ⟨m - 1, by omega⟩
  obtain rfl : i = (ax T).length := by omega
  rw [List.drop_length]
  refine ⟨b, p, ?_, hb⟩
  have hlen : aj (eY (ax T)) = some (.int .i64 ((ax T).length : Int)) := by
   have := (aI 1 ((ax T).map fun l => slA 1 (ag l))).len
   rwa [List.length_map] at this
  have b0 := bc (ax T).length (ax T).length .i64
  rw [decide_eq_false (by omega)] at b0
  rw [aQ, nM]
  simp [cP, b0, hlen, -af, -aj]
 | succ c ih =>
  intro i s b p m hi hs hb hm
  obtain ⟨m, rfl⟩ : ∃ j, m = j + 1 := ⟨m - 1, by omega⟩
  have hil : i < (ax T).length := by omega
  obtain ⟨b1, p1, hr, hb1⟩ := BP hcv lt hs hb hil v2
  rw [List.drop_eq_getElem_cons hil, List.foldl_cons]
  obtain ⟨b2, p2, h1, h2⟩ := ih (i + 1) _ b1 p1 m (by omega) (mw hs (List.getElem_mem hil)) hb1 (by omega)
  refine ⟨b2, p2, ?_, h2⟩
  rw [aQ, nM, hr]
  exact h1
def M23 : aT := fun args => evP (au GC og) 300 vV 4 args
theorem vy : aq Try.prog GC 23 M23 := aq.of_ev (E := au GC og) (av rJ) rfl Id xh 4 fun _ _ h => ⟨300, h⟩
theorem EY {T : bD} {chv : AV} (hcv : SlA 2 (T.ch.map chA) chv) (hl : T.ch.length <= 200) : M23 [aD T chv] = some (nV (fe T)) := by
 have m15 := A8 hcv hl
 have hlen : aj (eY (ax T)) = some (.int .i64 ((ax T).length : Int)) := by
  have := (aI 1 ((ax T).map fun l => slA 1 (ag l))).len
  rwa [List.length_map] at this
 obtain ⟨A2, hA2⟩ : ∃ A : ac, A = [.row 5 false [aD T chv], .row 4 false [zA]] := ⟨_, rfl⟩
 have lt2 : ae true 5 A2 (.ptr 0 0 0) = some (aD T chv) := by rw [hA2]; rfl
 obtain ⟨b, p, lp, hb⟩ := tD hcv lt2 (.ptr 1 0 0) (ax T).length 0 none (-1) 0 300 (by omega) (fun x h => by cases h) (.inl ⟨rfl, rfl, rfl⟩) (by have := eh T; omega)
 rw [List.drop_zero, show (ax T).foldl (eD T) none = ju T from rfl] at hb
 have hok := xN T
 have hbm : fe T = (ju T).map (lF T) := rfl
 rw [hbm]
 have ft := fun A => cO (T := T) (fun A n => hcv.frz (A := A) n) A 3
 have fO : ∀ A, frz A 4 (eY (ax T)) = eY (ax T) := fun A => (aI 1 _).frz 4
 have bx0 : aV 5 (aD T chv) [] = some (.ptr 0 0 0, [.row 5 false [aD T chv]]) := rfl
 have ct : (cellsOf (aD T chv)).length = 5 := rfl
 have bx1 : ∀ t, aV 4 (.agg [.int .i64 0, .nilS, .nilS, .nilS]) [.row 5 false [t]] = some (.ptr 1 0 0, [.row 5 false [t], .row 4 false [zA]]) := fun t => rfl
 have lp : bg (evC (au GC og) 300 cP) dv 300 (eW (.ptr 0 0 0) (.ptr 1 0 0) (eY (ax T)) (.int .i64 (-1)) (.int .i64 0) (.int .i64 0)) A2 = _ := lp
 have b1 := ed b 0
 rcases hb with ⟨hs, rfl, rfl⟩ | ⟨k, hk, rfl, hs⟩
 ·rw [hs] at hok ⊢
  rw [decide_eq_true (by omega)] at b1
  rw [show nV (Option.map (lF T) none) = .tup [.agg [.int .i64 0, .nilS, .nilS, .nilS], .int .i64 130] from rfl]
  have st : aw 4 A2 (.ptr 1 0 0) (.agg [.int .i64 0, .nilS, .nilS, .nilS]) = some A2 := by rw [hA2]; rfl
  have l4 : ae true 4 A2 (.ptr 1 0 0) = some (.agg [.int .i64 0, .nilS, .nilS, .nilS]) := by rw [hA2]; rfl
  have fR : frz A2 4 (.tup [.agg [.int .i64 0, .nilS, .nilS, .nilS], .int .i64 130]) = .tup [.agg [.int .i64 0, .nilS, .nilS, .nilS], .int .i64 130] := by simp [frz]
  have bx1 := bx1 (aD T chv)
  rw [<- hA2] at bx1
  obtain ⟨t, ht⟩ : ∃ t, t = aD T chv := ⟨_, rfl⟩
  rw [<- ht] at m15 lt2 bx0 bx1 ct ⊢
  simp only [<- ht] at ft
  obtain ⟨Q, hQ⟩ : ∃ Q, Q = eY (ax T) := ⟨_, rfl⟩
  rw [<- hQ] at m15 hlen lp
  simp only [<- hQ] at fO
  unfold M23
  rw [aN _ _ rfl]
  simp [vV, bx0, bx1, ct, lt2, m15, ft, nh lp, b1, st, l4, fR, -aV, -ae, -aw, -aa, -aj, -frz, -cellsOf, -af]
 ·rw [hs] at hok ⊢
  obtain ⟨o, ho⟩ : ∃ o, o = (ax T)[k] := ⟨_, rfl⟩
  rw [<- ho] at hok ⊢
  have hO : o ∈ ax T := by rw [ho]; exact List.getElem_mem hk
  obtain ⟨hp1, hp2, _⟩ := hok _ rfl
  simp only at hp1 hp2
  obtain ⟨hv, hol, _, _⟩ := bo hO
  obtain ⟨hoo, hoi⟩ := zR hO
  rw [decide_eq_false (by omega)] at b1
  have hbb := aI 1 ((ax T).map fun l => slA 1 (ag l))
  rw [show slA 1 ((ax T).map fun l => slA 1 (ag l)) = eY (ax T) from rfl] at hbb
  obtain ⟨q1, q2⟩ := cV o
  have he : ((ax T).map fun l => slA 1 (ag l))[k]? = some (slA 1 (ag o)) := by simp [hk, ho]
  have x1 := fun A => hbb.index1 (A := A) he q1 q2 .i64
  have hos := aI 1 (ag o)
  have hlo := hos.len
  rw [aA] at hlo
  have m20 := x9 (T := T) hcv hl hos hoo hoi
  rw [eU hO] at m20
  have m20 : M20 [aD T chv, slA 1 (ag o)] = some (.tup [cR (aR T o), .int .i64 0]) := m20
  obtain ⟨st, hst⟩ : ∃ st, st = (lvM (o.length : Int) (aR T o) p).1 := ⟨_, rfl⟩
  obtain ⟨pr, hpr⟩ : ∃ pr, pr = (lvM (o.length : Int) (aR T o) (p - 1)).2.1 := ⟨_, rfl⟩
  obtain ⟨s1, s2⟩ := cV st
  obtain ⟨r1, r2⟩ := cV pr
  have h1 : Cy.M15 [.int .i64 (o.length : Int), cR (aR T o), .int .i64 p] = some (.tup [slA 1 (ag st), slA 1 (ag (lvM (o.length : Int) (aR T o) p).2.1), .bool (lvM (o.length : Int) (aR T o) p).2.2]) := by
   simp only [Cy.M15, eR hO, Option.map_some]
   rw [hst]; rfl
  have h2 : Cy.M15 [.int .i64 (o.length : Int), cR (aR T o), .int .i64 (p - 1)] = some (.tup [slA 1 (ag (lvM (o.length : Int) (aR T o) (p - 1)).1), slA 1 (ag pr), .bool (lvM (o.length : Int) (aR T o) (p - 1)).2.2]) := by
   simp only [Cy.M15, eR hO, Option.map_some]
   rw [hpr]; rfl
  have fo : ∀ A, frz A 4 (slA 1 (ag o)) = slA 1 (ag o) := fun A => hos.frz 4
  have fa : ∀ A, frz A 4 (cR (aR T o)) = cR (aR T o) := fun A => (aI 4 _).frz 4
  have na : be 4 (cR (aR T o)) = true := (aI 4 _).noRef 4
  obtain ⟨RA, hRA⟩ : ∃ R : List Int -> List Int -> ac, ∀ a b, R a b = [.row 5 false [aD T chv], .row 4 false [zA], .row 4 false [.agg [.int .i64 p, slA 1 (ag o), slA 1 (ag a), slA 1 (ag b)]]] := ⟨_, fun _ _ => rfl⟩
  have fa2 : ∀ a b j, j < 4 -> aa j (RA a b) (.ptr 2 0 0) = some (.ptr 2 0 j) := fun a b j hj => by rw [hRA]; simp [aa, hj]
  have lall : ∀ a b, ae true 4 (RA a b) (.ptr 2 0 0) = some (.agg [.int .i64 p, slA 1 (ag o), slA 1 (ag a), slA 1 (ag b)]) := fun a b => by rw [hRA]; simp [ae]
  have bx2 : aV 4 (.agg [.int .i64 0, .nilS, .nilS, .nilS]) A2 = some (.ptr 2 0 0, [.row 5 false [aD T chv], .row 4 false [zA], .row 4 false [.agg [.int .i64 0, .nilS, .nilS, .nilS]]]) := by rw [hA2]; rfl
  have fl : gI [.int .i64 0, .nilS, .nilS, .nilS] [(0, (1, .int .i64 p)), (1, (1, slA 1 (ag o)))] = some [.int .i64 p, slA 1 (ag o), .nilS, .nilS] := by
   have c1 : cellsOf (AV.int .i64 p) = [.int .i64 p] := rfl
   have c2 : (AV.int .i64 p).solid = true := rfl
   simp [gI, q1, q2, c1, c2, -cellsOf, -AV.solid]
  have sA : aw 4 [.row 5 false [aD T chv], .row 4 false [zA], .row 4 false [.agg [.int .i64 0, .nilS, .nilS, .nilS]]] (.ptr 2 0 0) (.agg [.int .i64 p, slA 1 (ag o), .nilS, .nilS]) = some (RA [] []) := by
   rw [hRA]; simp [aw, aJ]; rfl
  have k5 : aw 1 (RA [] []) (.ptr 2 0 2) (slA 1 (ag st)) = some (RA st []) := by
   rw [hRA, hRA]
   simp [aw, aJ, s1, s2, -cellsOf, -AV.solid]
  have k6 : aw 1 (RA st []) (.ptr 2 0 3) (slA 1 (ag pr)) = some (RA st pr) := by
   rw [hRA, hRA]
   simp [aw, aJ, r1, r2, -cellsOf, -AV.solid]
  obtain ⟨RC, hRC⟩ : ∃ R : List Int -> List Int -> ac, ∀ a b, R a b = [.row 5 false [aD T chv], .row 4 false [.agg [.int .i64 p, slA 1 (ag o), slA 1 (ag a), slA 1 (ag b)]], .row 4 false [.agg [.int .i64 p, slA 1 (ag o), slA 1 (ag a), slA 1 (ag b)]]] := ⟨_, fun _ _ => rfl⟩
  have stB : ∀ a b, aw 4 (RA a b) (.ptr 1 0 0) (.agg [.int .i64 p, slA 1 (ag o), slA 1 (ag a), slA 1 (ag b)]) = some (RC a b) := fun a b => by
   rw [hRA, hRC]
   simp [aw, aJ, zA]
  have lC : ∀ a b, ae true 4 (RC a b) (.ptr 1 0 0) = some (.agg [.int .i64 p, slA 1 (ag o), slA 1 (ag a), slA 1 (ag b)]) := fun a b => by rw [hRC]; simp [ae]
  have fR : ∀ A (a b : List Int), frz A 4 (.tup [.agg [.int .i64 p, slA 1 (ag o), slA 1 (ag a), slA 1 (ag b)], .int .i64 0]) = .tup [.agg [.int .i64 p, slA 1 (ag o), slA 1 (ag a), slA 1 (ag b)], .int .i64 0] := fun A a b => by
   have k1 := fun o => (aI 1 (ag o)).frz (A := A) 2
   simp [frz, k1]
  have b2 := f8 p 1
  have b3 : af .sub (.int .i64 p) (.int .i64 1) = some (.int .i64 (p - 1)) := ij (by omega)
  have hsb : lF T (p, o) = ⟨p, o, st, if p > 1 then pr else []⟩ := by
   unfold lF
   simp only [<- hst, <- hpr]
  rw [Option.map_some, hsb]
  have bx1 := bx1 (aD T chv)
  rw [<- hA2] at bx1
  obtain ⟨t, ht⟩ : ∃ t, t = aD T chv := ⟨_, rfl⟩
  rw [<- ht] at m15 m20 lt2 bx0 bx1 bx2 ct sA ⊢
  simp only [<- ht] at ft
  obtain ⟨Q, hQ⟩ : ∃ Q, Q = eY (ax T) := ⟨_, rfl⟩
  rw [<- hQ] at m15 hlen lp
  simp only [<- hQ] at fO x1
  obtain ⟨V, hV⟩ : ∃ V, V = cR (aR T o) := ⟨_, rfl⟩
  rw [<- hV] at m20 h1 h2 na
  simp only [<- hV] at fa
  obtain ⟨n, hn⟩ : ∃ n, n = (o.length : Int) := ⟨_, rfl⟩
  rw [<- hn] at hlo h1 h2
  obtain ⟨p1, hp11⟩ : ∃ q, q = p - 1 := ⟨_, rfl⟩
  rw [<- hp11] at h2 b3
  have g1 := fa2 [] []
  have g2 := fa2 st []
  by_cases hp : p > 1
  ·rw [decide_eq_true hp] at b2
   rw [if_pos hp]
   rw [show nV (some ⟨p, o, st, pr⟩) = .tup [.agg [.int .i64 p, slA 1 (ag o), slA 1 (ag st), slA 1 (ag pr)], .int .i64 0] from rfl]
   have k1 := lall st pr
   have k2 := stB st pr
   have k3 := lC st pr
   have k4 := fR (RC st pr) st pr
   obtain ⟨B0, hB0⟩ : ∃ A, A = RA [] [] := ⟨_, rfl⟩
   obtain ⟨B1, hB1⟩ : ∃ A, A = RA st [] := ⟨_, rfl⟩
   obtain ⟨B2, hB2⟩ : ∃ A, A = RA st pr := ⟨_, rfl⟩
   obtain ⟨B3, hB3⟩ : ∃ A, A = RC st pr := ⟨_, rfl⟩
   rw [<- hB0] at sA k5
   rw [<- hB1] at k5 k6
   rw [<- hB2] at k6 k1 k2
   rw [<- hB3] at k2 k3 k4
   simp only [<- hB0] at g1
   simp only [<- hB1] at g2
   obtain ⟨W, hW⟩ : ∃ W, W = slA 1 (ag o) := ⟨_, rfl⟩
   obtain ⟨S1, hS1⟩ : ∃ W, W = slA 1 (ag st) := ⟨_, rfl⟩
   obtain ⟨S2, hS2⟩ : ∃ W, W = slA 1 (ag pr) := ⟨_, rfl⟩
   rw [<- hW] at hlo m20 sA k1 k2 k3 k4 fl q1 q2 ⊢
   simp only [<- hW] at fo x1
   rw [<- hS1] at h1 k1 k2 k3 k4 k5 ⊢
   rw [<- hS2] at h2 k1 k2 k3 k4 k6 ⊢
   unfold M23
   rw [aN _ _ rfl]
   simp [vV, bx0, bx1, bx2, ct, lt2, m15, m20, ft, fo, fa, na, aS, nh lp, b1, b2, b3, x1, hlo, h1, h2, fl, sA, k5, k6, k1, k2, k3, k4, g1, g2, -aV, -ae, -aw, -aa, -aj, -ab, -frz, -cellsOf, -af, -gI, -AV.solid]
  ·rw [decide_eq_false hp] at b2
   rw [if_neg hp]
   rw [show nV (some ⟨p, o, st, []⟩) = .tup [.agg [.int .i64 p, slA 1 (ag o), slA 1 (ag st), slA 1 (ag [])], .int .i64 0] from rfl]
   have k1 := lall st []
   have k2 := stB st []
   have k3 := lC st []
   have k4 := fR (RC st []) st []
   obtain ⟨B0, hB0⟩ : ∃ A, A = RA [] [] := ⟨_, rfl⟩
   obtain ⟨B1, hB1⟩ : ∃ A, A = RA st [] := ⟨_, rfl⟩
   obtain ⟨B3, hB3⟩ : ∃ A, A = RC st [] := ⟨_, rfl⟩
   rw [<- hB0] at sA k5
   rw [<- hB1] at k5 k1 k2
   rw [<- hB3] at k2 k3 k4
   simp only [<- hB0] at g1
   obtain ⟨W, hW⟩ : ∃ W, W = slA 1 (ag o) := ⟨_, rfl⟩
   obtain ⟨S1, hS1⟩ : ∃ W, W = slA 1 (ag st) := ⟨_, rfl⟩
   obtain ⟨S2, hS2⟩ : ∃ W : AV, W = slA 1 (ag []) := ⟨_, rfl⟩
   rw [<- hW] at hlo m20 sA k1 k2 k3 k4 fl q1 q2 ⊢
   simp only [<- hW] at fo x1
   rw [<- hS1] at h1 k1 k2 k3 k4 k5 ⊢
   rw [<- hS2] at k1 k2 k3 k4 ⊢
   unfold M23
   rw [aN _ _ rfl]
   simp [vV, bx0, bx1, bx2, ct, lt2, m15, m20, ft, fo, fa, na, aS, nh lp, b1, b2, x1, hlo, h1, fl, sA, k5, k1, k2, k3, k4, g1, -aV, -ae, -aw, -aa, -aj, -ab, -frz, -cellsOf, -af, -gI, -AV.solid]
open Cy (cw)
theorem Az {sz : Nat} {x : AV} {es : List AV} (hx : SlA sz es x) (n : Nat) : ∃ x', SlA sz (es.take n) x' /\ ∀ A, bK sz A none (some (.int .i64 ((min es.length n : Nat) : Int))) x = some x' := by
 rcases hx with ⟨rfl, rfl⟩ | rfl
 ·exact ⟨.nilS, .inl ⟨rfl, by simp⟩, fun A => by simp [bK, cJ, hiB, loB]⟩
 ·refine ⟨.fs sz (es.take n), .inr rfl, fun A => ?_⟩
  obtain ⟨q, hq⟩ : ∃ q, q = min es.length n := ⟨_, rfl⟩
  rw [<- hq]
  have h : q <= es.length := by omega
  have e : cJ es.length none (some (.int .i64 (q : Int))) = some (0, q) := by simp [cJ, hiB, loB, h]
  simp only [bK, if_true, e, Option.map_some, List.drop_zero, Nat.sub_zero]
  congr 2
  rw [List.take_eq_take_iff]; omega
theorem tx (a n : Nat) : cg false (.int .i64 (a : Int)) [.int .i64 (n : Int)] = some (.int .i64 ((min a n : Nat) : Int)) := by
 by_cases h : (n : Int) < (a : Int)
 ·rw [show min a n = n by omega]
  simp [cg, fu]; omega
 ·rw [show min a n = a by omega]
  simp [cg, fu]; omega
def F12 : aT := fun args => evP (au GC []) 0 zT 4 args
theorem vD : aq Try.prog GC 12 F12 := aq.of_ev (E := au GC []) (av az) rfl Il xr 4 fun _ _ h => ⟨0, h⟩
theorem CI {x : AV} {l : List Int} (hx : SlA 1 (ag l) x) (n : Nat) : ∃ x', SlA 1 (ag (l.take n)) x' /\ ∀ A, bK 1 A none (some (.int .i64 ((min l.length n : Nat) : Int))) x = some x' := by
 obtain ⟨x', h1, h2⟩ := Az hx n
 rw [aA] at h2
 refine ⟨x', ?_, h2⟩
 have e : (ag l).take n = ag (l.take n) := by unfold ag; rw [List.map_take]
 rw [<- e]; exact h1
theorem CX {T : bD} {chv : AV} (hcv : SlA 2 (T.ch.map chA) chv) {p : Int} {o s r : List Int} {ov sv pv : AV} (ho : SlA 1 (ag o) ov) (hs : SlA 1 (ag s) sv) (hr : SlA 1 (ag r) pv) :
  ∃ chv' ov' sv' pv', SlA 1 (ag (o.take 7)) ov' /\ SlA 1 (ag (s.take 7)) sv' /\ SlA 1 (ag (r.take 12)) pv' /\ SlA 2 ((T.ch.take 6).map chA) chv' /\
   F12 [aD T chv, .agg [.int .i64 p, ov, sv, pv]] = some (.tup [aD { T with ch := T.ch.take 6 } chv', .agg [.int .i64 p, ov', sv', pv']]) := by
 obtain ⟨chv', h1, sx⟩ := Az hcv 6
 rw [<- List.map_take] at h1
 obtain ⟨ov', h2, sx2⟩ := CI ho 7
 obtain ⟨sv', h3, sx3⟩ := CI hs 7
 obtain ⟨pv', h4, sx4⟩ := CI hr 12
 refine ⟨chv', ov', sv', pv', h2, h3, h4, h1, ?_⟩
 have hlen := hcv.len
 rw [List.length_map] at hlen sx
 have hl2 := ho.len
 have hl3 := hs.len
 have hl4 := hr.len
 rw [aA] at hl2 hl3 hl4
 have mn : cg false (.int .i64 (T.ch.length : Int)) [.int .i64 6] = some (.int .i64 ((min T.ch.length 6 : Nat) : Int)) := tx T.ch.length 6
 have mn2 : cg false (.int .i64 (o.length : Int)) [.int .i64 7] = some (.int .i64 ((min o.length 7 : Nat) : Int)) := tx o.length 7
 have mn3 : cg false (.int .i64 (s.length : Int)) [.int .i64 7] = some (.int .i64 ((min s.length 7 : Nat) : Int)) := tx s.length 7
 have mn4 : cg false (.int .i64 (r.length : Int)) [.int .i64 12] = some (.int .i64 ((min r.length 12 : Nat) : Int)) := tx r.length 12
 obtain ⟨ch, pk, pl, tr, bd⟩ := T
 simp only at hlen mn sx h1 ⊢
 obtain ⟨q, hq⟩ : ∃ q, q = min ch.length 6 := ⟨_, rfl⟩
 rw [<- hq] at mn sx
 obtain ⟨q2, hq2⟩ : ∃ q, q = min o.length 7 := ⟨_, rfl⟩
 rw [<- hq2] at mn2 sx2
 obtain ⟨q3, hq3⟩ : ∃ q, q = min s.length 7 := ⟨_, rfl⟩
 rw [<- hq3] at mn3 sx3
 obtain ⟨q4, hq4⟩ : ∃ q, q = min r.length 12 := ⟨_, rfl⟩
 rw [<- hq4] at mn4 sx4
 have fA : ∀ (c : AV) X, aa 0 (.row 5 false [.agg [c, .int .i64 pk, .int .i64 pl, .int .i64 tr, .int .i64 bd]] :: X) (.ptr 0 0 0) = some (.ptr 0 0 0) := fun c X => rfl
 have ld : ∀ X, ae false 1 (.row 5 false [.agg [chv, .int .i64 pk, .int .i64 pl, .int .i64 tr, .int .i64 bd]] :: X) (.ptr 0 0 0) = some chv := fun X => rfl
 have st : ∀ X, aw 1 (.row 5 false [.agg [chv, .int .i64 pk, .int .i64 pl, .int .i64 tr, .int .i64 bd]] :: X) (.ptr 0 0 0) chv' = some (.row 5 false [.agg [chv', .int .i64 pk, .int .i64 pl, .int .i64 tr, .int .i64 bd]] :: X) := fun X => by
  rcases h1 with ⟨rfl, _⟩ | rfl <;> simp [aw, aJ]
 have lT : ∀ X, ae true 5 (.row 5 false [.agg [chv', .int .i64 pk, .int .i64 pl, .int .i64 tr, .int .i64 bd]] :: X) (.ptr 0 0 0) = some (.agg [chv', .int .i64 pk, .int .i64 pl, .int .i64 tr, .int .i64 bd]) := fun X => rfl
 have f1 : ∀ t (a b c : AV) X j, j < 4 -> aa j (t :: .row 4 false [.agg [.int .i64 p, a, b, c]] :: X) (.ptr 1 0 0) = some (.ptr 1 0 j) := fun t a b c X j hj => by simp [aa, hj]
 have l1 : ∀ t (a b c : AV) X, ae false 1 (t :: .row 4 false [.agg [.int .i64 p, a, b, c]] :: X) (.ptr 1 0 1) = some a := fun t a b c X => rfl
 have l2 : ∀ t (a b c : AV) X, ae false 1 (t :: .row 4 false [.agg [.int .i64 p, a, b, c]] :: X) (.ptr 1 0 2) = some b := fun t a b c X => rfl
 have l3 : ∀ t (a b c : AV) X, ae false 1 (t :: .row 4 false [.agg [.int .i64 p, a, b, c]] :: X) (.ptr 1 0 3) = some c := fun t a b c X => rfl
 have sn1 : ∀ t (b c : AV) X, aw 1 (t :: .row 4 false [.agg [.int .i64 p, ov, b, c]] :: X) (.ptr 1 0 1) ov' = some (t :: .row 4 false [.agg [.int .i64 p, ov', b, c]] :: X) := fun t b c X => by
  rcases h2 with ⟨rfl, _⟩ | rfl <;> simp [aw, aJ]
 have sn2 : ∀ t (b c : AV) X, aw 1 (t :: .row 4 false [.agg [.int .i64 p, b, sv, c]] :: X) (.ptr 1 0 2) sv' = some (t :: .row 4 false [.agg [.int .i64 p, b, sv', c]] :: X) := fun t b c X => by
  rcases h3 with ⟨rfl, _⟩ | rfl <;> simp [aw, aJ]
 have sn3 : ∀ t (b c : AV) X, aw 1 (t :: .row 4 false [.agg [.int .i64 p, b, c, pv]] :: X) (.ptr 1 0 3) pv' = some (t :: .row 4 false [.agg [.int .i64 p, b, c, pv']] :: X) := fun t b c X => by
  rcases h4 with ⟨rfl, _⟩ | rfl <;> simp [aw, aJ]
 have lZ : ∀ t (a b c : AV) X, ae true 4 (t :: .row 4 false [.agg [.int .i64 p, a, b, c]] :: X) (.ptr 1 0 0) = some (.agg [.int .i64 p, a, b, c]) := fun t a b c X => rfl
 have bx0 : aV 5 (aD ⟨ch, pk, pl, tr, bd⟩ chv) [] = some (.ptr 0 0 0, [.row 5 false [.agg [chv, .int .i64 pk, .int .i64 pl, .int .i64 tr, .int .i64 bd]]]) := rfl
 have ct : (cellsOf (aD ⟨ch, pk, pl, tr, bd⟩ chv)).length = 5 := rfl
 have cz : (cellsOf (.agg [.int .i64 p, ov, sv, pv])).length = 4 := rfl
 have bx1 : ∀ a, aV 4 (.agg [.int .i64 p, ov, sv, pv]) [a] = some (.ptr 1 0 0, [a, .row 4 false [.agg [.int .i64 p, ov, sv, pv]]]) := fun a => rfl
 have bx2 : ∀ a b, aV 5 (.agg [.nilS, .int .i64 0, .int .i64 0, .int .i64 0, .int .i64 0]) [a, b] = some (.ptr 2 0 0, [a, b, .row 5 false [.agg [.nilS, .int .i64 0, .int .i64 0, .int .i64 0, .int .i64 0]]]) := fun a b => rfl
 have bx3 : ∀ a b c, aV 4 (.agg [.int .i64 0, .nilS, .nilS, .nilS]) [a, b, c] = some (.ptr 3 0 0, [a, b, c, .row 4 false [zA]]) := fun a b c => rfl
 have sT : ∀ a b X, aw 5 (a :: b :: .row 5 false [.agg [.nilS, .int .i64 0, .int .i64 0, .int .i64 0, .int .i64 0]] :: X) (.ptr 2 0 0) (.agg [chv', .int .i64 pk, .int .i64 pl, .int .i64 tr, .int .i64 bd]) = some (a :: b :: .row 5 false [.agg [chv', .int .i64 pk, .int .i64 pl, .int .i64 tr, .int .i64 bd]] :: X) := fun a b X => by
  rcases h1 with ⟨rfl, _⟩ | rfl <;> simp [aw, aJ]
 have sZ : ∀ a b c, aw 4 [a, b, c, .row 4 false [zA]] (.ptr 3 0 0) (.agg [.int .i64 p, ov', sv', pv']) = some [a, b, c, .row 4 false [.agg [.int .i64 p, ov', sv', pv']]] := fun a b c => by
  rcases h2 with ⟨rfl, _⟩ | rfl <;> rcases h3 with ⟨rfl, _⟩ | rfl <;> rcases h4 with ⟨rfl, _⟩ | rfl <;> simp [aw, aJ, zA]
 have r2 : ∀ a b X, ae true 5 (a :: b :: .row 5 false [.agg [chv', .int .i64 pk, .int .i64 pl, .int .i64 tr, .int .i64 bd]] :: X) (.ptr 2 0 0) = some (.agg [chv', .int .i64 pk, .int .i64 pl, .int .i64 tr, .int .i64 bd]) := fun a b X => rfl
 have r3 : ∀ a b c, ae true 4 [a, b, c, .row 4 false [.agg [.int .i64 p, ov', sv', pv']]] (.ptr 3 0 0) = some (.agg [.int .i64 p, ov', sv', pv']) := fun a b c => rfl
 have fT : ∀ A, frz A 4 (.tup [.agg [chv', .int .i64 pk, .int .i64 pl, .int .i64 tr, .int .i64 bd], .agg [.int .i64 p, ov', sv', pv']]) = .tup [.agg [chv', .int .i64 pk, .int .i64 pl, .int .i64 tr, .int .i64 bd], .agg [.int .i64 p, ov', sv', pv']] := fun A => by
  have g1 := fun n => h1.frz (A := A) n
  have g2 := fun n => h2.frz (A := A) n
  have g3 := fun n => h3.frz (A := A) n
  have g4 := fun n => h4.frz (A := A) n
  simp [frz, g1, g2, g3, g4]
 rw [show aD ⟨ch.take 6, pk, pl, tr, bd⟩ chv' = .agg [chv', .int .i64 pk, .int .i64 pl, .int .i64 tr, .int .i64 bd] from rfl]
 obtain ⟨t, ht⟩ : ∃ t, t = aD ⟨ch, pk, pl, tr, bd⟩ chv := ⟨_, rfl⟩
 rw [<- ht] at bx0 ct ⊢
 unfold F12
 rw [aN _ _ rfl]
 simp [zT, ct, cz, bx0, bx1, bx2, bx3, fA, ld, hlen, hl2, hl3, hl4, mn, mn2, mn3, mn4, sx, sx2, sx3, sx4, st, f1, l1, l2, l3, sn1, sn2, sn3, lT, lZ, sT, sZ, r2, r3, fT, -af, -ae, -aw, -aa, -aV, -aj, -bK, -cg, -frz, -cellsOf]
def eu : MC := .seq (.seq (.region [⟨none, .mv (.var 5), none⟩, ⟨none, .fieldAddr 2 (.var 2), none⟩, ⟨none, .load false 1 (.tmp 1), none⟩, ⟨none, .lenSl (.tmp 2), none⟩, ⟨some 7, .bin .lss (.tmp 0) (.tmp 3), none⟩]) (.cond (.var 7) .skip (.exit 1))) (.seq (.seq (.block 2 (.region [⟨none, .fieldAddr 2 (.var 2), none⟩, ⟨none, .load false 1 (.tmp 0), none⟩, ⟨none, .mv (.var 5), none⟩, ⟨none, .fieldAddr 2 (.var 2), none⟩, ⟨none, .load false 1 (.tmp 3), none⟩, ⟨none, .mv (.var 5), none⟩, ⟨none, .indexSl 1 (.tmp 4) (.tmp 5), none⟩, ⟨none, .load false 1 (.tmp 6), none⟩, ⟨none, .indexArr 3 1 (.var 3) (.cst (.int .i64 1)), none⟩, ⟨none, .load false 1 (.tmp 8), none⟩, ⟨none, .call (.fn 30) [.tmp 9, .cst (.int .i64 50)], none⟩, ⟨none, .bin .add (.tmp 7) (.tmp 10), none⟩, ⟨none, .indexSl 1 (.tmp 1) (.tmp 2), none⟩, ⟨none, .store 1 (.tmp 12) (.tmp 11), none⟩])) (.kill [0, 1, 6, 7, 8, 9, 10, 11, 12, 13, 14, 15])) (.region [⟨none, .mv (.var 5), none⟩, ⟨none, .bin .add (.tmp 0) (.cst (.int .i64 1)), none⟩, ⟨some 5, .mv (.tmp 1), none⟩]))
def rr : ci := ⟨2, 16, .seq (.region [⟨some 2, .box (.var 0), none⟩, ⟨some 3, .box (.var 1), none⟩, ⟨some 4, .alloc 4 (.agg [.int .i64 0, .nilS, .nilS, .nilS]), none⟩]) (.seq (.region [⟨none, .buildSlice 1 [], none⟩, ⟨none, .fieldAddr 1 (.var 2), none⟩, ⟨none, .load false 1 (.tmp 1), none⟩, ⟨none, .append 1 8 (.tmp 0) (.tmp 2), none⟩, ⟨none, .fieldAddr 1 (.var 2), none⟩, ⟨none, .store 1 (.tmp 4) (.tmp 3), none⟩]) (.seq (.region [⟨none, .buildSlice 1 [], none⟩, ⟨none, .fieldAddr 2 (.var 2), none⟩, ⟨none, .load false 1 (.tmp 1), none⟩, ⟨none, .append 1 8 (.tmp 0) (.tmp 2), none⟩, ⟨none, .fieldAddr 2 (.var 2), none⟩, ⟨none, .store 1 (.tmp 4) (.tmp 3), none⟩]) (.seq (.region [⟨none, .buildSlice 1 [], none⟩, ⟨none, .fieldAddr 3 (.var 2), none⟩, ⟨none, .load false 1 (.tmp 1), none⟩, ⟨none, .append 1 8 (.tmp 0) (.tmp 2), none⟩, ⟨none, .fieldAddr 3 (.var 2), none⟩, ⟨none, .store 1 (.tmp 4) (.tmp 3), none⟩]) (.seq (.seq (.region [⟨none, .indexArr 3 1 (.var 3) (.cst (.int .i64 0)), none⟩, ⟨none, .load false 1 (.tmp 0), none⟩, ⟨some 6, .call (.fn 30) [.tmp 1, .cst (.int .i64 6)], none⟩]) (.seq (.block 0 (.seq (.region [⟨none, .bin .eql (.var 6) (.cst (.int .i64 0)), none⟩, ⟨some 8, .mv (.tmp 0), none⟩]) (.cond (.var 8) (.region [⟨none, .fieldAddr 0 (.var 2), none⟩, ⟨none, .load false 1 (.tmp 0), none⟩, ⟨none, .bin .add (.tmp 1) (.cst (.int .i64 1)), none⟩, ⟨none, .indexArr 3 1 (.var 3) (.cst (.int .i64 1)), none⟩, ⟨none, .load false 1 (.tmp 3), none⟩, ⟨none, .call (.fn 30) [.tmp 4, .cst (.int .i64 3)], none⟩, ⟨none, .bin .add (.tmp 2) (.tmp 5), none⟩, ⟨none, .fieldAddr 0 (.var 2), none⟩, ⟨none, .store 1 (.tmp 7) (.tmp 6), none⟩]) (.seq (.region [⟨none, .bin .eql (.var 6) (.cst (.int .i64 1)), none⟩, ⟨some 9, .mv (.tmp 0), none⟩]) (.cond (.var 9) (.region [⟨none, .fieldAddr 0 (.var 2), none⟩, ⟨none, .load false 1 (.tmp 0), none⟩, ⟨none, .bin .sub (.tmp 1) (.cst (.int .i64 1)), none⟩, ⟨none, .fieldAddr 0 (.var 2), none⟩, ⟨none, .store 1 (.tmp 3) (.tmp 2), none⟩]) (.seq (.region [⟨none, .bin .eql (.var 6) (.cst (.int .i64 2)), none⟩, ⟨some 10, .mv (.tmp 0), none⟩]) (.cond (.var 10) (.seq (.region [⟨none, .fieldAddr 2 (.var 2), none⟩, ⟨none, .load false 1 (.tmp 0), none⟩, ⟨none, .lenSl (.tmp 1), none⟩, ⟨some 11, .bin .gtr (.tmp 2) (.cst (.int .i64 0)), none⟩]) (.cond (.var 11) (.region [⟨none, .fieldAddr 2 (.var 2), none⟩, ⟨none, .load false 1 (.tmp 0), none⟩, ⟨none, .indexArr 3 1 (.var 3) (.cst (.int .i64 1)), none⟩, ⟨none, .load false 1 (.tmp 2), none⟩, ⟨none, .fieldAddr 2 (.var 2), none⟩, ⟨none, .load false 1 (.tmp 4), none⟩, ⟨none, .lenSl (.tmp 5), none⟩, ⟨none, .call (.fn 30) [.tmp 3, .tmp 6], none⟩, ⟨none, .indexSl 1 (.tmp 1) (.tmp 7), none⟩, ⟨none, .load false 1 (.tmp 8), none⟩, ⟨none, .indexArr 3 1 (.var 3) (.cst (.int .i64 2)), none⟩, ⟨none, .load false 1 (.tmp 10), none⟩, ⟨none, .call (.fn 30) [.tmp 11, .cst (.int .i64 9)], none⟩, ⟨none, .bin .sub (.tmp 12) (.cst (.int .i64 4)), none⟩, ⟨none, .bin .add (.tmp 9) (.tmp 13), none⟩, ⟨none, .indexSl 1 (.tmp 1) (.tmp 7), none⟩, ⟨none, .store 1 (.tmp 15) (.tmp 14), none⟩]) .skip)) (.seq (.region [⟨none, .bin .eql (.var 6) (.cst (.int .i64 3)), none⟩, ⟨some 12, .mv (.tmp 0), none⟩]) (.cond (.var 12) (.seq (.region [⟨none, .fieldAddr 3 (.var 2), none⟩, ⟨none, .load false 1 (.tmp 0), none⟩, ⟨none, .lenSl (.tmp 1), none⟩, ⟨some 13, .bin .gtr (.tmp 2) (.cst (.int .i64 0)), none⟩]) (.cond (.var 13) (.region [⟨none, .fieldAddr 3 (.var 2), none⟩, ⟨none, .load false 1 (.tmp 0), none⟩, ⟨none, .indexArr 3 1 (.var 3) (.cst (.int .i64 1)), none⟩, ⟨none, .load false 1 (.tmp 2), none⟩, ⟨none, .fieldAddr 3 (.var 2), none⟩, ⟨none, .load false 1 (.tmp 4), none⟩, ⟨none, .lenSl (.tmp 5), none⟩, ⟨none, .call (.fn 30) [.tmp 3, .tmp 6], none⟩, ⟨none, .indexArr 3 1 (.var 3) (.cst (.int .i64 2)), none⟩, ⟨none, .load false 1 (.tmp 8), none⟩, ⟨none, .call (.fn 30) [.tmp 9, .cst (.int .i64 13)], none⟩, ⟨none, .bin .sub (.tmp 10) (.cst (.int .i64 1)), none⟩, ⟨none, .indexSl 1 (.tmp 1) (.tmp 7), none⟩, ⟨none, .store 1 (.tmp 12) (.tmp 11), none⟩]) .skip)) (.seq (.region [⟨none, .bin .eql (.var 6) (.cst (.int .i64 4)), none⟩, ⟨some 14, .mv (.tmp 0), none⟩]) (.cond (.var 14) (.seq (.region [⟨none, .fieldAddr 1 (.var 2), none⟩, ⟨none, .load false 1 (.tmp 0), none⟩, ⟨none, .lenSl (.tmp 1), none⟩, ⟨some 15, .bin .gtr (.tmp 2) (.cst (.int .i64 2)), none⟩]) (.cond (.var 15) (.regionD [30] [⟨none, .fieldAddr 1 (.var 2), none⟩, ⟨none, .load false 1 (.tmp 0), none⟩, ⟨none, .fieldAddr 1 (.var 2), none⟩, ⟨none, .load false 1 (.tmp 2), none⟩, ⟨none, .fieldAddr 1 (.var 2), none⟩, ⟨none, .load false 1 (.tmp 4), none⟩, ⟨none, .lenSl (.tmp 5), none⟩, ⟨none, .bin .sub (.tmp 6) (.cst (.int .i64 1)), none⟩, ⟨none, .fieldAddr 1 (.var 2), none⟩, ⟨none, .load false 1 (.tmp 8), none⟩, ⟨none, .fieldAddr 1 (.var 2), none⟩, ⟨none, .load false 1 (.tmp 10), none⟩, ⟨none, .lenSl (.tmp 11), none⟩, ⟨none, .bin .sub (.tmp 12) (.cst (.int .i64 1)), none⟩, ⟨none, .indexSl 1 (.tmp 9) (.tmp 13), none⟩, ⟨none, .load false 1 (.tmp 14), none⟩, ⟨none, .fieldAddr 1 (.var 2), none⟩, ⟨none, .load false 1 (.tmp 16), none⟩, ⟨none, .indexSl 1 (.tmp 17) (.cst (.int .i64 1)), none⟩, ⟨none, .load false 1 (.tmp 18), none⟩, ⟨none, .indexSl 1 (.tmp 1) (.cst (.int .i64 1)), none⟩, ⟨none, .store 1 (.tmp 20) (.tmp 15), none⟩, ⟨none, .indexSl 1 (.tmp 3) (.tmp 7), none⟩, ⟨none, .store 1 (.tmp 22) (.tmp 19), none⟩] [(2, 21), (3, 21), (4, 21), (5, 21)]) .skip)) (.seq (.region [⟨some 5, .mv (.cst (.int .i64 0)), none⟩]) (.seq (.block 1 (.loop [0, 1, 6, 7, 8, 9, 10, 11, 12, 13, 14, 15] eu)) (.kill [0, 1, 3, 5, 6, 7, 8, 9, 10, 11, 12, 13, 14, 15])))))))))))))) (.kill [0, 1, 3, 5, 6, 7, 8, 9, 10, 11, 12, 13, 14, 15]))) (.seq (.region [⟨none, .load true 4 (.var 2), none⟩, ⟨none, .store 4 (.var 4) (.tmp 0), none⟩]) .ret))))), [.cell 4 true 4]⟩
def dP : List Nat := [0, 1, 6, 7, 8, 9, 10, 11, 12, 13, 14, 15]
abbrev em (v2 v3 v4 v5 : AV) : List AV := [.undef, .undef, v2, v3, v4, v5, .undef, .undef, .undef, .undef, .undef, .undef, .undef, .undef, .undef, .undef]
theorem q0 {d0 d1 v2 v3 v4 v5 d6 d7 d8 d9 d10 d11 d12 d13 d14 d15 : AV} : clear dP [d0, d1, v2, v3, v4, v5, d6, d7, d8, d9, d10, d11, d12, d13, d14, d15] = em v2 v3 v4 v5 := rfl
theorem ww {E : Env} {fuel : Nat} {A : ac} {o : Out} {k : List KC} {d0 d1 v2 v3 v4 v5 d6 d7 d8 d9 d10 d11 d12 d13 d14 d15 : AV} (h : bg (evC E fuel eu) dP fuel (em v2 v3 v4 v5) A = some o) :
  run E fuel (.code (.loop [0, 1, 6, 7, 8, 9, 10, 11, 12, 13, 14, 15] eu) :: k) [d0, d1, v2, v3, v4, v5, d6, d7, d8, d9, d10, d11, d12, d13, d14, d15] A = after E fuel k o := aG dP _ _ (by rw [q0]; exact h)
theorem xf : aE Try.prog Try.f25 2 [0, 1, 2, 3, 4, 5, 23, 28, 44, 54, 60, 65, 82, 87, 101, 106] [30] true ([[0, 1, 6, 7, 8, 9, 10, 11, 12, 13, 14, 15]], [[0, 1, 6, 7, 8, 9, 10, 11, 12, 13, 14, 15], [0, 1, 3, 5, 6, 7, 8, 9, 10, 11, 12, 13, 14, 15], [0, 1, 3, 5, 6, 7, 8, 9, 10, 11, 12, 13, 14, 15]]) = some rr := by kernel_rfl
theorem Ib : Try.prog.funcs[25]? = some Try.f25 := by kernel_rfl
def uG : List (FuncId × aL) := [(30, aF 4 Cy.M12)]
@[simp] theorem GL : aB uG 30 = some (aF 4 Cy.M12) := rfl
theorem rH : ∀ f M, aB uG f = some M -> an Try.prog GC f M := ak (an.of_pure Cy.vD 4) az
def M25 : aT := fun args => evF (au GC uG) 300 rr 4 args
theorem Dt : bk Try.prog GC 25 M25 := bk.of_ev (E := au GC uG) (av rH) rfl Ib xf 4 fun _ _ h => ⟨300, h⟩
def r25 (p : Int) (o st pr : List Int) : AV := .agg [.int .i64 p, .sl 4 0 o.length, .sl 6 0 st.length, .sl 8 0 pr.length]
def A25 (p : Int) (o st pr : List Int) (H z : AV) : ac := [.row 4 false [r25 p o st pr], .row 3 false [H], .row 4 false [z], .dead, .row 1 false (ag o), .dead, .row 1 false (ag st), .dead, .row 1 false (ag pr)]
def rq (s : eE) : AV := .agg [.int .i64 s.period, .fs 1 (ag s.order), .fs 1 (ag s.starts), .fs 1 (ag s.proof)]
theorem D0 (p : Int) (o st pr : List Int) (H z : AV) : frz (A25 p o st pr H z) 4 (r25 p o st pr) = rq ⟨p, o, st, pr⟩ /\ aY (A25 p o st pr H z) 4 (r25 p o st pr) = true := by
 have h4 : (A25 p o st pr H z)[4]? = some (.row 1 false (ag o)) := rfl
 have h6 : (A25 p o st pr H z)[6]? = some (.row 1 false (ag st)) := rfl
 have h8 : (A25 p o st pr H z)[8]? = some (.row 1 false (ag pr)) := rfl
 have g4 := iK h4 2
 have g6 := iK h6 2
 have g8 := iK h8 2
 have k4 := fV h4 1
 have k6 := fV h6 1
 have k8 := fV h8 1
 obtain ⟨A, hA⟩ : ∃ A, A = A25 p o st pr H z := ⟨_, rfl⟩
 rw [<- hA] at g4 g6 g8 k4 k6 k8 ⊢
 unfold r25 rq
 constructor
 ·rw [show (4 : Nat) = 3 + 1 from rfl]
  simp only [frz, List.map_cons, List.map_nil]
  simp only [frz] at g4 g6 g8
  rw [g4, g6, g8]
 ·simp only [aY, List.all_cons, List.all_nil, Bool.and_true, Bool.true_and]
  simp only [aY] at k4 k6 k8
  rw [k4, k6, k8]; rfl
structure Ja (s : eE) : Prop where
 per : -1000000000000 <= s.period /\ s.period <= 1000000000000
 ol : s.order.length <= 250
 stl : s.starts.length <= 250
 prl : s.proof.length <= 250
 oi : ∀ z ∈ s.order, inI z
 sti : ∀ z ∈ s.starts, -1000000000000 <= z /\ z <= 1000000000000
 pri : ∀ z ∈ s.proof, inI z
theorem nj {l : List Int} {i : Nat} (h : i < l.length) : l.getD i 0 ∈ l := by
 rw [List.getD_eq_getElem?_getD, List.getElem?_eq_getElem h]; exact List.getElem_mem h
section
variable {p : Int} {o st pr : List Int} {H z : AV}
theorem CS {j : Nat} (hj : j < 4) : aa j (A25 p o st pr H z) (.ptr 0 0 0) = some (.ptr 0 0 j) := by simp [aa, A25, hj]
theorem Ez : ae false 1 (A25 p o st pr H z) (.ptr 0 0 0) = some (.int .i64 p) := rfl
theorem Ey : ae false 1 (A25 p o st pr H z) (.ptr 0 0 1) = some (.sl 4 0 o.length) := rfl
theorem xV : ae false 1 (A25 p o st pr H z) (.ptr 0 0 2) = some (.sl 6 0 st.length) := rfl
theorem Ex : ae false 1 (A25 p o st pr H z) (.ptr 0 0 3) = some (.sl 8 0 pr.length) := rfl
theorem CT : ae true 4 (A25 p o st pr H z) (.ptr 0 0 0) = some (r25 p o st pr) := rfl
theorem AR (q : Int) : aw 1 (A25 p o st pr H z) (.ptr 0 0 0) (.int .i64 q) = some (A25 q o st pr H z) := rfl
theorem CR : aw 4 (A25 p o st pr H z) (.ptr 2 0 0) (r25 p o st pr) = some (A25 p o st pr H (r25 p o st pr)) := by simp [aw, A25, aJ, r25]
theorem Ew : ae true 4 (A25 p o st pr H (r25 p o st pr)) (.ptr 2 0 0) = some (r25 p o st pr) := rfl
theorem oQ {A : ac} {r n i : Nat} {es : List AV} (hA : A[r]? = some (.row 1 false es)) (h : i < n) : ab 1 A (.sl r 0 n) (.int .i64 (i : Int)) = some (.ptr r i 0) := by simp [ab, hA, h]
theorem td {A : ac} {r i : Nat} {l : List Int} (hA : A[r]? = some (.row 1 false (ag l))) (h : i < l.length) : ae false 1 A (.ptr r i 0) = some (.int .i64 (l.getD i 0)) := by
 simp [ae, hA, ag, h]
theorem rW {A : ac} {r i : Nat} {l : List Int} (hA : A[r]? = some (.row 1 false (ag l))) (h : i < l.length) (v : Int) : aw 1 A (.ptr r i 0) (.int .i64 v) = some (A.set r (.row 1 false (ag (l.set i v)))) := by
 have e : ag (l.set i v) = (ag l).set i (.int .i64 v) := by unfold ag; rw [List.map_set]
 rw [e]
 simp [aw, hA, ag, h, aJ]
theorem AS {i : Nat} (h : i < st.length) (v : Int) : aw 1 (A25 p o st pr H z) (.ptr 6 i 0) (.int .i64 v) = some (A25 p o (st.set i v) pr H z) := by
 rw [rW (l := st) rfl h]
 simp [A25, r25]
theorem Ev {i : Nat} (h : i < pr.length) (v : Int) : aw 1 (A25 p o st pr H z) (.ptr 8 i 0) (.int .i64 v) = some (A25 p o st (pr.set i v) H z) := by
 rw [rW (l := pr) rfl h]
 simp [A25, r25]
theorem AT {i : Nat} (h : i < o.length) (v : Int) : aw 1 (A25 p o st pr H z) (.ptr 4 i 0) (.int .i64 v) = some (A25 p (o.set i v) st pr H z) := by
 rw [rW (l := o) rfl h]
 simp [A25, r25]
end
theorem zD {p : Int} {o st pr : List Int} {z : AV} {a b c : Int} (j : Nat) (hj : j < 3) : bq 3 1 (A25 p o st pr (.agg [.int .i64 a, .int .i64 b, .int .i64 c]) z) (.ptr 1 0 0) (.int .i64 (j : Int)) = some (.ptr 1 0 j) := by
 have h1 : (A25 p o st pr (.agg [.int .i64 a, .int .i64 b, .int .i64 c]) z)[1]? = some (.row 3 false [.agg [.int .i64 a, .int .i64 b, .int .i64 c]]) := rfl
 simp [bq, h1]; omega
def dZ (st : List Int) (d : Int) (i : Nat) : List Int := (List.range st.length).map fun j => if j < i then st.getD j 0 + d else st.getD j 0
theorem ev (st : List Int) (d : Int) (i : Nat) : (dZ st d i).length = st.length := by simp [dZ]
theorem uE (st : List Int) (d : Int) : dZ st d 0 = st := by
 refine List.ext_getElem (ev _ _ _) fun j h1 h2 => ?_
 simp only [dZ, List.getElem_map, List.getElem_range, Nat.not_lt_zero, if_false]
 rw [List.getD_eq_getElem?_getD, List.getElem?_eq_getElem h2]; rfl
theorem qF (st : List Int) (d : Int) {i j : Nat} (h : j < st.length) : (dZ st d i).getD j 0 = if j < i then st.getD j 0 + d else st.getD j 0 := by
 rw [List.getD_eq_getElem?_getD]
 simp [dZ, List.getElem?_range h]
theorem wh (st : List Int) (d : Int) {i : Nat} (_h : i < st.length) : (dZ st d i).set i (st.getD i 0 + d) = dZ st d (i + 1) := by
 refine List.ext_getElem (by simp [ev]) fun j h1 h2 => ?_
 rw [List.getElem_set]
 simp only [dZ, List.getElem_map, List.getElem_range]
 by_cases e : i = j
 ·subst e; rw [if_pos rfl, if_pos (by omega)]
 ·rw [if_neg e]
  by_cases h3 : j < i
  ·rw [if_pos h3, if_pos (by omega)]
  ·rw [if_neg h3, if_neg (by omega)]
theorem r6 {p : Int} {o st0 pr : List Int} {z : AV} {a b c : Int} (hb : inI b) (hl : st0.length <= 250) (hs : ∀ x ∈ st0, -1000000000000 <= x /\ x <= 1000000000000) {i : Nat} (hi : i < st0.length) (v4 : AV) :
  run (au GC uG) 300 [.code eu] (em (.ptr 0 0 0) (.ptr 1 0 0) v4 (.int .i64 (i : Int))) (A25 p o (dZ st0 (pick b 50) i) pr (.agg [.int .i64 a, .int .i64 b, .int .i64 c]) z) =
   some (.normal (em (.ptr 0 0 0) (.ptr 1 0 0) v4 (.int .i64 ((i + 1 : Nat) : Int))) (A25 p o (dZ st0 (pick b 50) (i + 1)) pr (.agg [.int .i64 a, .int .i64 b, .int .i64 c]) z)) := by
 have hpk := bG b 50 (by omega)
 have hll := ev st0 (pick b 50) i
 have f2 := CS (p := p) (o := o) (st := dZ st0 (pick b 50) i) (pr := pr) (H := .agg [.int .i64 a, .int .i64 b, .int .i64 c]) (z := z) (j := 2) (by omega)
 have l2 := xV (p := p) (o := o) (st := dZ st0 (pick b 50) i) (pr := pr) (H := .agg [.int .i64 a, .int .i64 b, .int .i64 c]) (z := z)
 rw [hll] at l2
 have ix : ab 1 (A25 p o (dZ st0 (pick b 50) i) pr (.agg [.int .i64 a, .int .i64 b, .int .i64 c]) z) (.sl 6 0 st0.length) (.int .i64 (i : Int)) = some (.ptr 6 i 0) := oQ rfl hi
 have la : ae false 1 (A25 p o (dZ st0 (pick b 50) i) pr (.agg [.int .i64 a, .int .i64 b, .int .i64 c]) z) (.ptr 6 i 0) = some (.int .i64 (st0.getD i 0)) := by
  rw [td (l := dZ st0 (pick b 50) i) rfl (by omega), qF _ _ hi, if_neg (by omega)]
 have ih : bq 3 1 (A25 p o (dZ st0 (pick b 50) i) pr (.agg [.int .i64 a, .int .i64 b, .int .i64 c]) z) (.ptr 1 0 0) (.int .i64 1) = some (.ptr 1 0 1) := zD 1 (by omega)
 have lh : ae false 1 (A25 p o (dZ st0 (pick b 50) i) pr (.agg [.int .i64 a, .int .i64 b, .int .i64 c]) z) (.ptr 1 0 1) = some (.int .i64 b) := rfl
 have m := cw hb (n := 50) (by omega)
 have hsi := hs _ (nj hi)
 have b1 : af .add (.int .i64 (st0.getD i 0)) (.int .i64 (pick b 50)) = some (.int .i64 (st0.getD i 0 + pick b 50)) := dj (by omega)
 have ps := AS (p := p) (o := o) (st := dZ st0 (pick b 50) i) (pr := pr) (H := .agg [.int .i64 a, .int .i64 b, .int .i64 c]) (z := z) (i := i) (by omega) (st0.getD i 0 + pick b 50)
 rw [wh _ _ hi] at ps
 have b0 := bc i st0.length .i64
 rw [decide_eq_true hi] at b0
 have b2 := aK i (by omega)
 obtain ⟨A, hA⟩ : ∃ A, A = A25 p o (dZ st0 (pick b 50) i) pr (.agg [.int .i64 a, .int .i64 b, .int .i64 c]) z := ⟨_, rfl⟩
 obtain ⟨B, hB⟩ : ∃ B, B = A25 p o (dZ st0 (pick b 50) (i + 1)) pr (.agg [.int .i64 a, .int .i64 b, .int .i64 c]) z := ⟨_, rfl⟩
 rw [<- hA] at f2 l2 ix la ih lh ps ⊢
 rw [<- hB] at ps ⊢
 obtain ⟨q, hq⟩ : ∃ q, q = pick b 50 := ⟨_, rfl⟩
 rw [<- hq] at m b1 ps
 obtain ⟨u, hu⟩ : ∃ q, q = st0.getD i 0 := ⟨_, rfl⟩
 rw [<- hu] at la b1 ps
 obtain ⟨w, hw⟩ : ∃ x, x = u + q := ⟨_, rfl⟩
 rw [<- hw] at b1 ps
 obtain ⟨i1, hi1⟩ : ∃ n, n = i + 1 := ⟨_, rfl⟩
 rw [<- hi1] at b2 ⊢
 obtain ⟨n, hn⟩ : ∃ n, n = st0.length := ⟨_, rfl⟩
 rw [<- hn] at l2 ix b0
 simp [eu, f2, l2, ix, la, ih, lh, m, b0, b1, b2, ps, aS, -af, -ae, -aw, -aa, -ab, -frz]
theorem vY {p : Int} {o st0 pr : List Int} {z : AV} {a b c : Int} (hb : inI b) (hl : st0.length <= 250) (hs : ∀ x ∈ st0, -1000000000000 <= x /\ x <= 1000000000000) (v4 : AV) :
  bg (evC (au GC uG) 300 eu) dP 300 (em (.ptr 0 0 0) (.ptr 1 0 0) v4 (.int .i64 0)) (A25 p o st0 pr (.agg [.int .i64 a, .int .i64 b, .int .i64 c]) z) =
   some (.exit 1 ((em (.ptr 0 0 0) (.ptr 1 0 0) v4 (.int .i64 (st0.length : Int))).set 7 (.bool false)) (A25 p o (dZ st0 (pick b 50) st0.length) pr (.agg [.int .i64 a, .int .i64 b, .int .i64 c]) z)) := by
 have e := bc st0.length st0.length .i64
 rw [decide_eq_false (by omega)] at e
 have f2 := CS (p := p) (o := o) (st := dZ st0 (pick b 50) st0.length) (pr := pr) (H := .agg [.int .i64 a, .int .i64 b, .int .i64 c]) (z := z) (j := 2) (by omega)
 have l2 := xV (p := p) (o := o) (st := dZ st0 (pick b 50) st0.length) (pr := pr) (H := .agg [.int .i64 a, .int .i64 b, .int .i64 c]) (z := z)
 rw [ev] at l2
 have h := e9 (E := au GC uG) (fuel := 300) (a := eu) (mask := dP) (fun i => em (.ptr 0 0 0) (.ptr 1 0 0) v4 (.int .i64 (i : Int))) (fun i => A25 p o (dZ st0 (pick b 50) i) pr (.agg [.int .i64 a, .int .i64 b, .int .i64 c]) z) st0.length (o := .exit 1 ((em (.ptr 0 0 0) (.ptr 1 0 0) v4 (.int .i64 (st0.length : Int))).set 7 (.bool false)) (A25 p o (dZ st0 (pick b 50) st0.length) pr (.agg [.int .i64 a, .int .i64 b, .int .i64 c]) z))
  (fun _ => q0) (fun _ _ h => by cases h) (fun i hi => r6 hb hl hs hi v4) (by simp [eu, f2, l2, e, -af, -ae, -aa]) (m := 300) (by omega)
 rw [uE] at h
 exact h
theorem CO {A : ac} {r : Nat} {v : AV} {l : List Int} (hA : A[r]? = some (.row 1 false [])) (hv : SlA 1 (ag l) v) (hl : l.length <= 1000) : aH 1 8 A (.sl r 0 0) v = some (.sl A.length 0 l.length, A.set r .dead ++ [.row 1 false (ag l)]) := by
 have e : (ag l).length = l.length := aA l
 have hb : l.length * 8 <= 140737488355328 := by omega
 simp [aH, hv.src, hA, e, hb]
theorem yM {p : Int} {o st pr : List Int} {ov sv pv : AV} (ho : SlA 1 (ag o) ov) (hs : SlA 1 (ag st) sv) (hp : SlA 1 (ag pr) pv) (hol : o.length <= 1000) (hsl : st.length <= 1000) (hpl : pr.length <= 1000) (H z : AV) :
  (∀ r, aC 1 [] [.row 4 false [r], .row 3 false [H], .row 4 false [z]] = some (.sl 3 0 0, [.row 4 false [r], .row 3 false [H], .row 4 false [z], .row 1 false []])) /\
  (∀ r, aH 1 8 [.row 4 false [r], .row 3 false [H], .row 4 false [z], .row 1 false []] (.sl 3 0 0) ov = some (.sl 4 0 o.length, [.row 4 false [r], .row 3 false [H], .row 4 false [z], .dead, .row 1 false (ag o)])) /\
  (∀ r, aC 1 [] [.row 4 false [r], .row 3 false [H], .row 4 false [z], .dead, .row 1 false (ag o)] = some (.sl 5 0 0, [.row 4 false [r], .row 3 false [H], .row 4 false [z], .dead, .row 1 false (ag o), .row 1 false []])) /\
  (∀ r, aH 1 8 [.row 4 false [r], .row 3 false [H], .row 4 false [z], .dead, .row 1 false (ag o), .row 1 false []] (.sl 5 0 0) sv = some (.sl 6 0 st.length, [.row 4 false [r], .row 3 false [H], .row 4 false [z], .dead, .row 1 false (ag o), .dead, .row 1 false (ag st)])) /\
  (∀ r, aC 1 [] [.row 4 false [r], .row 3 false [H], .row 4 false [z], .dead, .row 1 false (ag o), .dead, .row 1 false (ag st)] = some (.sl 7 0 0, [.row 4 false [r], .row 3 false [H], .row 4 false [z], .dead, .row 1 false (ag o), .dead, .row 1 false (ag st), .row 1 false []])) /\
  (∀ r, aH 1 8 [.row 4 false [r], .row 3 false [H], .row 4 false [z], .dead, .row 1 false (ag o), .dead, .row 1 false (ag st), .row 1 false []] (.sl 7 0 0) pv = some (.sl 8 0 pr.length, [.row 4 false [r], .row 3 false [H], .row 4 false [z], .dead, .row 1 false (ag o), .dead, .row 1 false (ag st), .dead, .row 1 false (ag pr)])) :=
 ⟨fun _ => rfl, fun _ => CO rfl ho hol, fun _ => rfl, fun _ => CO rfl hs hsl, fun _ => rfl, fun _ => CO rfl hp hpl⟩
theorem sb {b : Int} {n : Nat} (hn : 0 < n) : ∃ m : Nat, pick b n = (m : Int) /\ m < n := yN b n hn
theorem EW {s : eE} {ov sv pv : AV} (ho : SlA 1 (ag s.order) ov) (hst : SlA 1 (ag s.starts) sv) (hpr : SlA 1 (ag s.proof) pv) (hB : Ja s) {a b c : Int} (ha : inI a) (hb : inI b) (hc : inI c) :
  ∃ t, M25 [.agg [.int .i64 s.period, ov, sv, pv], .agg [.int .i64 a, .int .i64 b, .int .i64 c]] = some (rq t) /\ t.order.length = s.order.length /\ t.starts.length = s.starts.length /\ t.proof.length = s.proof.length /\ (-2000000000000 <= t.period /\ t.period <= 2000000000000) /\ (∀ z ∈ t.order, inI z) /\ (∀ z ∈ t.starts, inI z) /\ ∀ z ∈ t.proof, inI z := by
 obtain ⟨p, o, st, pr⟩ := s
 obtain ⟨hper, hol, hsl, hpl, hoi, hsi, hpi⟩ := hB
 simp only at ho hst hpr hper hol hsl hpl hoi hsi hpi ⊢
 have hsI : ∀ z ∈ st, inI z := fun z hz => by have := hsi z hz; unfold inI; omega
 obtain ⟨H, hH⟩ : ∃ H, H = AV.agg [.int .i64 a, .int .i64 b, .int .i64 c] := ⟨_, rfl⟩
 obtain ⟨z, hz⟩ : ∃ z, z = AV.agg [.int .i64 0, .nilS, .nilS, .nilS] := ⟨_, rfl⟩
 obtain ⟨n1, n2, n3, n4, n5, n6⟩ := yM (p := p) ho hst hpr (by omega) (by omega) (by omega) H z
 have bx0 : aV 4 (.agg [.int .i64 p, ov, sv, pv]) [] = some (.ptr 0 0 0, [.row 4 false [.agg [.int .i64 p, ov, sv, pv]]]) := rfl
 have c0 : (cellsOf (.agg [.int .i64 p, ov, sv, pv])).length = 4 := rfl
 have bx1 : ∀ r, aV 3 H [r] = some (.ptr 1 0 0, [r, .row 3 false [H]]) := fun r => by rw [hH]; rfl
 have cH : (cellsOf H).length = 3 := by rw [hH]; rfl
 have bx2 : ∀ r q, aV 4 (.agg [.int .i64 0, .nilS, .nilS, .nilS]) [r, q] = some (.ptr 2 0 0, [r, q, .row 4 false [z]]) := fun r q => by rw [hz]; rfl
 have fA : ∀ es X j, j < 4 -> aa j (.row 4 false [.agg es] :: X) (.ptr 0 0 0) = some (.ptr 0 0 j) := fun es X j hj => by simp [aa, hj]
 have ldA : ∀ w x y u X, ae false 1 (.row 4 false [.agg [w, x, y, u]] :: X) (.ptr 0 0 1) = some x /\ ae false 1 (.row 4 false [.agg [w, x, y, u]] :: X) (.ptr 0 0 2) = some y /\ ae false 1 (.row 4 false [.agg [w, x, y, u]] :: X) (.ptr 0 0 3) = some u := fun w x y u X => ⟨rfl, rfl, rfl⟩
 have ld1 := fun w x y u X => (ldA w x y u X).1
 have ld2 := fun w x y u X => (ldA w x y u X).2.1
 have ld3 := fun w x y u X => (ldA w x y u X).2.2
 have s1 : ∀ X, aw 1 (.row 4 false [.agg [.int .i64 p, ov, sv, pv]] :: X) (.ptr 0 0 1) (.sl 4 0 o.length) = some (.row 4 false [.agg [.int .i64 p, .sl 4 0 o.length, sv, pv]] :: X) := fun X => by simp [aw, aJ]
 have s2 : ∀ X, aw 1 (.row 4 false [.agg [.int .i64 p, .sl 4 0 o.length, sv, pv]] :: X) (.ptr 0 0 2) (.sl 6 0 st.length) = some (.row 4 false [.agg [.int .i64 p, .sl 4 0 o.length, .sl 6 0 st.length, pv]] :: X) := fun X => by simp [aw, aJ]
 have s3 : aw 1 [.row 4 false [.agg [.int .i64 p, .sl 4 0 o.length, .sl 6 0 st.length, pv]], .row 3 false [H], .row 4 false [z], .dead, .row 1 false (ag o), .dead, .row 1 false (ag st), .dead, .row 1 false (ag pr)] (.ptr 0 0 3) (.sl 8 0 pr.length) = some (A25 p o st pr H z) := by simp [aw, aJ, A25, r25]
 have f25 := fun p o st pr j (hj : j < 4) => CS (p := p) (o := o) (st := st) (pr := pr) (H := H) (z := z) hj
 have e0 := fun p o st pr => Ez (p := p) (o := o) (st := st) (pr := pr) (H := H) (z := z)
 have e1 := fun p o st pr => Ey (p := p) (o := o) (st := st) (pr := pr) (H := H) (z := z)
 have e2 := fun p o st pr => xV (p := p) (o := o) (st := st) (pr := pr) (H := H) (z := z)
 have e3 := fun p o st pr => Ex (p := p) (o := o) (st := st) (pr := pr) (H := H) (z := z)
 have eA := fun p o st pr => CT (p := p) (o := o) (st := st) (pr := pr) (H := H) (z := z)
 have sR := fun p o st pr => CR (p := p) (o := o) (st := st) (pr := pr) (H := H) (z := z)
 have lR := fun p o st pr => Ew (p := p) (o := o) (st := st) (pr := pr) (H := H)
 have fin := fun p o st pr => (D0 p o st pr H (r25 p o st pr)).1
 have fre := fun p o st pr => (D0 p o st pr H (r25 p o st pr)).2
 have ih0 : bq 3 1 (A25 p o st pr H z) (.ptr 1 0 0) (.int .i64 0) = some (.ptr 1 0 0) := by rw [hH]; exact zD 0 (by omega)
 have ih1 : bq 3 1 (A25 p o st pr H z) (.ptr 1 0 0) (.int .i64 1) = some (.ptr 1 0 1) := by rw [hH]; exact zD 1 (by omega)
 have ih2 : bq 3 1 (A25 p o st pr H z) (.ptr 1 0 0) (.int .i64 2) = some (.ptr 1 0 2) := by rw [hH]; exact zD 2 (by omega)
 have lh0 : ae false 1 (A25 p o st pr H z) (.ptr 1 0 0) = some (.int .i64 a) := by rw [hH]; rfl
 have lh1 : ae false 1 (A25 p o st pr H z) (.ptr 1 0 1) = some (.int .i64 b) := by rw [hH]; rfl
 have lh2 : ae false 1 (A25 p o st pr H z) (.ptr 1 0 2) = some (.int .i64 c) := by rw [hH]; rfl
 have m6 := cw ha (n := 6) (by omega)
 obtain ⟨v, hv, hv6⟩ := sb (b := a) (n := 6) (by omega)
 have hv : pick a 6 = (v : Int) := hv
 rw [hv] at m6
 have lp := vY (p := p) (o := o) (pr := pr) (z := z) (a := a) (c := c) hb hsl hsi (.ptr 2 0 0)
 rw [<- hH] at lp ⊢
 have g2 := f8 (st.length : Int) 0
 have g3 := f8 (pr.length : Int) 0
 have g1 := f8 (o.length : Int) 2
 obtain ⟨A, hA⟩ : ∃ A, A = A25 p o st pr H z := ⟨_, rfl⟩
 have bp1 : af .add (.int .i64 p) (.int .i64 1) = some (.int .i64 (p + 1)) := dj (by omega)
 unfold M25
 have hcases : v = 0 \/ v = 1 \/ v = 2 \/ v = 3 \/ v = 4 \/ v = 5 := by omega
 rcases hcases with rfl | rfl | rfl | rfl | rfl | rfl
 ·have m3 := cw hb (n := 3) (by omega)
  have hp3 := bG b 3 (by omega)
  have bp2 : af .add (.int .i64 (p + 1)) (.int .i64 (pick b 3)) = some (.int .i64 (p + 1 + pick b 3)) := dj (by omega)
  have sp := AR (p := p) (o := o) (st := st) (pr := pr) (H := H) (z := z) (p + 1 + pick b 3)
  refine ⟨⟨p + 1 + pick b 3, o, st, pr⟩, ?_, rfl, rfl, rfl, by simp only; omega, hoi, hsI, hpi⟩
  rw [cU _ _ rfl]
  obtain ⟨w1, hw1⟩ : ∃ w, w = p + 1 := ⟨_, rfl⟩
  rw [<- hw1] at bp1 bp2 sp ⊢
  obtain ⟨w2, hw2⟩ : ∃ w, w = pick b 3 := ⟨_, rfl⟩
  rw [<- hw2] at m3 bp2 sp ⊢
  obtain ⟨w3, hw3⟩ : ∃ w, w = w1 + w2 := ⟨_, rfl⟩
  rw [<- hw3] at bp2 sp ⊢
  simp [rr, bx0, c0, bx1, cH, bx2, n1, n2, n3, n4, n5, n6, fA, ld1, ld2, ld3, s1, s2, s3, ih0, lh0, m6, aS, ce, f25, eA, sR, lR, fin, fre, e0, bp1, ih1, lh1, m3, bp2, sp, -af, -ae, -aw, -aa, -ab, -aV, -aC, -frz, -cellsOf]
 ·have bp2 : af .sub (.int .i64 p) (.int .i64 1) = some (.int .i64 (p - 1)) := ij (by omega)
  have sp := AR (p := p) (o := o) (st := st) (pr := pr) (H := H) (z := z) (p - 1)
  refine ⟨⟨p - 1, o, st, pr⟩, ?_, rfl, rfl, rfl, by simp only; omega, hoi, hsI, hpi⟩
  rw [cU _ _ rfl]
  obtain ⟨w1, hw1⟩ : ∃ w, w = p - 1 := ⟨_, rfl⟩
  rw [<- hw1] at bp2 sp ⊢
  simp [rr, bx0, c0, bx1, cH, bx2, n1, n2, n3, n4, n5, n6, fA, ld1, ld2, ld3, s1, s2, s3, ih0, lh0, m6, aS, ce, f25, eA, sR, lR, fin, fre, e0, bp2, sp, -af, -ae, -aw, -aa, -ab, -aV, -aC, -frz, -cellsOf]
 ·by_cases hl : 0 < st.length
  ·rw [decide_eq_true (by omega)] at g2
   have m3 := cw hb (n := (st.length : Int)) (by omega)
   obtain ⟨j, hj, hjl⟩ := sb (b := b) hl
   rw [hj] at m3
   have ix : ab 1 (A25 p o st pr H z) (.sl 6 0 st.length) (.int .i64 (j : Int)) = some (.ptr 6 j 0) := oQ rfl hjl
   have la : ae false 1 (A25 p o st pr H z) (.ptr 6 j 0) = some (.int .i64 (st.getD j 0)) := td rfl hjl
   have m9 := cw hc (n := 9) (by omega)
   have hp9 := bG c 9 (by omega)
   have hsj := hsi _ (nj hjl)
   have bp2 : af .sub (.int .i64 (pick c 9)) (.int .i64 4) = some (.int .i64 (pick c 9 - 4)) := ij (by omega)
   have bp3 : af .add (.int .i64 (st.getD j 0)) (.int .i64 (pick c 9 - 4)) = some (.int .i64 (st.getD j 0 + (pick c 9 - 4))) := dj (by omega)
   have sp := AS (p := p) (o := o) (st := st) (pr := pr) (H := H) (z := z) hjl (st.getD j 0 + (pick c 9 - 4))
   refine ⟨⟨p, o, st.set j (st.getD j 0 + (pick c 9 - 4)), pr⟩, ?_, rfl, by simp, rfl, by simp only; omega, hoi, fun z hz => ?_, hpi⟩
   ·rw [cU _ _ rfl]
    obtain ⟨w2, hw2⟩ : ∃ w, w = pick c 9 := ⟨_, rfl⟩
    rw [<- hw2] at m9 bp2 bp3 sp ⊢
    obtain ⟨w3, hw3⟩ : ∃ w, w = w2 - 4 := ⟨_, rfl⟩
    rw [<- hw3] at bp2 bp3 sp ⊢
    obtain ⟨u, hu⟩ : ∃ w, w = st.getD j 0 := ⟨_, rfl⟩
    rw [<- hu] at la bp3 sp ⊢
    obtain ⟨w4, hw4⟩ : ∃ w, w = u + w3 := ⟨_, rfl⟩
    rw [<- hw4] at bp3 sp ⊢
    simp [rr, bx0, c0, bx1, cH, bx2, n1, n2, n3, n4, n5, n6, fA, ld1, ld2, ld3, s1, s2, s3, ih0, lh0, m6, aS, ce, f25, eA, sR, lR, fin, fre, e2, g2, ih1, lh1, ih2, lh2, m3, ix, la, m9, bp2, bp3, sp, -af, -ae, -aw, -aa, -ab, -aV, -aC, -frz, -cellsOf]
   ·rcases List.mem_or_eq_of_mem_set hz with hz | rfl
    ·exact hsI z hz
    ·unfold inI; omega
  ·rw [decide_eq_false (by omega)] at g2
   refine ⟨⟨p, o, st, pr⟩, ?_, rfl, rfl, rfl, by simp only; omega, hoi, hsI, hpi⟩
   rw [cU _ _ rfl]
   simp [rr, bx0, c0, bx1, cH, bx2, n1, n2, n3, n4, n5, n6, fA, ld1, ld2, ld3, s1, s2, s3, ih0, lh0, m6, aS, ce, f25, eA, sR, lR, fin, fre, e2, g2, -af, -ae, -aw, -aa, -ab, -aV, -aC, -frz, -cellsOf]
 ·by_cases hl : 0 < pr.length
  ·rw [decide_eq_true (by omega)] at g3
   have m3 := cw hb (n := (pr.length : Int)) (by omega)
   obtain ⟨j, hj, hjl⟩ := sb (b := b) hl
   rw [hj] at m3
   have ix : ab 1 (A25 p o st pr H z) (.sl 8 0 pr.length) (.int .i64 (j : Int)) = some (.ptr 8 j 0) := oQ rfl hjl
   have m9 := cw hc (n := 13) (by omega)
   have hp9 := bG c 13 (by omega)
   have bp2 : af .sub (.int .i64 (pick c 13)) (.int .i64 1) = some (.int .i64 (pick c 13 - 1)) := ij (by omega)
   have sp := Ev (p := p) (o := o) (st := st) (pr := pr) (H := H) (z := z) hjl (pick c 13 - 1)
   refine ⟨⟨p, o, st, pr.set j (pick c 13 - 1)⟩, ?_, rfl, rfl, by simp, by simp only; omega, hoi, hsI, fun z hz => ?_⟩
   ·rw [cU _ _ rfl]
    obtain ⟨w2, hw2⟩ : ∃ w, w = pick c 13 := ⟨_, rfl⟩
    rw [<- hw2] at m9 bp2 sp ⊢
    obtain ⟨w3, hw3⟩ : ∃ w, w = w2 - 1 := ⟨_, rfl⟩
    rw [<- hw3] at bp2 sp ⊢
    simp [rr, bx0, c0, bx1, cH, bx2, n1, n2, n3, n4, n5, n6, fA, ld1, ld2, ld3, s1, s2, s3, ih0, lh0, m6, aS, ce, f25, eA, sR, lR, fin, fre, e3, g3, ih1, lh1, ih2, lh2, m3, ix, m9, bp2, sp, -af, -ae, -aw, -aa, -ab, -aV, -aC, -frz, -cellsOf]
   ·rcases List.mem_or_eq_of_mem_set hz with hz | rfl
    ·exact hpi z hz
    ·unfold inI; omega
  ·rw [decide_eq_false (by omega)] at g3
   refine ⟨⟨p, o, st, pr⟩, ?_, rfl, rfl, rfl, by simp only; omega, hoi, hsI, hpi⟩
   rw [cU _ _ rfl]
   simp [rr, bx0, c0, bx1, cH, bx2, n1, n2, n3, n4, n5, n6, fA, ld1, ld2, ld3, s1, s2, s3, ih0, lh0, m6, aS, ce, f25, eA, sR, lR, fin, fre, e3, g3, -af, -ae, -aw, -aa, -ab, -aV, -aC, -frz, -cellsOf]
 ·by_cases hl : 2 < o.length
  ·rw [decide_eq_true (by omega)] at g1
   have bl : af .sub (.int .i64 (o.length : Int)) (.int .i64 1) = some (.int .i64 ((o.length - 1 : Nat) : Int)) := by
    rw [ij (by omega)]; congr 2; omega
   have ix1 : ab 1 (A25 p o st pr H z) (.sl 4 0 o.length) (.int .i64 1) = some (.ptr 4 1 0) := oQ (i := 1) rfl (by omega)
   have ix2 : ab 1 (A25 p o st pr H z) (.sl 4 0 o.length) (.int .i64 ((o.length - 1 : Nat) : Int)) = some (.ptr 4 (o.length - 1) 0) := oQ rfl (by omega)
   have la1 : ae false 1 (A25 p o st pr H z) (.ptr 4 1 0) = some (.int .i64 (o.getD 1 0)) := td rfl (by omega)
   have la2 : ae false 1 (A25 p o st pr H z) (.ptr 4 (o.length - 1) 0) = some (.int .i64 (o.getD (o.length - 1) 0)) := td rfl (by omega)
   have sp1 := AT (p := p) (o := o) (st := st) (pr := pr) (H := H) (z := z) (i := 1) (by omega) (o.getD (o.length - 1) 0)
   have ix3 : ab 1 (A25 p (o.set 1 (o.getD (o.length - 1) 0)) st pr H z) (.sl 4 0 o.length) (.int .i64 ((o.length - 1 : Nat) : Int)) = some (.ptr 4 (o.length - 1) 0) := oQ rfl (by omega)
   have sp2 := AT (p := p) (o := o.set 1 (o.getD (o.length - 1) 0)) (st := st) (pr := pr) (H := H) (z := z) (i := o.length - 1) (by simp; omega) (o.getD 1 0)
   refine ⟨⟨p, (o.set 1 (o.getD (o.length - 1) 0)).set (o.length - 1) (o.getD 1 0), st, pr⟩, ?_, by simp, rfl, rfl, by simp only; omega, fun z hz => ?_, hsI, hpi⟩
   ·rw [cU _ _ rfl]
    obtain ⟨x1, hx1⟩ : ∃ w, w = o.getD 1 0 := ⟨_, rfl⟩
    obtain ⟨x2, hx2⟩ : ∃ w, w = o.getD (o.length - 1) 0 := ⟨_, rfl⟩
    rw [<- hx1] at la1 sp2 ⊢
    rw [<- hx2] at la2 sp1 ix3 sp2 ⊢
    obtain ⟨k, hk⟩ : ∃ w, w = o.length - 1 := ⟨_, rfl⟩
    rw [<- hk] at bl ix2 la2 ix3 sp2 ⊢
    obtain ⟨o2, ho2⟩ : ∃ w, w = o.set 1 x2 := ⟨_, rfl⟩
    rw [<- ho2] at sp1 ix3 sp2 ⊢
    obtain ⟨o3, ho3⟩ : ∃ w, w = o2.set k x1 := ⟨_, rfl⟩
    rw [<- ho3] at sp2 ⊢
    simp [rr, bx0, c0, bx1, cH, bx2, n1, n2, n3, n4, n5, n6, fA, ld1, ld2, ld3, s1, s2, s3, ih0, lh0, m6, aS, ce, f25, eA, sR, lR, fin, fre, e1, g1, bl, ix1, ix2, ix3, la1, la2, sp1, sp2, -af, -ae, -aw, -aa, -ab, -aV, -aC, -frz, -cellsOf]
   ·rcases List.mem_or_eq_of_mem_set hz with hz | rfl
    ·rcases List.mem_or_eq_of_mem_set hz with hz | rfl
     ·exact hoi z hz
     ·exact hoi _ (nj (by omega))
    ·exact hoi _ (nj (by omega))
  ·rw [decide_eq_false (by omega)] at g1
   refine ⟨⟨p, o, st, pr⟩, ?_, rfl, rfl, rfl, by simp only; omega, hoi, hsI, hpi⟩
   rw [cU _ _ rfl]
   simp [rr, bx0, c0, bx1, cH, bx2, n1, n2, n3, n4, n5, n6, fA, ld1, ld2, ld3, s1, s2, s3, ih0, lh0, m6, aS, ce, f25, eA, sR, lR, fin, fre, e1, g1, -af, -ae, -aw, -aa, -ab, -aV, -aC, -frz, -cellsOf]
 ·refine ⟨⟨p, o, dZ st (pick b 50) st.length, pr⟩, ?_, rfl, ev _ _ _, rfl, by simp only; omega, hoi, fun z hz => ?_, hpi⟩
  ·rw [cU _ _ rfl]
   simp [rr, bx0, c0, bx1, cH, bx2, n1, n2, n3, n4, n5, n6, fA, ld1, ld2, ld3, s1, s2, s3, ih0, lh0, m6, aS, ce, eA, sR, lR, fin, fre, ww lp, -af, -ae, -aw, -aa, -ab, -aV, -aC, -frz, -cellsOf]
  ·obtain ⟨j, hj, rfl⟩ := List.mem_iff_getElem.1 hz
   rw [ev] at hj
   have e := qF st (pick b 50) (i := st.length) hj
   rw [if_pos hj, List.getD_eq_getElem?_getD, List.getElem?_eq_getElem (by rw [ev]; exact hj)] at e
   have e : (dZ st (pick b 50) st.length)[j]'(by rw [ev]; exact hj) = st.getD j 0 + pick b 50 := e
   rw [e]
   have h1 := hsi _ (nj hj)
   have h2 := bG b 50 (by omega)
   unfold inI; omega
def fsQ : List (FuncId × aL) := [(11, aF 4 M11), (12, aF 4 F12), (13, bA 4 M13), (22, aF 4 M22), (23, aF 4 M23), (24, aF 4 M24), (25, bA 4 M25), (26, aF 4 M26), (27, aF 4 M27)]
@[simp] theorem I6 : aB fsQ 11 = some (aF 4 M11) := rfl
@[simp] theorem I5 : aB fsQ 12 = some (aF 4 F12) := rfl
@[simp] theorem I4 : aB fsQ 13 = some (bA 4 M13) := rfl
@[simp] theorem I3 : aB fsQ 22 = some (aF 4 M22) := rfl
@[simp] theorem I2 : aB fsQ 23 = some (aF 4 M23) := rfl
@[simp] theorem I1 : aB fsQ 24 = some (aF 4 M24) := rfl
@[simp] theorem I0 : aB fsQ 25 = some (bA 4 M25) := rfl
@[simp] theorem IZ : aB fsQ 26 = some (aF 4 M26) := rfl
@[simp] theorem IY : aB fsQ 27 = some (aF 4 M27) := rfl
theorem Dw : ∀ f M, aB fsQ f = some M -> an Try.prog GC f M := ak (an.of_pure Dv 4) (ak (an.of_pure vD 4) (ak (an.of_pureF Du 4) (ak (an.of_pure vz 4) (ak (an.of_pure vy 4) (ak (an.of_pure vx 4) (ak (an.of_pureF Dt 4) (ak (an.of_pure zO 4) (ak (an.of_pure sW 4) az))))))))
structure FG (s : eE) (ov sv pv : AV) : Prop where
 v : Dc s ov sv pv
 ol : s.order.length <= 200
 oi : ∀ z ∈ s.order, inI z
open Classical in
theorem vJ {T : bD} {chv : AV} (hcv : SlA 2 (T.ch.map chA) chv) (hl : T.ch.length <= 200) {A : ac} {q i r : Nat} (lt : A[r]? = some (.row 5 false [aD T chv])) {s : eE} {ov sv pv : AV} (hs : FG s ov sv pv)
  (ix : ab 4 A (.sl q 0 3) (.int .i64 (i : Int)) = some (.ptr q i 0)) (ld : ae true 4 A (.ptr q i 0) = some (.agg [.int .i64 s.period, ov, sv, pv])) (hi : i < 3) (v8 : AV) :
  ∃ X, run (au GC fsQ) 300 [.code om] (lE v8 (.ptr r 0 0) (.sl q 0 3) (.int .i64 3) (.int .i64 (i : Int))) A =
   some (.normal (lE v8 (.ptr r 0 0) (.sl q 0 3) (.int .i64 3) (.int .i64 ((i + 1 : Nat) : Int))) (A ++ X)) := by
 have m26 := lD hcv hl hs.v
 have m27 := ub hcv hl hs.v hs.ol hs.oi
 have ft := cO (T := T) (fun A n => hcv.frz (A := A) n)
 have nt := eV (T := T) (fun n => hcv.noRef n) 3
 have hr := (List.getElem?_eq_some_iff.1 lt).1
 refine ⟨[.row 4 false [.agg [.int .i64 s.period, ov, sv, pv]]], ?_⟩
 obtain ⟨A1, hA1⟩ : ∃ B, B = A ++ [Ent.row 4 false [.agg [.int .i64 s.period, ov, sv, pv]]] := ⟨_, rfl⟩
 rw [<- hA1]
 obtain ⟨p, hpe⟩ : ∃ p, p = A.length := ⟨_, rfl⟩
 have bx : aV 4 (.agg [.int .i64 0, .nilS, .nilS, .nilS]) A = some (.ptr p 0 0, A ++ [.row 4 false [.agg [.int .i64 0, .nilS, .nilS, .nilS]]]) := by rw [hpe]; rfl
 have sA : aw 4 (A ++ [.row 4 false [.agg [.int .i64 0, .nilS, .nilS, .nilS]]]) (.ptr p 0 0) (.agg [.int .i64 s.period, ov, sv, pv]) = some A1 := by
  rw [hpe, hA1]
  rcases hs.v.o with ⟨rfl, _⟩ | rfl <;> rcases hs.v.st with ⟨rfl, _⟩ | rfl <;> rcases hs.v.pr with ⟨rfl, _⟩ | rfl <;> simp [aw, aJ]
 have lt1 : ae true 5 A1 (.ptr r 0 0) = some (aD T chv) := by
  have : A1[r]? = some (.row 5 false [aD T chv]) := by rw [hA1, List.getElem?_append_left hr]; exact lt
  simp [ae, this, aD, dD]
 have ls : ae true 4 A1 (.ptr p 0 0) = some (.agg [.int .i64 s.period, ov, sv, pv]) := by rw [hpe, hA1]; exact rC (es := [.int .i64 s.period, ov, sv, pv]) (k := 4) rfl (by omega)
 have f1 := fun n => hs.v.o.frz (A := A1) n
 have f2 := fun n => hs.v.st.frz (A := A1) n
 have f3 := fun n => hs.v.pr.frz (A := A1) n
 have fs : frz A1 4 (.agg [.int .i64 s.period, ov, sv, pv]) = .agg [.int .i64 s.period, ov, sv, pv] := by simp [frz, f1, f2, f3]
 have ft1 := ft A1 3
 have b0 : af .lss (.int .i64 (i : Int)) (.int .i64 3) = some (.bool true) := by rw [ed, decide_eq_true (by omega)]
 have b1 := aK i (by omega)
 obtain ⟨i1, hi1⟩ : ∃ n, n = i + 1 := ⟨_, rfl⟩
 rw [<- hi1] at b1 ⊢
 obtain ⟨d, hd⟩ : ∃ d, d = decide (Chk T s) := ⟨_, rfl⟩
 rw [<- hd] at m26 m27
 obtain ⟨t, ht⟩ : ∃ t, t = aD T chv := ⟨_, rfl⟩
 rw [<- ht] at m26 m27 ft1 nt lt1
 obtain ⟨S, hS⟩ : ∃ S, S = AV.agg [.int .i64 s.period, ov, sv, pv] := ⟨_, rfl⟩
 rw [<- hS] at m26 m27 sA ls fs ld
 cases d <;> simp [om, ix, ld, bx, sA, lt1, ls, ft1, fs, nt, m26, m27, b0, b1, qG, -af, -ae, -aw, -aV, -ab, -frz]
theorem uk {x : AV} {n : Nat} (h : TA Try.prog (n + 3) 30 x) : ∃ s ov sv pv, x = .agg [.int .i64 (eE.period s), ov, sv, pv] /\ Dc s ov sv pv /\ ∀ z ∈ s.order, inI z := by
 obtain ⟨ls, rfl, hc, hl⟩ := TA.agg (show qe Try.prog 30 = true by kernel_rfl) h
 rw [show n + 3 = (n + 2) + 1 from rfl] at hc
 unfold TC at hc
 rw [Try.underlying30] at hc
 simp only [TCs] at hc
 obtain ⟨a, _, rfl, ha, la, b, _, rfl, hb, lb, c, _, rfl, hc, lc, d, _, rfl, hd, ld, rfl⟩ := hc
 obtain ⟨ov, zo, rfl, o1, o2, o3⟩ := ng (n := n + 1) hb lb
 obtain ⟨sv, zs, rfl, s1, s2, s3⟩ := ng (n := n + 1) hc lc
 obtain ⟨pv, zp, rfl, p1, p2, p3⟩ := ng (n := n + 1) hd ld
 simp only [TC, Try.underlying3] at ha
 obtain ⟨z, rfl, hz⟩ := ha
 exact ⟨⟨z, zo, zs, zp⟩, ov, sv, pv, rfl, ⟨o1, s1, p1, hz, o2, s2, s3, p2, p3⟩, o3⟩
theorem Es (T : bD) : FG ((fe T).getD dK) (slA 1 (ag ((fe T).getD dK).order)) (slA 1 (ag ((fe T).getD dK).starts)) (slA 1 (ag ((fe T).getD dK).proof)) /\ Ja ((fe T).getD dK) := by
 cases hb : fe T with
 | none =>
  refine ⟨⟨⟨aI _ _, aI _ _, aI _ _, by simp [dK, inI], by simp [dK], by simp [dK], by simp [dK], by simp [dK], by simp [dK]⟩, by simp [dK], by simp [dK]⟩, ⟨by simp [dK], by simp [dK], by simp [dK], by simp [dK], by simp [dK], by simp [dK], by simp [dK]⟩⟩
 | some s =>
  have hchk := km hb
  have hin := ta hchk
  have hp := hchk.2.1
  simp only [Option.getD_some]
  exact ⟨⟨rP hchk, by have := hin.1.1; omega, hin.1.2⟩, ⟨by omega, by have := hin.1.1; omega, by have := hin.2.1.1; omega, by have := hin.2.2.1; omega, hin.1.2, fun z hz => by have := hchk.2.2.1.2.2.1 z hz; omega, hin.2.2.2⟩⟩
theorem ev4 {x : X5} (hx : x.inR) {ys : List (Int × Int)} (hys : ∀ y ∈ ys, inI y.1 /\ inI y.2) {yv : AV} (hy : SlA 2 (ys.map chA) yv) {s : eE} {ov sv pv : AV} (hs : Dc s ov sv pv) (hsi : ∀ z ∈ s.order, inI z) {a b c : Int} (ha : inI a) (hb : inI b) (hc : inI c) :
  evP (au GC fsQ) 300 mf4 1 [x5A x, yv, .agg [.int .i64 s.period, ov, sv, pv], .agg [.int .i64 a, .int .i64 b, .int .i64 c]] = some (.bool true) := by
 have m13 := E3 hx hys hy
 obtain ⟨T, hT⟩ : ∃ T, T = mY x ys := ⟨_, rfl⟩
 obtain ⟨chv, hchv⟩ : ∃ c, c = slA 2 ((mY x ys).ch.map chA) := ⟨_, rfl⟩
 have hcv : SlA 2 (T.ch.map chA) chv := by rw [hT, hchv]; exact Z5 x ys
 have hl : T.ch.length <= 200 := by rw [hT]; have := DB x ys; omega
 have mkE : mkA x ys = aD T chv := by rw [hT, hchv]; rfl
 rw [mkE] at m13
 have m22 := EZ hcv hl
 have m23 := EY hcv hl
 obtain ⟨hW, hB⟩ := Es T
 obtain ⟨S, hS⟩ : ∃ S, S = (fe T).getD dK := ⟨_, rfl⟩
 obtain ⟨q, hq⟩ : ∃ q : Int, q = (if (fe T).isSome then 0 else 130) := ⟨_, rfl⟩
 rw [show nV (fe T) = .tup [gg S, .int .i64 q] by rw [hS, hq]; rfl] at m22 m23
 rw [<- hS] at hW hB
 have m24 := EX (s := S) ⟨hW.v.ol, hW.oi⟩ ⟨hW.v.stl, hW.v.sti⟩ ⟨hW.v.prl, hW.v.pri⟩
 obtain ⟨t, m25, g1, g2, g3, g4, g5, g6, g7⟩ := EW hW.v.o hW.v.st hW.v.pr hB ha hb hc
 have m25 : M25 [gg S, .agg [.int .i64 a, .int .i64 b, .int .i64 c]] = some (rq t) := m25
 have hWt : FG t (.fs 1 (ag t.order)) (.fs 1 (ag t.starts)) (.fs 1 (ag t.proof)) := ⟨⟨.inr rfl, .inr rfl, .inr rfl, by unfold inI; omega, by have := hB.ol; omega, by have := hB.stl; omega, g6, by have := hB.prl; omega, g7⟩, by have := hW.ol; omega, g5⟩
 obtain ⟨cv6, ov7, sv7, pv7, h2, h3, h4, h6, f12⟩ := CX hcv (p := s.period) hs.o hs.st hs.pr
 have hWf : FG ⟨s.period, s.order.take 7, s.starts.take 7, s.proof.take 12⟩ ov7 sv7 pv7 := ⟨⟨h2, h3, h4, hs.per, by simp; omega, by simp; omega, fun z hz => hs.sti z (List.mem_of_mem_take hz), by simp; omega, fun z hz => hs.pri z (List.mem_of_mem_take hz)⟩, by simp; omega, fun z hz => hsi z (List.mem_of_mem_take hz)⟩
 obtain ⟨t6, ht6⟩ : ∃ t', t' = aD { T with ch := T.ch.take 6 } cv6 := ⟨_, rfl⟩
 rw [<- ht6] at f12
 obtain ⟨F, hF⟩ : ∃ F, F = AV.agg [.int .i64 s.period, ov7, sv7, pv7] := ⟨_, rfl⟩
 rw [<- hF] at f12
 obtain ⟨Z, hZ⟩ : ∃ Z, Z = AV.agg [.int .i64 s.period, ov, sv, pv] := ⟨_, rfl⟩
 rw [<- hZ] at f12 ⊢
 obtain ⟨H, hH⟩ : ∃ H, H = AV.agg [.int .i64 a, .int .i64 b, .int .i64 c] := ⟨_, rfl⟩
 rw [<- hH] at m25 ⊢
 obtain ⟨A9, hA9⟩ : ∃ A, A = [Ent.row 5 false [x5A x], .row 4 false [Z], .row 3 false [H], .row 5 false [aD T chv], .row 4 false [gg S], .row 4 false [gg S], .row 5 false [t6], .row 4 false [F], .row 4 false [gg S, F, rq t]] := ⟨_, rfl⟩
 have g38 : A9[3]? = some (.row 5 false [aD T chv]) := by rw [hA9]; rfl
 have g8 : A9[8]? = some (.row 4 false [gg S, F, rq t]) := by rw [hA9]; rfl
 have kp : ∀ {j : Nat} {e : Ent} (X : ac), A9[j]? = some e -> (A9 ++ X)[j]? = some e := fun {j e} X h => by
  rw [List.getElem?_append_left (List.getElem?_eq_some_iff.1 h).1]; exact h
 have ix : ∀ {A : ac} {i : Nat}, A[8]? = some (.row 4 false [gg S, F, rq t]) -> i < 3 -> ab 4 A (.sl 8 0 3) (.int .i64 (i : Int)) = some (.ptr 8 i 0) := fun {A i} h hi => by simp [ab, h]; omega
 have ld0 : ∀ {A : ac}, A[8]? = some (.row 4 false [gg S, F, rq t]) -> ae true 4 A (.ptr 8 0 0) = some (gg S) := fun {A} h => by simp [ae, h, gg, dD]
 have ld1 : ∀ {A : ac}, A[8]? = some (.row 4 false [gg S, F, rq t]) -> ae true 4 A (.ptr 8 1 0) = some (.agg [.int .i64 s.period, ov7, sv7, pv7]) := fun {A} h => by simp [ae, h, hF, dD]
 have ld2 : ∀ {A : ac}, A[8]? = some (.row 4 false [gg S, F, rq t]) -> ae true 4 A (.ptr 8 2 0) = some (rq t) := fun {A} h => by simp [ae, h, rq, dD]
 obtain ⟨X1, r1⟩ := vJ hcv hl g38 hW (ix g8 (i := 0) (by omega)) (ld0 g8) (by omega) (.bool true)
 obtain ⟨X2, r2⟩ := vJ hcv hl (kp X1 g38) hWf (ix (kp X1 g8) (i := 1) (by omega)) (ld1 (kp X1 g8)) (by omega) (.bool true)
 rw [List.append_assoc] at r2
 obtain ⟨X3, r3⟩ := vJ hcv hl (kp (X1 ++ X2) g38) hWt (ix (kp (X1 ++ X2) g8) (i := 2) (by omega)) (ld2 (kp (X1 ++ X2) g8)) (by omega) (.bool true)
 obtain ⟨Y1, hY1⟩ : ∃ Y, Y = A9 ++ X1 := ⟨_, rfl⟩
 obtain ⟨Y2, hY2⟩ : ∃ Y, Y = A9 ++ (X1 ++ X2) := ⟨_, rfl⟩
 obtain ⟨Y3, hY3⟩ : ∃ Y, Y = A9 ++ (X1 ++ X2) ++ X3 := ⟨_, rfl⟩
 rw [<- hY1] at r1 r2
 rw [<- hY2] at r2
 rw [<- hY3, <- hY2] at r3
 have lp : bg (evC (au GC fsQ) 300 om) pL 300 (lE (.bool true) (.ptr 3 0 0) (.sl 8 0 3) (.int .i64 3) (.int .i64 0)) A9 = some (.exit 0 ((lE (.bool true) (.ptr 3 0 0) (.sl 8 0 3) (.int .i64 3) (.int .i64 3)).set 20 (.bool false)) Y3) := by
  have b0 : af .lss (.int .i64 3) (.int .i64 3) = some (.bool false) := by rw [ed]; rfl
  have r1 : run (au GC fsQ) 300 [.code om] (lE (.bool true) (.ptr 3 0 0) (.sl 8 0 3) (.int .i64 3) (.int .i64 0)) A9 = some (.normal (lE (.bool true) (.ptr 3 0 0) (.sl 8 0 3) (.int .i64 3) (.int .i64 1)) Y1) := r1
  have r2 : run (au GC fsQ) 300 [.code om] (lE (.bool true) (.ptr 3 0 0) (.sl 8 0 3) (.int .i64 3) (.int .i64 1)) Y1 = some (.normal (lE (.bool true) (.ptr 3 0 0) (.sl 8 0 3) (.int .i64 3) (.int .i64 2)) Y2) := r2
  have r3 : run (au GC fsQ) 300 [.code om] (lE (.bool true) (.ptr 3 0 0) (.sl 8 0 3) (.int .i64 3) (.int .i64 2)) Y2 = some (.normal (lE (.bool true) (.ptr 3 0 0) (.sl 8 0 3) (.int .i64 3) (.int .i64 3)) Y3) := r3
  rw [show (300 : Nat) = 296 + 1 + 1 + 1 + 1 from rfl]
  rw [aQ, xv, show (296 + 1 + 1 + 1 + 1 : Nat) = 300 from rfl, r1]
  simp only
  rw [aQ, xv, r2]
  simp only
  rw [aQ, xv, r3]
  simp only
  rw [aQ, xv]
  simp [om, b0, -af]
 have ft := fun A => cO (T := T) (fun A n => hcv.frz (A := A) n) A 3
 have nt := eV (T := T) (fun n => hcv.noRef n) 3
 have fx : ∀ A, frz A 4 (x5A x) = x5A x := fun A => by simp [x5A, frz]
 have fy : ∀ A, frz A 4 yv = yv := fun A => hy.frz 4
 have fS := fun A => yp S A 3
 have nS := ul S 3
 have fZ : ∀ A, frz A 4 Z = Z := fun A => by
  have k1 := fun n => hs.o.frz (A := A) n
  have k2 := fun n => hs.st.frz (A := A) n
  have k3 := fun n => hs.pr.frz (A := A) n
  rw [hZ]; simp [frz, k1, k2, k3]
 have nZ : be 4 Z = true := by
  have k1 := fun n => hs.o.noRef n
  have k2 := fun n => hs.st.noRef n
  have k3 := fun n => hs.pr.noRef n
  rw [hZ]; simp [be, k1, k2, k3]
 have fH : ∀ A, frz A 4 H = H := fun A => by rw [hH]; simp [frz]
 have cx : (cellsOf (x5A x)).length = 5 := rfl
 have cZ : (cellsOf Z).length = 4 := by rw [hZ]; rfl
 have cH : (cellsOf H).length = 3 := by rw [hH]; rfl
 have bx0 : aV 5 (x5A x) [] = some (.ptr 0 0 0, [.row 5 false [x5A x]]) := rfl
 have bx1 : ∀ e0, aV 4 Z [e0] = some (.ptr 1 0 0, [e0, .row 4 false [Z]]) := fun e0 => by rw [hZ]; rfl
 have bx2 : ∀ e0 e1, aV 3 H [e0, e1] = some (.ptr 2 0 0, [e0, e1, .row 3 false [H]]) := fun e0 e1 => by rw [hH]; rfl
 have lx : ∀ X, ae true 5 (.row 5 false [x5A x] :: X) (.ptr 0 0 0) = some (x5A x) := fun X => rfl
 have lZ : ∀ e0 X, ae true 4 (e0 :: .row 4 false [Z] :: X) (.ptr 1 0 0) = some Z := fun e0 X => by rw [hZ]; rfl
 have lH : ∀ e0 e1 X, ae true 3 (e0 :: e1 :: .row 3 false [H] :: X) (.ptr 2 0 0) = some H := fun e0 e1 X => by rw [hH]; rfl
 have bx3 : ∀ e0 e1 e2 : Ent, aV 5 (.agg [.nilS, .int .i64 0, .int .i64 0, .int .i64 0, .int .i64 0]) [e0, e1, e2] = some (.ptr 3 0 0, [e0, e1, e2, .row 5 false [.agg [.nilS, .int .i64 0, .int .i64 0, .int .i64 0, .int .i64 0]]]) := fun e0 e1 e2 => rfl
 have s3 : ∀ e0 e1 e2 : Ent, aw 5 [e0, e1, e2, .row 5 false [.agg [.nilS, .int .i64 0, .int .i64 0, .int .i64 0, .int .i64 0]]] (.ptr 3 0 0) (aD T chv) = some [e0, e1, e2, .row 5 false [aD T chv]] := fun e0 e1 e2 => by
  rcases hcv with ⟨rfl, _⟩ | rfl <;> simp [aw, aJ, aD]
 have l3 : ∀ e0 e1 e2 X, ae true 5 (e0 :: e1 :: e2 :: .row 5 false [aD T chv] :: X) (.ptr 3 0 0) = some (aD T chv) := fun e0 e1 e2 X => rfl
 have bx4 : ∀ e0 e1 e2 e3 : Ent, aV 4 (.agg [.int .i64 0, .nilS, .nilS, .nilS]) [e0, e1, e2, e3] = some (.ptr 4 0 0, [e0, e1, e2, e3, .row 4 false [zA]]) := fun e0 e1 e2 e3 => rfl
 have s4 : ∀ e0 e1 e2 e3 : Ent, aw 4 [e0, e1, e2, e3, .row 4 false [zA]] (.ptr 4 0 0) (gg S) = some [e0, e1, e2, e3, .row 4 false [gg S]] := fun e0 e1 e2 e3 => by
  simp [aw, aJ, zA, gg]
 have l4 : ∀ e0 e1 e2 e3 X, ae true 4 (e0 :: e1 :: e2 :: e3 :: .row 4 false [gg S] :: X) (.ptr 4 0 0) = some (gg S) := fun e0 e1 e2 e3 X => rfl
 have bx5 : ∀ e0 e1 e2 e3 e4 : Ent, aV 4 (.agg [.int .i64 0, .nilS, .nilS, .nilS]) [e0, e1, e2, e3, e4] = some (.ptr 5 0 0, [e0, e1, e2, e3, e4, .row 4 false [zA]]) := fun e0 e1 e2 e3 e4 => rfl
 have s5 : ∀ e0 e1 e2 e3 e4 : Ent, aw 4 [e0, e1, e2, e3, e4, .row 4 false [zA]] (.ptr 5 0 0) (gg S) = some [e0, e1, e2, e3, e4, .row 4 false [gg S]] := fun e0 e1 e2 e3 e4 => by
  simp [aw, aJ, zA, gg]
 have l5 : ∀ e0 e1 e2 e3 e4 X, ae true 4 (e0 :: e1 :: e2 :: e3 :: e4 :: .row 4 false [gg S] :: X) (.ptr 5 0 0) = some (gg S) := fun e0 e1 e2 e3 e4 X => rfl
 have bx6 : ∀ e0 e1 e2 e3 e4 e5 : Ent, aV 5 (.agg [.nilS, .int .i64 0, .int .i64 0, .int .i64 0, .int .i64 0]) [e0, e1, e2, e3, e4, e5] = some (.ptr 6 0 0, [e0, e1, e2, e3, e4, e5, .row 5 false [.agg [.nilS, .int .i64 0, .int .i64 0, .int .i64 0, .int .i64 0]]]) := fun e0 e1 e2 e3 e4 e5 => rfl
 have bx7 : ∀ e0 e1 e2 e3 e4 e5 e6 : Ent, aV 4 (.agg [.int .i64 0, .nilS, .nilS, .nilS]) [e0, e1, e2, e3, e4, e5, e6] = some (.ptr 7 0 0, [e0, e1, e2, e3, e4, e5, e6, .row 4 false [zA]]) := fun e0 e1 e2 e3 e4 e5 e6 => rfl
 have s6 : ∀ e0 e1 e2 e3 e4 e5 X, aw 5 (e0 :: e1 :: e2 :: e3 :: e4 :: e5 :: .row 5 false [.agg [.nilS, .int .i64 0, .int .i64 0, .int .i64 0, .int .i64 0]] :: X) (.ptr 6 0 0) t6 = some (e0 :: e1 :: e2 :: e3 :: e4 :: e5 :: .row 5 false [t6] :: X) := fun e0 e1 e2 e3 e4 e5 X => by
  rw [ht6]
  rcases h6 with ⟨rfl, _⟩ | rfl <;> simp [aw, aJ, aD]
 have s7 : ∀ e0 e1 e2 e3 e4 e5 e6 : Ent, aw 4 [e0, e1, e2, e3, e4, e5, e6, .row 4 false [zA]] (.ptr 7 0 0) F = some [e0, e1, e2, e3, e4, e5, e6, .row 4 false [F]] := fun e0 e1 e2 e3 e4 e5 e6 => by
  rw [hF]
  rcases h2 with ⟨rfl, _⟩ | rfl <;> rcases h3 with ⟨rfl, _⟩ | rfl <;> rcases h4 with ⟨rfl, _⟩ | rfl <;> simp [aw, aJ, zA]
 have l7 : ∀ e0 e1 e2 e3 e4 e5 e6, ae true 4 [e0, e1, e2, e3, e4, e5, e6, .row 4 false [F]] (.ptr 7 0 0) = some F := fun e0 e1 e2 e3 e4 e5 e6 => by rw [hF]; rfl
 have bS : ∀ e0 e1 e2 e3 e4 e5 e6 e7, aC 4 [gg S, F, rq t] [e0, e1, e2, e3, e4, e5, e6, e7] = some (.sl 8 0 3, [e0, e1, e2, e3, e4, e5, e6, e7, .row 4 false [gg S, F, rq t]]) := fun e0 e1 e2 e3 e4 e5 e6 e7 => by
  rw [hF]
  rcases h2 with ⟨rfl, _⟩ | rfl <;> rcases h3 with ⟨rfl, _⟩ | rfl <;> rcases h4 with ⟨rfl, _⟩ | rfl <;> simp [aC, gg, rq]
 have hl2 : aj (.sl 8 0 3) = some (.int .i64 3) := rfl
 have b1 := i9 q q
 rw [decide_eq_false (by simp)] at b1
 obtain ⟨tt, htt⟩ : ∃ t, t = aD T chv := ⟨_, rfl⟩
 rw [<- htt] at m13 m22 m23 f12 nt hA9
 simp only [<- htt] at ft s3 l3
 obtain ⟨SA, hSA⟩ : ∃ t, t = gg S := ⟨_, rfl⟩
 rw [<- hSA] at m22 m23 m24 m25 nS hA9
 simp only [<- hSA] at fS s4 l4 s5 l5 bS
 obtain ⟨SF, hSF⟩ : ∃ t', t' = rq t := ⟨_, rfl⟩
 rw [<- hSF] at m25 hA9
 simp only [<- hSF] at bS
 obtain ⟨X, hX⟩ : ∃ X, X = x5A x := ⟨_, rfl⟩
 rw [<- hX] at m13 cx hA9 bx0 ⊢
 simp only [<- hX] at fx lx
 rw [hA9] at lp
 rw [aN _ _ rfl]
 simp [mf4, bx0, bx1, bx2, bx3, bx4, bx5, bx6, bx7, cx, cZ, cH, lx, lZ, lH, fx, fy, fZ, nZ, fH, fS, nS, ft, nt, m13, m22, m23, m24, m25, f12, s3, l3, s4, l4, s5, l5, s6, s7, l7, bS, hl2, b1, F5 lp, aZ, qG, -af, -ae, -aw, -aV, -aj, -aC, -frz, -cellsOf]
theorem ev4L (args : List AV) (h : fG Try.prog 8 Try.f4.params.toList args) : ∃ fuel, evP (au GC fsQ) fuel mf4 1 args = some (.bool true) := by
 rw [Try.params4] at h
 obtain ⟨a, r, rfl, h0, h⟩ := h.cons
 obtain ⟨b, r, rfl, h1, h⟩ := h.cons
 obtain ⟨c, r, rfl, h2, h⟩ := h.cons
 obtain ⟨d, r, rfl, h3, h⟩ := h.cons
 obtain rfl := h.nil
 obtain ⟨x, rfl, hx⟩ := De (n := 6) h0
 obtain ⟨ys, hy, hys, _⟩ := yn (n := 5) h1
 obtain ⟨s, ov, sv, pv, rfl, hs, hsi⟩ := uk (n := 5) h2
 obtain ⟨p, q, u, rfl, hp, hq, hu⟩ := vg (n := 6) h3
 exact ⟨300, ev4 hx hys hy hs hsi hp hq hu⟩
end Go.Proofs.Ytemklhljjaniaaa
