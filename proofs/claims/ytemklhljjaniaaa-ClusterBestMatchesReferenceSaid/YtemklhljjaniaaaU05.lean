import Derived.Test.YtemklhljjaniaaaU04
import Derived.Test.YtemklhljjaniaaaChecked
import Derived.KernelRfl
set_option maxRecDepth 100000
set_option maxHeartbeats 4000000
noncomputable section
namespace Go.Proofs.Ytemklhljjaniaaa
namespace Cy
open Go
def iq (l : List aW) (i : Int) : aW := l.getD i.toNat ⟨0, 0, 0, 0⟩
def exL (p : Int) (l : List aW) : List Int -> Int -> Int -> Int -> Option (Int × Int)
 | [], _, s, t => some (s, t)
 | i :: r, at_, s, t => if (iq l i).f = at_ then exL p l r (iq l i).t (s + (iq l i).len p) (t + (iq l i).k) else none
def j6 (l : List aW) (xs : List Int) : Prop := ∀ x ∈ xs, 0 <= x /\ x <= (l.length : Int) - 1
instance (l : List aW) (xs : List Int) : Decidable (j6 l xs) := inferInstanceAs (Decidable (∀ x ∈ xs, _))
def exM (p : Int) (l : List aW) (xs : List Int) : Option (Int × Int) := if (1 <= xs.length /\ xs.length <= 200) /\ j6 l xs then exL p l xs (iq l (xs.getLastD 0)).t 0 0 else none
theorem pp (l : List aW) (s : List Int) : s.any (kF l.length) = false ↔ j6 l s := by
 rw [List.any_eq_false]; unfold kF j6; simp
theorem kB {l : List aW} {x : Int} (h : 0 <= x /\ x <= (l.length : Int) - 1) : ∃ (j : Nat) (hj : j < l.length), x = (j : Int) /\ iq l x = l[j] := by
 refine ⟨x.toNat, by omega, by omega, ?_⟩
 unfold iq
 rw [List.getD_eq_getElem?_getD, List.getElem?_eq_getElem (by omega)]; rfl
def IB : MC := .region [⟨none, .indexSl 1 (.var 12) (.var 14), none⟩, ⟨none, .load false 1 (.tmp 0), none⟩, ⟨some 8, .mv (.tmp 1), none⟩]
def IA : MC := .region [⟨none, .load false 1 (.var 2), none⟩, ⟨none, .nilCheck (.tmp 0), none⟩, ⟨none, .fieldAddr 1 (.tmp 1), none⟩, ⟨none, .load false 1 (.tmp 2), none⟩, ⟨none, .mv (.var 8), none⟩, ⟨none, .indexSl 6 (.tmp 3) (.tmp 4), none⟩, ⟨none, .load true 6 (.tmp 5), none⟩, ⟨some 9, .alloc 6 (.agg [.int .i64 0, .int .i64 0, .int .i64 0, .int .i64 0, .int .i64 0, .int .i64 0]), none⟩, ⟨none, .store 6 (.var 9) (.tmp 6), none⟩]
def Iz : MC := .region [⟨none, .fieldAddr 0 (.var 9), none⟩, ⟨none, .fieldAddr 0 (.tmp 0), none⟩, ⟨none, .load false 1 (.tmp 1), none⟩, ⟨none, .mv (.var 7), none⟩, ⟨some 16, .bin .neq (.tmp 2) (.tmp 3), none⟩]
def Iy : MC := .region [⟨some 3, .mv (.cst (.int .i64 0)), none⟩, ⟨some 4, .mv (.cst (.int .i64 0)), none⟩, ⟨some 5, .mv (.cst (.bool false)), none⟩]
def Ix : MC := .region [⟨none, .mv (.var 3), none⟩, ⟨none, .fieldAddr 5 (.var 9), none⟩, ⟨none, .load false 1 (.tmp 1), none⟩, ⟨none, .bin .add (.tmp 0) (.tmp 2), none⟩, ⟨none, .mv (.var 4), none⟩, ⟨none, .fieldAddr 0 (.var 9), none⟩, ⟨none, .fieldAddr 3 (.tmp 5), none⟩, ⟨none, .load false 1 (.tmp 6), none⟩, ⟨none, .bin .add (.tmp 4) (.tmp 7), none⟩, ⟨none, .fieldAddr 0 (.var 9), none⟩, ⟨none, .fieldAddr 1 (.tmp 9), none⟩, ⟨none, .load false 1 (.tmp 10), none⟩, ⟨some 3, .mv (.tmp 3), none⟩, ⟨some 4, .mv (.tmp 8), none⟩, ⟨some 7, .mv (.tmp 11), none⟩]
theorem AW : m5 = .seq (.region [⟨some 15, .bin .lss (.var 14) (.var 13), none⟩]) (.seq (.cond (.var 15) .skip (.exit 0)) (.seq (.seq (.block 1 (.seq IB (.seq IA (.seq (.seq Iz (.cond (.var 16) (.seq Iy .ret) .skip)) Ix)))) (.kill [0, 1, 5, 6, 8, 9, 10, 11, 15, 16])) (.region [⟨none, .bin .add (.var 14) (.cst (.int .i64 1)), none⟩, ⟨some 14, .mv (.tmp 0), none⟩]))) := rfl
theorem FO (E : Env) (fuel : Nat) (K : List KC) (X : MC) {A : ac} {n j i : Nat} {p : Int} {l : List aW} {xs : List Int} {c : AV} (hc : SlA 1 (ag xs) c) (hi : i < xs.length) (hx : xs[i] = (j : Int)) (hj : j < l.length) (hA : A[0]? = some (.row 1 false [cC n p l])) (v3 v4 v7 v13 v15 v16 : AV) :
  run E fuel (.code (.seq IB (.seq IA X)) :: K) [.undef, .undef, .ptr 0 0 0, v3, v4, .undef, .undef, v7, .undef, .undef, .undef, .undef, c, v13, .int .i64 (i : Int), v15, v16] A =
   run E fuel (.code X :: K) [.undef, .undef, .ptr 0 0 0, v3, v4, .undef, .undef, v7, .int .i64 (j : Int), .ptr A.length 0 0, .undef, .undef, c, v13, .int .i64 (i : Int), v15, v16] (A ++ [.row 6 false [wA p (l[j], j)]]) := by
 have x1 := hc.int (A := A) _ _ (List.getElem?_eq_getElem hi) .i64
 rw [hx] at x1
 have x2 := qj p hj A .i64
 obtain ⟨W1, O, hW, hW1⟩ : ∃ W1 O, cC n p l = .fp [.int .i64 (n : Int), W1, O] /\ W1 = slA 6 (wAs p (num l)) := ⟨_, _, rfl, rfl⟩
 rw [<- hW1] at x2
 rw [hW] at hA
 simp [IB, IA, x1, x2, hA, wA, -ab]
theorem BM (E : Env) (fuel : Nat) {A : ac} {n i : Nat} {p : Int} {l : List aW} (hr : a6 n l p) {xs : List Int} {c : AV} (hc : SlA 1 (ag xs) c) (hl : xs.length <= 200) (hin : j6 l xs) (hi : i < xs.length) (hA : A[0]? = some (.row 1 false [cC n p l])) {s t at_ : Int} (hs : -(3000000 * (i : Int)) <= s /\ s <= 3000000 * i) (ht : -(2 * (i : Int)) <= t /\ t <= 2 * i) :
  ∃ A', A'[0]? = some (.row 1 false [cC n p l]) /\ ∃ v8 v9 v15 v16, run E fuel [.code m5] (mF (.ptr 0 0 0) (.int .i64 s) (.int .i64 t) (.int .i64 at_) c (.int .i64 (xs.length : Int)) (.int .i64 (i : Int))) A =
   if (iq l xs[i]).f = at_ then some (.normal (mF (.ptr 0 0 0) (.int .i64 (s + (iq l xs[i]).len p)) (.int .i64 (t + (iq l xs[i]).k)) (.int .i64 (iq l xs[i]).t) c (.int .i64 (xs.length : Int)) (.int .i64 ((i + 1 : Nat) : Int))) A')
   else some (.ret [.undef, .undef, .ptr 0 0 0, .int .i64 0, .int .i64 0, .bool false, .undef, .int .i64 at_, v8, v9, .undef, .undef, c, .int .i64 (xs.length : Int), .int .i64 (i : Int), v15, v16] A') := by
 obtain ⟨j, hj, hx, he⟩ := kB (hin _ (List.getElem_mem hi))
 rw [he]
 have hmem := hr.1.2.2 _ (List.getElem_mem hj)
 have hn32 := hr.1.1
 have hlen := dT (n := 32) (a := l[j]) ⟨⟨by have := hmem.1; omega, by have := hmem.1; omega⟩, ⟨by have := hmem.2.1; omega, by have := hmem.2.1; omega⟩, hmem.2.2.1, hmem.2.2.2⟩ hr.2
 have htok := hmem.2.2.2
 have r1 := fun K X => FO E fuel K X hc hi hx hj hA (.int .i64 s) (.int .i64 t) (.int .i64 at_) (.int .i64 (xs.length : Int)) (.bool true) .undef
 obtain ⟨B, hB⟩ : ∃ B, B = A ++ [.row 6 false [wA p (l[j], j)]] := ⟨_, rfl⟩
 have hBv : B[A.length]? = some (.row 6 false [wA p (l[j], j)]) := by rw [hB]; simp
 have hB0 : B[0]? = some (.row 1 false [cC n p l]) := by rw [hB, List.getElem?_append_left (List.getElem?_eq_some_iff.1 hA).1]; exact hA
 rw [<- hB] at r1
 unfold wA at hBv
 simp only at hBv
 have b1 := bc i xs.length .i64
 rw [decide_eq_true hi] at b1
 have b3 := aK i (by omega)
 obtain ⟨i1, hi1⟩ : ∃ i1 : Nat, i1 = i + 1 := ⟨_, rfl⟩
 rw [<- hi1] at b3 ⊢
 have b2 : af .neq (.int .i64 l[j].f) (.int .i64 at_) = some (.bool (decide (l[j].f ≠ at_))) := by simp [af]
 obtain ⟨w, hw⟩ : ∃ w, w = l[j].len p := ⟨_, rfl⟩
 rw [<- hw] at hlen hBv ⊢
 have b4 : af .add (.int .i64 s) (.int .i64 w) = some (.int .i64 (s + w)) := by
  simp only [af]; rw [if_pos trivial, dl (by unfold inI; omega)]
 have b5 : af .add (.int .i64 t) (.int .i64 l[j].k) = some (.int .i64 (t + l[j].k)) := by
  simp only [af]; rw [if_pos trivial, dl (by unfold inI; omega)]
 obtain ⟨vid, hvid⟩ : ∃ vid, vid = A.length := ⟨_, rfl⟩
 rw [<- hvid] at r1 hBv
 refine ⟨B, hB0, .int .i64 (j : Int), .ptr vid 0 0, .bool true, .bool true, ?_⟩
 by_cases h : l[j].f = at_
 ·rw [if_pos h]
  rw [decide_eq_false (not_not_intro h)] at b2
  rw [AW]
  simp [b1, b3, r1, Iz, Iy, Ix, hBv, b2, b4, b5, -af]
 ·rw [if_neg h]
  rw [decide_eq_true h] at b2
  rw [AW]
  simp [b1, r1, Iz, Iy, Ix, hBv, b2, -af]
def uX : List (FuncId × aL) := [(60, aF 4 M32), (61, aF 4 M36)]
@[simp] theorem Gp : aB uX 60 = some (aF 4 M32) := rfl
@[simp] theorem Gn : aB uX 61 = some (aF 4 M36) := rfl
theorem rE : ∀ f M, aB uX f = some M -> an Try.prog GC f M := ak (an.of_pure vr 4) (ak (an.of_pure sV 4) az)
def M40 : aT := fun args => evP (au GC uX) 300 yc 5 args
theorem sU : aq Try.prog GC 57 M40 := aq.of_ev (E := au GC uX) (av rE) rfl H2 wY 5 fun _ _ h => ⟨300, h⟩
def exT (r : Option (Int × Int)) : AV := .tup [.int .i64 (r.getD (0, 0)).1, .int .i64 (r.getD (0, 0)).2, .bool r.isSome]
theorem ua {n : Nat} {p : Int} {l : List aW} (hr : a6 n l p) {xs : List Int} {c : AV} (hc : SlA 1 (ag xs) c) (hmx : xs.length <= 9223372036854775807) : M40 [cC n p l, c] = some (exT (exM p l xs)) := by
 have hlen := hc.len
 rw [aA] at hlen
 have m32 := ee (xs.length : Int) 1 200
 have f1 : ∀ A n, frz A n c = c := fun A n => hc.frz n
 unfold M40
 rw [aN _ _ rfl]
 obtain ⟨W1, O, hW, hW1⟩ : ∃ W1 O, cC n p l = .fp [.int .i64 (n : Int), W1, O] /\ W1 = slA 6 (wAs p (num l)) := ⟨_, _, rfl, rfl⟩
 by_cases h1 : 1 <= xs.length /\ xs.length <= 200
 rotate_left
 ·rw [decide_eq_false (by omega)] at m32
  have e : exM p l xs = none := if_neg fun h => h1 h.1
  rw [e, hW]
  simp [yc, hlen, m32, exT, -aj]
 rw [decide_eq_true (by omega)] at m32
 have m45 := A5 (f := 75) (cap := [.fp [cC n p l]]) (Mf := M46) rfl (q := kF l.length) (xs := xs) (fun x _ A => x7 hr.1.2.1 x) hc h1.2
 have m36 := A6 (q := kF l.length) hc (fun A => rfl) m45
 have hfz : frz [.row 1 false [cC n p l]] 4 (.func (.func 75) [] [.ptr 0 0 0]) = .func (.func 75) [] [.fp [cC n p l]] := rfl
 by_cases h2 : j6 l xs
 rotate_left
 ·have h2' : xs.any (kF l.length) = true := by
   cases h : xs.any (kF l.length) with
   | true => rfl
   | false => exact absurd ((pp l xs).1 h) h2
  rw [h2'] at m36
  have e : exM p l xs = none := if_neg fun h => h2 h.2
  rw [e]
  rw [hW] at m36 hfz ⊢
  simp [yc, hlen, m32, f1, hfz, m36, exT, bQ, aS, -aj, -frz]
  simp [frz]
 rw [(pp l xs).2 h2] at m36
 have hex : exM p l xs = exL p l xs (iq l (xs.getLastD 0)).t 0 0 := if_pos ⟨h1, h2⟩
 have hlast : xs.length - 1 < xs.length := by omega
 obtain ⟨j, hj, hx, he⟩ := kB (h2 _ (List.getElem_mem hlast))
 have hgl : xs.getLastD 0 = xs[xs.length - 1] := by
  rw [List.getLastD_eq_getLast?, List.getLast?_eq_getElem?, List.getElem?_eq_getElem hlast]; rfl
 rw [hgl, he] at hex
 have x1 : ∀ A, ab 1 A c (.int .i64 ((xs.length - 1 : Nat) : Int)) = some (.fp [.int .i64 (j : Int)]) := fun A => by
  have := hc.int (A := A) _ _ (List.getElem?_eq_getElem hlast) .i64
  rwa [hx] at this
 have x2 := fun A => qj p hj A .i64
 have b0 : af .sub (.int .i64 (xs.length : Int)) (.int .i64 1) = some (.int .i64 ((xs.length - 1 : Nat) : Int)) := by
  simp only [af]; rw [if_pos trivial, dl (by unfold inI; omega)]; congr 2; omega
 obtain ⟨o, lp, ho⟩ := da (E := au GC uX) (fuel := 300) (a := m5) (mask := ma)
  (fun κ σ A => ∃ (i : Nat) (s t at_ : Int), i + κ = xs.length /\ σ = mF (.ptr 0 0 0) (.int .i64 s) (.int .i64 t) (.int .i64 at_) c (.int .i64 (xs.length : Int)) (.int .i64 (i : Int)) /\ A[0]? = some (.row 1 false [cC n p l]) /\ exL p l xs l[j].t 0 0 = exL p l (xs.drop i) at_ s t /\ (-(3000000 * (i : Int)) <= s /\ s <= 3000000 * i) /\ (-(2 * (i : Int)) <= t /\ t <= 2 * i))
  (fun o => (∃ s t at_ A', exL p l xs l[j].t 0 0 = some (s, t) /\ o = .exit 0 ((mF (.ptr 0 0 0) (.int .i64 s) (.int .i64 t) (.int .i64 at_) c (.int .i64 (xs.length : Int)) (.int .i64 (xs.length : Int))).set 15 (.bool false)) A') \/
   (exL p l xs l[j].t 0 0 = none /\ ∃ v7 v8 v9 v14 v15 v16 A', o = .ret [.undef, .undef, .ptr 0 0 0, .int .i64 0, .int .i64 0, .bool false, .undef, v7, v8, v9, .undef, .undef, c, .int .i64 (xs.length : Int), v14, v15, v16] A'))
  (by
   rintro κ σ A ⟨i, s, t, at_, hik, rfl, hA, hexi, hs, ht⟩
   rw [AI]
   by_cases hi : i < xs.length
   ·obtain ⟨A', hA', v8, v9, v15, v16, hrun⟩ := BM (au GC uX) 300 hr hc h1.2 h2 hi hA (at_ := at_) hs ht
    have hd : xs.drop i = xs[i] :: xs.drop (i + 1) := List.drop_eq_getElem_cons hi
    by_cases hf : (iq l xs[i]).f = at_
    ·rw [if_pos hf] at hrun
     rw [hd, exL, if_pos hf] at hexi
     obtain ⟨j2, hj2, hx2, he2⟩ := kB (h2 _ (List.getElem_mem hi))
     have hmem := hr.1.2.2 _ (List.getElem_mem hj2)
     have hn32 := hr.1.1
     have hlen2 := dT (n := 32) (a := l[j2]) ⟨⟨by have := hmem.1; omega, by have := hmem.1; omega⟩, ⟨by have := hmem.2.1; omega, by have := hmem.2.1; omega⟩, hmem.2.2.1, hmem.2.2.2⟩ hr.2
     have htok := hmem.2.2.2
     rw [he2] at hrun hexi
     exact .inl ⟨_, _, hrun, κ - 1, by omega, i + 1, _, _, _, by omega, rfl, hA', hexi, by omega, by omega⟩
    ·rw [if_neg hf] at hrun
     rw [hd, exL, if_neg hf] at hexi
     exact .inr ⟨_, hrun, (fun _ _ h => by cases h), .inr ⟨hexi, _, _, _, _, _, _, _, rfl⟩⟩
   ·obtain rfl : i = xs.length := by omega
    rw [List.drop_length, exL] at hexi
    refine .inr ⟨_, ?_, ?_, .inl ⟨s, t, at_, A, hexi, rfl⟩⟩
    ·simp [m5]
    ·intro _ _ h; cases h)
  300 xs.length (mF (.ptr 0 0 0) (.int .i64 0) (.int .i64 0) (.int .i64 l[j].t) c (.int .i64 (xs.length : Int)) (.int .i64 0)) [.row 1 false [cC n p l]] (by omega) ⟨0, 0, 0, _, by omega, rfl, rfl, rfl, by omega, by omega⟩
 rw [hex]
 rw [<- hW1] at x2
 rw [hW] at m36 hfz lp ⊢
 obtain ⟨q, hq⟩ : ∃ q, q = xs.length - 1 := ⟨_, rfl⟩
 rw [<- hq] at x1 b0
 rcases ho with ⟨s, t, at_, A', he1, rfl⟩ | ⟨he1, v7, v8, v9, v14, v15, v16, A', rfl⟩
 ·rw [he1]
  simp [yc, hlen, m32, f1, hfz, m36, b0, x1, x2, Af lp, exT, bQ, aS, -aj, -frz, -af, -ab]
  simp [frz]
 ·rw [he1]
  simp [yc, hlen, m32, f1, hfz, m36, b0, x1, x2, Af lp, exT, bQ, aS, -aj, -frz, -af, -ab]
  simp [frz]
open Go
def WL (L : List bZ) (u v j : Nat) (z : Int) : Prop := ∃ r, isW L u r v /\ r.length = j /\ hJ r = z
def dG (P : Int -> Prop) (y : LP) : Prop := (y = noL /\ ∀ z, ¬ P z) \/ (y.2 = true /\ P y.1 /\ ∀ z, P z -> z <= y.1)
theorem dG.congr {P Q : Int -> Prop} {y : LP} (h : dG P y) (hpq : ∀ z, P z ↔ Q z) : dG Q y := by
 rcases h with ⟨h1, h2⟩ | ⟨h1, h2, h3⟩
 ·exact .inl ⟨h1, fun z hz => h2 z ((hpq z).2 hz)⟩
 ·exact .inr ⟨h1, (hpq _).1 h2, fun z hz => h3 z ((hpq z).2 hz)⟩
theorem re {P Q : Int -> Prop} {x y : LP} (h1 : dG P x) (h2 : dG Q y) : dG (fun z => P z \/ Q z) (gk x y) := by
 obtain ⟨x1, x2⟩ := x
 obtain ⟨y1, y2⟩ := y
 rcases h1 with ⟨e1, a1⟩ | ⟨e1, a1, b1⟩
 ·have : gk (x1, x2) (y1, y2) = (y1, y2) := if_pos (.inl (by rw [e1]; rfl))
  rw [this]
  exact h2.congr fun z => ⟨.inr, fun h => h.elim (fun h => absurd h (a1 z)) id⟩
 ·simp only at e1 a1 b1
  rcases h2 with ⟨e2, a2⟩ | ⟨e2, a2, b2⟩
  ·have : gk (x1, x2) (y1, y2) = (x1, x2) := if_neg (by
    rw [e2, e1]
    rintro (h | ⟨h, _⟩) <;> cases h)
   rw [this]
   exact .inr ⟨e1, .inl a1, fun z h => h.elim (b1 z) fun h => absurd h (a2 z)⟩
  ·simp only at e2 a2 b2
   by_cases h : y1 > x1
   ·have : gk (x1, x2) (y1, y2) = (y1, y2) := if_pos (.inr ⟨e2, h⟩)
    rw [this]
    exact .inr ⟨e2, .inr a2, fun z hz => hz.elim (fun hz => by have := b1 z hz; simp only; omega) (b2 z)⟩
   ·have : gk (x1, x2) (y1, y2) = (x1, x2) := if_neg (by
     rw [e1]
     rintro (h' | ⟨_, h'⟩)
     ·cases h'
     ·exact h h')
    rw [this]
    exact .inr ⟨e1, .inl a1, fun z hz => hz.elim (b1 z) fun hz => by have := b2 z hz; simp only; omega⟩
theorem rc {P : Int -> Prop} {x : LP} (h : dG P x) (w : Int) : dG (fun z => ∃ z', P z' /\ z = w + z') (dN x w) := by
 rcases h with ⟨e, a⟩ | ⟨e, a, b⟩
 ·rw [e]
  exact .inl ⟨rfl, fun z ⟨z', h, _⟩ => a z' h⟩
 ·have : dN x w = (x.1 + w, x.2) := if_neg (by rw [e]; rintro ⟨h, _⟩; cases h)
  rw [this]
  refine .inr ⟨e, ⟨_, a, by simp only; omega⟩, ?_⟩
  rintro z ⟨z', h, rfl⟩
  have := b z' h
  simp only; omega
theorem nU : dG (fun _ => False) noL := .inl ⟨rfl, fun _ h => h⟩
theorem oa {L : List bZ} {u v : Nat} {z : Int} : WL L u v 0 z ↔ u = v /\ z = 0 := by
 constructor
 ·rintro ⟨r, h1, h2, h3⟩
  have : r = [] := List.length_eq_zero_iff.1 h2
  subst this
  exact ⟨h1, h3.symm⟩
 ·rintro ⟨rfl, rfl⟩
  exact ⟨[], rfl, rfl, rfl⟩
theorem sJ {L : List bZ} {u v j : Nat} {z : Int} : WL L u v (j + 1) z ↔ ∃ a ∈ L, a.1 = u /\ ∃ z', WL L a.2.1 v j z' /\ z = a.2.2 + z' := by
 constructor
 ·rintro ⟨r, h1, h2, h3⟩
  cases r with
  | nil => simp at h2
  | cons a r =>
   obtain ⟨k1, k2, k3⟩ := h1
   exact ⟨a, k1, k2, hJ r, ⟨r, k3, by simpa using h2, rfl⟩, h3.symm⟩
 ·rintro ⟨a, h1, h2, z', ⟨r, k1, k2, rfl⟩, rfl⟩
  exact ⟨a :: r, ⟨h1, h2, k1⟩, by simp [k2], rfl⟩
theorem r9 (n v : Nat) : (List.replicate n noL).getD v noL = noL := by
 rw [List.getD_eq_getElem?_getD]
 by_cases h : v < n <;> simp [h]
theorem tH {L0 : List bZ} {n to j : Nat} (hok : fC n L0) {h : List LP} (hh : ∀ u, u < n -> dG (WL L0 u to j) (h.getD u noL)) : ∀ (L : List bZ), (∀ a ∈ L, a ∈ L0) -> ∀ (next : List LP) (D : Nat -> Int -> Prop), next.length = n -> (∀ u, u < n -> dG (D u) (next.getD u noL)) ->
  ∀ u, u < n -> dG (fun z => D u z \/ ∃ a ∈ L, a.1 = u /\ ∃ z', WL L0 a.2.1 to j z' /\ z = a.2.2 + z') ((L.foldl (hst h) next).getD u noL)
 | [], _, next, D, hn, hD, u, hu => (hD u hu).congr fun z => ⟨.inl, fun h => h.elim id fun ⟨a, h, _⟩ => by cases h⟩
 | a :: L, hL, next, D, hn, hD, u, hu => by
  obtain ⟨o1, o2, _⟩ := hok a (hL a (by simp))
  have := tH hok hh L (fun b hb => hL b (by simp [hb])) (hst h next a) (fun u z => D u z \/ (a.1 = u /\ ∃ z', WL L0 a.2.1 to j z' /\ z = a.2.2 + z')) (by rw [sh, hn]) (fun v hv => by
   unfold hst
   rw [ic _ _ _ _ _ (by omega)]
   by_cases hav : a.1 = v
   ·rw [if_pos hav]
    subst hav
    exact (re (hD _ o1) (rc (hh _ o2) a.2.2)).congr fun z => by simp
   ·rw [if_neg hav]
    exact (hD v hv).congr fun z => ⟨.inl, fun h => h.elim id fun h => absurd h.1 hav⟩) u hu
  rw [List.foldl_cons]
  refine this.congr fun z => ?_
  constructor
  ·rintro ((h | ⟨h1, h2⟩) | ⟨b, h1, h2⟩)
   ·exact .inl h
   ·exact .inr ⟨a, by simp, h1, h2⟩
   ·exact .inr ⟨b, by simp [h1], h2⟩
  ·rintro (h | ⟨b, h1, h2⟩)
   ·exact .inl (.inl h)
   ·rcases List.mem_cons.1 h1 with rfl | h1
    ·exact .inl (.inr h2)
    ·exact .inr ⟨b, h1, h2⟩
theorem si {L : List bZ} {n to : Nat} (hok : fC n L) (hto : to < n) : ∀ (j u : Nat), u < n -> dG (WL L u to j) ((hm L n to j).getD u noL)
 | 0, u, hu => by
  unfold hm
  rw [ic _ _ _ _ _ (by simpa using hto)]
  by_cases h : to = u
  ·rw [if_pos h]
   exact .inr ⟨rfl, oa.2 ⟨h.symm, rfl⟩, fun z hz => by have := (oa.1 hz).2; simp only; omega⟩
  ·rw [if_neg h, r9]
   exact .inl ⟨rfl, fun z hz => h (oa.1 hz).1.symm⟩
 | j + 1, u, hu => by
  have := tH hok (si hok hto j) L (fun _ h => h) (List.replicate n noL) (fun _ _ => False) (by simp) (fun u _ => by rw [r9]; exact nU) u hu
  refine this.congr fun z => ?_
  rw [sJ]
  exact ⟨fun h => h.elim False.elim id, .inr⟩
def rv (l : List aW) : Int -> List eM -> Int -> Prop
 | u, [], v => u = v
 | u, x :: r, v => x ∈ num l /\ x.1.f = u /\ rv l x.1.t r v
def ga (p : Int) (xs : List eM) : Int := (xs.map fun x => x.1.len p).sum
def it (xs : List eM) : Int := (xs.map fun x => x.1.k).sum
def FL (xs : List eM) : Int := (xs.map fun x => x.1.w).sum
theorem wg (p : Int) : ∀ xs : List eM, ga p xs = FL xs - p * it xs
 | [] => by simp [ga, FL, it]
 | x :: r => by
  have := wg p r
  simp only [ga, FL, it, List.map_cons, List.sum_cons, aW.len] at this ⊢
  rw [this, Int.mul_add]; omega
def z6 (p : Int) (x : eM) : bZ := (x.1.f.toNat, x.1.t.toNat, x.1.len p)
theorem BW {p : Int} {l : List aW} {x : eM} (h : x ∈ num l) : z6 p x ∈ lar p l := by
 obtain ⟨hi, he⟩ := gi h
 exact List.mem_map.2 ⟨x.1, by rw [<- he]; exact List.getElem_mem hi, rfl⟩
theorem wi {p : Int} {l : List aW} {a : bZ} (h : a ∈ lar p l) : ∃ x ∈ num l, z6 p x = a := by
 obtain ⟨c, hc, rfl⟩ := List.mem_map.1 h
 obtain ⟨i, hi, rfl⟩ := List.mem_iff_getElem.1 hc
 exact ⟨(l[i], i), List.mem_of_getElem? (dc l i hi), rfl⟩
theorem oT {n : Int} {l : List aW} (hv : ∀ x ∈ l, okA n x) {x : eM} (h : x ∈ num l) : okA n x.1 := by
 obtain ⟨hi, he⟩ := gi h
 rw [<- he]; exact hv _ (List.getElem_mem hi)
theorem IK {n p : Int} {l : List aW} (hv : ∀ x ∈ l, okA n x) : ∀ {xs : List eM} {u v : Int}, rv l u xs v -> isW (lar p l) u.toNat (xs.map (z6 p)) v.toNat /\ hJ (xs.map (z6 p)) = ga p xs
 | [], u, v, h => ⟨by rw [show u = v from h]; rfl, rfl⟩
 | x :: r, u, v, ⟨h1, h2, h3⟩ => by
  obtain ⟨k1, k2⟩ := IK hv h3
  refine ⟨⟨BW h1, by rw [<- h2]; rfl, k1⟩, ?_⟩
  simp only [List.map_cons, hJ, k2, ga, List.sum_cons]
  rfl
section
variable {n to : Nat} {p : Int} {l : List aW} (hv : ∀ x ∈ l, okA n x) (hn32 : n <= 32) (hp : a8 p) (hto : to < n)
include hv hn32 hp hto
theorem mp {j : Nat} {sum : Int} {x : eM} (hx : x ∈ num l) : gH (hm (lar p l) n to j) p sum x = true ↔ ∃ z, WL (lar p l) x.1.t.toNat to j z /\ sum + x.1.len p + z > 0 := by
 have hok := oT hv hx
 have ht := hok.2.1
 have hb := si (lf hn32 hp hv) hto j x.1.t.toNat (by omega)
 unfold gH
 obtain ⟨y, hy⟩ : ∃ y, y = (hm (lar p l) n to j).getD x.1.t.toNat noL := ⟨_, rfl⟩
 rw [<- hy] at hb ⊢
 rcases hb with ⟨e, a⟩ | ⟨e, a, b⟩
 ·rw [e]
  constructor
  ·intro h
   have : dN noL (sum + x.1.len p) = noL := rfl
   rw [this] at h
   simp [noL] at h
  ·rintro ⟨z, hz, _⟩
   exact absurd hz (a z)
 ·have : dN y (sum + x.1.len p) = (y.1 + (sum + x.1.len p), y.2) := if_neg (by rw [e]; rintro ⟨h, _⟩; cases h)
  rw [this, e]
  simp only [Bool.true_and, decide_eq_true_eq]
  constructor
  ·intro h
   exact ⟨y.1, a, by omega⟩
  ·rintro ⟨z, hz, h⟩
   have := b z hz
   omega
theorem u9 : ∀ (r : Nat) (v sum : Int) (out : List Int), 0 <= v -> (∃ z, WL (lar p l) v.toNat to r z /\ sum + z > 0) ->
  ∃ xs : List eM, gL p l (hm (lar p l) n to) r sum (jI l v.toNat) out = some (out ++ xs.map fun x => (x.2 : Int)) /\ rv l v xs (to : Int) /\ xs.length = r /\ sum + ga p xs > 0
 | 0, v, sum, out, hv0, ⟨z, h1, h2⟩ => by
  obtain ⟨h3, rfl⟩ := oa.1 h1
  exact ⟨[], by simp [gL], by show v = (to : Int); omega, rfl, by simpa [ga] using h2⟩
 | r + 1, v, sum, out, hv0, ⟨z, h1, h2⟩ => by
  obtain ⟨a, ha, haf, z', hz', rfl⟩ := sJ.1 h1
  obtain ⟨x, hx, rfl⟩ := wi ha
  have hokx := oT hv hx
  have hxf : x.1.f = v := by
   have := hokx.1
   simp only [z6] at haf; omega
  have hxo : x ∈ jI l v.toNat := List.mem_filter.2 ⟨hx, by simp; omega⟩
  have hg : gH (hm (lar p l) n to r) p sum x = true := (mp hv hn32 hp hto hx).2 ⟨z', hz', by simp only [z6] at h2; omega⟩
  cases hf : (jI l v.toNat).find? (gH (hm (lar p l) n to r) p sum) with
  | none =>
   rw [List.find?_eq_none] at hf
   exact absurd hg (hf x hxo)
  | some b =>
   have hbg := List.find?_some hf
   have hbo := List.mem_of_find?_eq_some hf
   have hbn := (List.mem_filter.1 hbo).1
   have hbf := (List.mem_filter.1 hbo).2
   simp only [decide_eq_true_eq] at hbf
   have hokb := oT hv hbn
   obtain ⟨y, hy1, hy2⟩ := (mp hv hn32 hp hto hbn).1 hbg
   obtain ⟨xs, k1, k2, k3, k4⟩ := u9 r b.1.t (sum + b.1.len p) (out ++ [(b.2 : Int)]) hokb.2.1.1 ⟨y, hy1, hy2⟩
   refine ⟨b :: xs, ?_, ⟨hbn, by omega, k2⟩, by simp [k3], ?_⟩
   ·simp only [gL, hf, k1]
    simp
   ·simp only [ga, List.map_cons, List.sum_cons] at k4 ⊢
    omega
end
section
variable {n : Nat} {p : Int} {l : List aW} (hv : ∀ x ∈ l, okA n x) (hn32 : n <= 32) (hp : a8 p)
include hv hn32 hp
theorem rB {k : Nat} {x : eM} (hx : x ∈ num l) : (wk p l n (k + 1) x = none /\ ¬ ∃ z, WL (lar p l) x.1.t.toNat x.1.f.toNat k z /\ x.1.len p + z > 0) \/
  ∃ xs : List eM, wk p l n (k + 1) x = some (xs.map fun y => (y.2 : Int)) /\ rv l x.1.f xs x.1.f /\ xs.length = k + 1 /\ ga p xs > 0 := by
 have hok := oT hv hx
 have hto : x.1.f.toNat < n := by have := hok.1; omega
 unfold wk gL
 by_cases hg : gH (hm (lar p l) n x.1.f.toNat k) p 0 x = true
 ·right
  obtain ⟨z, hz1, hz2⟩ := (mp hv hn32 hp hto hx).1 hg
  obtain ⟨xs, k1, k2, k3, k4⟩ := u9 hv hn32 hp hto k x.1.t (0 + x.1.len p) ([] ++ [(x.2 : Int)]) hok.2.1.1 ⟨z, hz1, by omega⟩
  refine ⟨x :: xs, ?_, ⟨hx, rfl, ?_⟩, by simp [k3], ?_⟩
  ·simp only [List.find?_cons, hg, k1]
   simp
  ·have : ((x.1.f.toNat : Nat) : Int) = x.1.f := by have := hok.1; omega
   rw [this] at k2; exact k2
  ·simp only [ga, List.map_cons, List.sum_cons] at k4 ⊢
   omega
 ·left
  refine ⟨?_, fun ⟨z, h1, h2⟩ => hg ((mp hv hn32 hp hto hx).2 ⟨z, h1, by omega⟩)⟩
  rw [Bool.not_eq_true] at hg
  simp [hg]
theorem nq {k : Nat} : cn p l n (k + 1) = none ↔ ∀ u c, isW (lar p l) u c u -> c.length = k + 1 -> hJ c <= 0 := by
 unfold cn
 rw [List.findSome?_eq_none_iff]
 constructor
 ·intro h u c hc hl
  cases c with
  | nil => simp at hl
  | cons a r =>
   obtain ⟨h1, h2, h3⟩ := hc
   obtain ⟨x, hx, rfl⟩ := wi h1
   rcases rB hv hn32 hp (k := k) hx with ⟨_, h5⟩ | ⟨xs, h4, _⟩
   ·rcases Int.lt_or_le 0 (hJ (z6 p x :: r)) with h6 | h6
    ·refine absurd ⟨hJ r, ⟨r, ?_, by simpa using hl, rfl⟩, ?_⟩ h5
     ·have e : x.1.f.toNat = u := h2
      rw [e]; exact h3
     ·simp only [hJ, z6] at h6; omega
    ·exact h6
   ·rw [h x hx] at h4; cases h4
 ·intro h x hx
  rcases rB hv hn32 hp (k := k) hx with ⟨h4, _⟩ | ⟨xs, h4, h5, h6, h7⟩
  ·exact h4
  ·obtain ⟨k1, k2⟩ := IK (p := p) hv h5
   have := h _ _ k1 (by simp [h6])
   omega
theorem nm {k : Nat} {res : List Int} (h : cn p l n (k + 1) = some res) : ∃ (u : Int) (xs : List eM), res = xs.map (fun y => (y.2 : Int)) /\ rv l u xs u /\ xs.length = k + 1 /\ ga p xs > 0 := by
 unfold cn at h
 obtain ⟨x, hx, hw⟩ := List.exists_of_findSome?_eq_some h
 rcases rB hv hn32 hp (k := k) hx with ⟨h4, _⟩ | ⟨xs, h4, h5, h6, h7⟩
 ·rw [h4] at hw; cases hw
 ·rw [h4] at hw
  injection hw with hw
  exact ⟨_, xs, hw.symm, h5, h6, h7⟩
theorem p9 : jz p l n = none ↔ x5 (lar p l) n := by
 unfold jz
 rw [List.findSome?_eq_none_iff]
 constructor
 ·intro h u c hc h1 h2
  have := (nq hv hn32 hp (k := c.length - 1)).1 (h (c.length - 1) (by simp; omega)) u c hc (by omega)
  exact this
 ·intro h j hj
  rw [List.mem_range] at hj
  exact (nq hv hn32 hp).2 fun u c hc hl => h u c hc (by omega) (by omega)
theorem tU {res : List Int} (h : jz p l n = some res) : ∃ (u : Int) (xs : List eM), res = xs.map (fun y => (y.2 : Int)) /\ rv l u xs u /\ 1 <= xs.length /\ xs.length <= n /\ ga p xs > 0 := by
 unfold jz at h
 obtain ⟨j, hj, hw⟩ := List.exists_of_findSome?_eq_some h
 rw [List.mem_range] at hj
 obtain ⟨u, xs, h1, h2, h3, h4⟩ := nm hv hn32 hp hw
 exact ⟨u, xs, h1, h2, by omega, by omega, h4⟩
end
open Go
def Pos (l : List aW) (p : Int) : Prop := ∃ (u : Int) (xs : List eM), rv l u xs u /\ 0 < ga p xs
theorem qc {l : List aW} {x : eM} (h : x ∈ num l) : iq l (x.2 : Int) = x.1 /\ 0 <= (x.2 : Int) /\ (x.2 : Int) <= (l.length : Int) - 1 := by
 obtain ⟨hi, he⟩ := gi h
 refine ⟨?_, by omega, by omega⟩
 unfold iq
 rw [Int.toNat_natCast, List.getD_eq_getElem?_getD, List.getElem?_eq_getElem hi]
 exact he
theorem Aw {p : Int} {l : List aW} : ∀ {xs : List eM} {u v s t : Int}, rv l u xs v -> exL p l (xs.map fun y => (y.2 : Int)) u s t = some (s + ga p xs, t + it xs)
 | [], u, v, s, t, _ => by simp [exL, ga, it]
 | x :: r, u, v, s, t, ⟨h1, h2, h3⟩ => by
  obtain ⟨e, _⟩ := qc h1
  simp only [List.map_cons, exL, e, if_pos h2]
  rw [Aw h3]
  simp only [ga, it, List.map_cons, List.sum_cons]
  congr 2 <;> omega
theorem qH {l : List aW} : ∀ {xs : List eM} {u v : Int} (h : xs ≠ []), rv l u xs v -> (xs.getLast h).1.t = v /\ xs.getLast h ∈ num l
 | [x], u, v, _, ⟨h1, h2, h3⟩ => ⟨h3, h1⟩
 | x :: y :: r, u, v, _, ⟨h1, h2, h3⟩ => by
  rw [List.getLast_cons (by simp)]
  exact qH (by simp) h3
theorem wJ {p : Int} {l : List aW} {u : Int} {xs : List eM} (h : rv l u xs u) (h1 : 1 <= xs.length) (h2 : xs.length <= 200) : exM p l (xs.map fun y => (y.2 : Int)) = some (ga p xs, it xs) := by
 have hne : xs ≠ [] := fun e => by rw [e] at h1; simp at h1
 have hall : ∀ x ∈ xs, x ∈ num l := by
  have : ∀ {ys : List eM} {a b : Int}, rv l a ys b -> ∀ x ∈ ys, x ∈ num l := by
   intro ys
   induction ys with
   | nil => intro _ _ _ x hx; cases hx
   | cons y r ih =>
    rintro a b ⟨k1, _, k3⟩ x hx
    rcases List.mem_cons.1 hx with rfl | hx
    ·exact k1
    ·exact ih k3 x hx
  exact this h
 unfold exM
 rw [if_pos ⟨by simpa using ⟨h1, h2⟩, fun x hx => by
  obtain ⟨y, hy, rfl⟩ := List.mem_map.1 hx
  exact (qc (hall y hy)).2⟩]
 obtain ⟨e1, e2⟩ := qH hne h
 have : (xs.map fun y => (y.2 : Int)).getLastD 0 = ((xs.getLast hne).2 : Int) := by
  rw [List.getLastD_eq_getLast?, List.getLast?_map, List.getLast?_eq_some_getLast hne]; rfl
 rw [this, (qc e2).1, e1, Aw h]
 simp
theorem wm {n p : Int} {l : List aW} (hv : ∀ x ∈ l, okA n x) {s : List Int} (h : kD (lar p l) s) : ¬ Pos l p := by
 rintro ⟨u, xs, h1, h2⟩
 obtain ⟨k1, k2⟩ := IK (p := p) hv h1
 have := h9 h k1
 omega
theorem eQ {n : Nat} {p : Int} {l : List aW} (hv : ∀ x ∈ l, okA n x) : ∀ a ∈ lar p l, a.1 < n /\ a.2.1 < n := fun a ha => by
 obtain ⟨x, hx, rfl⟩ := List.mem_map.1 ha
 obtain ⟨q1, q2, _⟩ := hv x hx
 simp only; omega
section
variable {n : Nat} {p : Int} {l : List aW} (hr : a6 n l p)
include hr
theorem ji : (a7 (lar p l) n).2 = true ↔ ¬ Pos l p := by
 have hv := hr.1.2.2
 have hn := hr.1.1
 constructor
 ·intro h
  exact wm hv ((dE (eQ hv)).2.2.2.1 h)
 ·intro h
  rw [g9 (eQ hv), <- p9 hv (by omega) hr.2]
  cases hc : jz p l n with
  | none => rfl
  | some res =>
   obtain ⟨u, xs, _, k2, _, _, k5⟩ := tU hv (by omega) hr.2 hc
   exact absurd ⟨u, xs, k2, k5⟩ h
theorem pe (h : ¬ (a7 (lar p l) n).2 = true) : ∃ (res : List Int) (u : Int) (xs : List eM), jz p l n = some res /\ res = xs.map (fun y => (y.2 : Int)) /\ rv l u xs u /\ 1 <= xs.length /\ xs.length <= 32 /\ 0 < ga p xs /\ exM p l res = some (ga p xs, it xs) := by
 have hv := hr.1.2.2
 have hn := hr.1.1
 rw [g9 (eQ hv), <- p9 hv (by omega) hr.2] at h
 cases hc : jz p l n with
 | none => exact absurd hc h
 | some res =>
  obtain ⟨u, xs, k1, k2, k3, k4, k5⟩ := tU hv (by omega) hr.2 hc
  exact ⟨res, u, xs, rfl, k1, k2, k3, by omega, k5, by rw [k1]; exact wJ k2 k3 (by omega)⟩
end
theorem se {n p : Int} {l : List aW} (hn : n <= 32) (hp : a8 p) (hv : ∀ x ∈ l, okA n x) : ∀ {xs : List eM} {u v : Int}, rv l u xs v -> (-(3000000 * (xs.length : Int)) <= ga p xs /\ ga p xs <= 3000000 * xs.length) /\ (-(2 * (xs.length : Int)) <= it xs /\ it xs <= 2 * xs.length)
 | [], _, _, _ => by simp [ga, it]
 | x :: r, u, v, ⟨h1, h2, h3⟩ => by
  have h4 := se hn hp hv h3
  obtain ⟨q1, q2, q3, q4⟩ := oT hv h1
  have hle := dT (n := 32) (a := x.1) ⟨by omega, by omega, q3, q4⟩ hp
  simp only [ga, it, List.map_cons, List.sum_cons, List.length_cons] at h4 ⊢
  omega
def smL (n : Nat) (l : List aW) (hi : Int) : Nat -> Int -> Option Int
 | 0, _ => none
 | m + 1, p => open Classical in if p <= hi /\ a6 n l p then
   (if (a7 (lar p l) n).2 = true then some p
    else if ((exM p l ((jz p l n).getD [])).getD (0, 0)).2 <= 0 then none
    else smL n l hi m (p + (((exM p l ((jz p l n).getD [])).getD (0, 0)).1 + ((exM p l ((jz p l n).getD [])).getD (0, 0)).2 - 1).tdiv ((exM p l ((jz p l n).getD [])).getD (0, 0)).2))
  else none
def smM (n : Int) (l : List aW) (lo hi : Int) : Option Int := if a8 hi then smL n.toNat l hi (hi - lo + 2).toNat lo else none
theorem lV {s t : Int} (hs : 0 < s) (ht : 0 < t) : 1 <= (s + t - 1).tdiv t /\ (s + t - 1).tdiv t <= s /\ ((s + t - 1).tdiv t - 1) * t < s /\ s <= (s + t - 1).tdiv t * t := by
 rw [Int.tdiv_eq_ediv_of_nonneg (by omega)]
 have h1 := Int.ediv_mul_add_emod (s + t - 1) t
 have h2 := Int.emod_nonneg (s + t - 1) (show t ≠ 0 by omega)
 have h3 := Int.emod_lt_of_pos (s + t - 1) ht
 obtain ⟨d, hd⟩ : ∃ d, d = (s + t - 1) / t := ⟨_, rfl⟩
 rw [<- hd] at h1 ⊢
 have h4 : 1 <= d := by
  rcases Int.lt_or_le d 1 with h | h
  ·have : d * t <= 0 := Int.mul_nonpos_of_nonpos_of_nonneg (by omega) (by omega)
   omega
  ·exact h
 have h5 : (d - 1) * t = d * t - t := by rw [Int.sub_mul]; omega
 refine ⟨h4, ?_, by omega, by omega⟩
 rcases Int.lt_or_le s d with h | h
 ·have : s * t <= (d - 1) * t := Int.mul_le_mul_of_nonneg_right (by omega) (by omega)
  have h6 : s * 1 <= s * t := Int.mul_le_mul_of_nonneg_left (by omega) (by omega)
  omega
 ·exact h
theorem qy {l : List aW} {p q : Int} {u : Int} {xs : List eM} (h : rv l u xs u) (hq : 0 < ga p xs - (q - p) * it xs) : Pos l q := by
 refine ⟨u, xs, h, ?_⟩
 rw [wg] at hq ⊢
 have : (q - p) * it xs = q * it xs - p * it xs := by rw [Int.sub_mul]
 omega
theorem pD {n : Nat} {l : List aW} {hi : Int} (hhi : a8 hi) : ∀ (m : Nat) (p : Int), hi - p + 1 < m ->
  (∀ r, smL n l hi m p = some r -> p <= r /\ r <= hi /\ a6 n l r /\ ¬ Pos l r /\ ∀ q, p <= q -> q < r -> Pos l q) /\ (smL n l hi m p = none -> a6 n l p -> ∀ q, p <= q -> q <= hi -> Pos l q)
 | 0, p, hm => ⟨fun r h => (by cases h), fun _ _ q h1 h2 => by omega⟩
 | m + 1, p, hm => by
  unfold smL
  by_cases hp : p <= hi /\ a6 n l p
  rotate_left
  ·rw [if_neg hp]
   exact ⟨fun r h => (by cases h), fun _ h q h1 h2 => absurd ⟨by omega, h⟩ hp⟩
  rw [if_pos hp]
  by_cases hl : (a7 (lar p l) n).2 = true
  ·rw [if_pos hl]
   refine ⟨fun r h => ?_, fun h => by cases h⟩
   injection h with h; subst h
   exact ⟨Int.le_refl _, hp.1, hp.2, (ji hp.2).1 hl, fun q h1 h2 => by omega⟩
  rw [if_neg hl]
  obtain ⟨res, u, xs, k1, k2, k3, k4, k5, k6, k7⟩ := pe hp.2 hl
  rw [k1, Option.getD_some, k7, Option.getD_some]
  simp only
  by_cases ht : it xs <= 0
  ·rw [if_pos ht]
   refine ⟨fun r h => (by cases h), fun _ _ q h1 h2 => qy k3 (p := p) ?_⟩
   have : (q - p) * it xs <= 0 := Int.mul_nonpos_of_nonneg_of_nonpos (by omega) ht
   omega
  rw [if_neg ht]
  obtain ⟨d1, d2, d3, d4⟩ := lV k6 (show 0 < it xs by omega)
  obtain ⟨d, hd⟩ : ∃ d, d = (ga p xs + it xs - 1).tdiv (it xs) := ⟨_, rfl⟩
  rw [<- hd] at d1 d2 d3 d4 ⊢
  have hbelow : ∀ q, p <= q -> q < p + d -> Pos l q := fun q h1 h2 => qy k3 (p := p) (by
   have : (q - p) * it xs <= (d - 1) * it xs := Int.mul_le_mul_of_nonneg_right (by omega) (by omega)
   omega)
  obtain ⟨i1, i2⟩ := pD hhi m (p + d) (by omega)
  constructor
  ·intro r h
   obtain ⟨j1, j2, j3, j4, j5⟩ := i1 r h
   refine ⟨by omega, j2, j3, j4, fun q h1 h2 => ?_⟩
   by_cases hq : q < p + d
   ·exact hbelow q h1 hq
   ·exact j5 q (by omega) h2
  ·intro h _ q h1 h2
   by_cases hq : q < p + d
   ·exact hbelow q h1 hq
   ·have hR : a6 n l (p + d) := ⟨hp.2.1, by
     have := hp.2.2
     unfold a8 at *
     omega⟩
    exact i2 h hR q (by omega) h2
open Go
def ck (n : Int) (l : List aW) (p : Int) (c : List Int) : Prop := a6 n l p /\ ∃ s t, exM p l c = some (s, t) /\ 0 < s
open Classical in
def M21 : aT := fun args => match args with
 | [.int .i64 n, a, .int .i64 p, b] => match aX a, ey b with
  | some l, some s => some (.bool (decide (ck n l p s)))
  | _, _ => none
 | _ => none
def Fu : List (FuncId × aL) := [(55, bA 4 M25), (57, aF 4 M40)]
@[simp] theorem G5 : aB Fu 55 = some (bA 4 M25) := rfl
@[simp] theorem G4 : aB Fu 57 = some (aF 4 M40) := rfl
theorem BC : ∀ f M, aB Fu f = some M -> an Try.prog GC f M := ak (an.of_pureF pB 4) (ak (an.of_pure sU 4) az)
open Classical in
theorem vA : aq Try.prog GC 51 M21 := by
 refine aq.of_ev (E := au GC Fu) (av BC) rfl Ie xj 1 ?_
 intro args r h
 unfold M21 at h
 split at h
 rotate_left
 ·cases h
 rename_i n a p b
 split at h
 rotate_left
 ·cases h
 rename_i l s hl hs
 injection h with h; subst h
 refine ⟨0, ?_⟩
 obtain ⟨hb, _, hsl⟩ := dC hs
 have f1 : ∀ A n, frz A n a = a := fun A n => bX hl A n
 have f2 : ∀ A n, frz A n b = b := fun A n => hb.frz n
 have f4 := li hs
 have m1 : M25 [.int .i64 n, a, .int .i64 p] = some (if a6 n l p then .tup [cC n.toNat p l, .bool true] else .tup [.nilP, .bool false]) := by simp only [M25, hl, Option.map_some]
 rw [aN _ _ rfl]
 by_cases hr : a6 n l p
 rotate_left
 ·rw [if_neg hr] at m1
  rw [decide_eq_false (show ¬ ck n l p s from fun h => hr h.1)]
  simp [ye, f1, m1, aS, aZ, -frz]
 rw [if_pos hr] at m1
 obtain ⟨m, rfl⟩ : ∃ m : Nat, n = (m : Int) := ⟨n.toNat, by have := hr.1.1; omega⟩
 rw [Int.toNat_natCast] at m1
 have m40 := ua hr hb hsl
 obtain ⟨W1, O, hW⟩ : ∃ W1 O, cC m p l = .fp [.int .i64 (m : Int), W1, O] := ⟨_, _, rfl⟩
 rw [hW] at m1 m40
 have hfw : ∀ B, frz B 4 (.fp [.int .i64 (m : Int), W1, O]) = .fp [.int .i64 (m : Int), W1, O] := fun _ => rfl
 have hnr : be 4 (.fp [.int .i64 (m : Int), W1, O]) = true := rfl
 cases he : exM p l s with
 | none =>
  rw [he] at m40
  rw [decide_eq_false (show ¬ ck m l p s from fun h => by
   obtain ⟨_, x, y, h, _⟩ := h
   rw [he] at h; cases h)]
  simp only [exT, Option.getD_none, Option.isSome_none] at m40
  simp [ye, f1, f2, m1, m40, hfw, f4, aS, aZ, -frz]
 | some st =>
  obtain ⟨x, y⟩ := st
  rw [he] at m40
  simp only [exT, Option.getD_some, Option.isSome_some] at m40
  have b1 : af .gtr (.int .i64 x) (.int .i64 0) = some (.bool (decide (x > 0))) := by simp [af]
  have e : decide (ck m l p s) = decide (x > 0) := by
   rw [Bool.eq_iff_iff, decide_eq_true_eq, decide_eq_true_eq]
   constructor
   ·rintro ⟨_, a', b', h, h2⟩
    rw [he] at h
    injection h with h
    injection h with h h'
    omega
   ·intro h
    exact ⟨hr, x, y, he, h⟩
  rw [e]
  obtain ⟨d, hd⟩ : ∃ d, d = decide (x > 0) := ⟨_, rfl⟩
  rw [<- hd] at b1 ⊢
  simp [ye, f1, f2, m1, m40, hfw, f4, b1, aS, aZ, -frz, -af]
def og : List (FuncId × aL) := [(55, bA 4 M25), (56, bA 4 M26), (58, aF 4 M27), (57, aF 4 M40), (54, aF 4 M41)]
@[simp] theorem GX : aB og 55 = some (bA 4 M25) := rfl
@[simp] theorem GW : aB og 56 = some (bA 4 M26) := rfl
@[simp] theorem GV : aB og 58 = some (aF 4 M27) := rfl
@[simp] theorem GU : aB og 57 = some (aF 4 M40) := rfl
@[simp] theorem GT : aB og 54 = some (aF 4 M41) := rfl
theorem rJ : ∀ f M, aB og f = some M -> an Try.prog GC f M := ak (an.of_pureF pB 4) (ak (an.of_pureF vw 4) (ak (an.of_pure sW 4) (ak (an.of_pure sU 4) (ak (an.of_pure sS 4) az))))
def smT (r : Option Int) : AV := .tup [.int .i64 (r.getD 0), .bool r.isSome]
open Classical in
theorem tD (fuel : Nat) {a : AV} {l : List aW} (ha : aX a = some l) (n : Int) {hi : Int} (hhi : a8 hi) : ∀ (m : Nat) (p : Int), 0 < m -> hi - p + 1 < m ->
  match smL n.toNat l hi m p with
  | some q => ∃ v7 v8 v9 v10 v11 v12 v13 v14 v15 v16, bg (evC (au GC og) fuel cP) dv m (eW (.int .i64 n) a (.int .i64 hi) (.int .i64 p)) [] = some (.ret [.int .i64 n, a, .undef, .int .i64 hi, .int .i64 q, .bool true, .int .i64 q, v7, v8, v9, v10, v11, v12, v13, v14, v15, v16] [])
  | none => ∃ v6 v7 v8 v9 v10 v11 v12 v13 v14 v15 v16, bg (evC (au GC og) fuel cP) dv m (eW (.int .i64 n) a (.int .i64 hi) (.int .i64 p)) [] = some (.exit 0 [.int .i64 n, a, .undef, .int .i64 hi, .undef, .undef, v6, v7, v8, v9, v10, v11, v12, v13, v14, v15, v16] [])
 | 0, p, h0, hm => by omega
 | m + 1, p, h0, hm => by
  have f1 : ∀ A n, frz A n a = a := fun A n => bX ha A n
  have m1 : M25 [.int .i64 n, a, .int .i64 p] = some (if a6 n l p then .tup [cC n.toNat p l, .bool true] else .tup [.nilP, .bool false]) := by simp only [M25, ha, Option.map_some]
  have b1 : af .leq (.int .i64 p) (.int .i64 hi) = some (.bool (decide (p <= hi))) := by simp [af]
  unfold smL
  rw [aQ, nM]
  by_cases hp : p <= hi
  rotate_left
  ·rw [if_neg (fun h => hp h.1)]
   rw [decide_eq_false hp] at b1
   refine ⟨.int .i64 p, .undef, .undef, .undef, .undef, .undef, .undef, .bool false, .undef, .undef, .undef, ?_⟩
   simp [cP, b1, -af]
  rw [decide_eq_true hp] at b1
  by_cases hr : a6 n l p
  rotate_left
  ·rw [if_neg (fun h => hr (by
    have h2 := h.2
    have h3 := h2.1.1
    have : ((n.toNat : Nat) : Int) = n := by omega
    rw [this] at h2; exact h2))]
   rw [if_neg hr] at m1
   refine ⟨.int .i64 p, .nilP, .bool false, .undef, .undef, .undef, .undef, .bool true, .bool true, .undef, .undef, ?_⟩
   simp [cP, b1, m1, f1, aS, -frz, -af]
  rw [if_pos hr] at m1
  obtain ⟨k, rfl⟩ : ∃ k : Nat, n = (k : Int) := ⟨n.toNat, by have := hr.1.1; omega⟩
  rw [Int.toNat_natCast] at m1 ⊢
  rw [if_pos ⟨hp, hr⟩]
  have m2 := lD hr
  have m3 := ub hr
  obtain ⟨W1, O, hW⟩ : ∃ W1 O, cC k p l = .fp [.int .i64 (k : Int), W1, O] := ⟨_, _, rfl⟩
  have hfw : ∀ B, frz B 4 (.fp [.int .i64 (k : Int), W1, O]) = .fp [.int .i64 (k : Int), W1, O] := fun _ => rfl
  have hnr : be 4 (.fp [.int .i64 (k : Int), W1, O]) = true := rfl
  by_cases hok : (a7 (lar p l) k).2 = true
  ·rw [if_pos hok]
   rw [hok] at m2
   rw [hW] at m1 m2
   refine ⟨.fp [.int .i64 (k : Int), W1, O], .bool true, .bool true, .undef, .undef, .undef, .bool true, .bool false, .bool true, .undef, ?_⟩
   obtain ⟨S, hS⟩ : ∃ S, S = slA 1 (ag (a7 (lar p l) k).1) := ⟨_, rfl⟩
   rw [<- hS] at m2
   simp [cP, b1, m1, m2, f1, hfw, aS, -frz, -af]
  rw [if_neg hok]
  obtain ⟨res, u, xs, k1, k2, k3, k4, k5, k6, k7⟩ := pe hr hok
  have hbd := se (n := (k : Int)) (by have := hr.1.1; omega) hr.2 hr.1.2.2 k3
  have m4 := ua hr (aI 1 (ag res)) (by rw [k2]; simp; omega)
  rw [k1, Option.getD_some] at m3
  rw [k7] at m4
  rw [k1, Option.getD_some, k7, Option.getD_some]
  simp only [exT, Option.getD_some, Option.isSome_some] at m4
  simp only
  rw [Bool.not_eq_true] at hok
  rw [hok] at m2
  rw [hW] at m1 m2 m3 m4
  obtain ⟨S, hS⟩ : ∃ S, S = slA 1 (ag (a7 (lar p l) k).1) := ⟨_, rfl⟩
  rw [<- hS] at m2
  have hnc : ∀ n, be n (slA 1 (ag res)) = true := fun n => qz n 1 _
  have hfc : ∀ A n, frz A n (slA 1 (ag res)) = slA 1 (ag res) := fun A n => jl A n 1 _
  obtain ⟨C, hC⟩ : ∃ C, C = slA 1 (ag res) := ⟨_, rfl⟩
  rw [<- hC] at m3 m4 hnc hfc
  obtain ⟨s, hs⟩ : ∃ s, s = ga p xs := ⟨_, rfl⟩
  obtain ⟨t, ht⟩ : ∃ t, t = it xs := ⟨_, rfl⟩
  rw [<- hs, <- ht] at m4 hbd ⊢
  rw [<- hs] at k6
  have b2 : af .leq (.int .i64 t) (.int .i64 0) = some (.bool (decide (t <= 0))) := by simp [af]
  by_cases ht0 : t <= 0
  ·rw [if_pos ht0]
   rw [decide_eq_true ht0] at b2
   refine ⟨.int .i64 p, .fp [.int .i64 (k : Int), W1, O], .bool true, .bool false, .int .i64 s, .int .i64 t, .undef, .bool true, .bool false, .bool false, .bool true, ?_⟩
   simp [cP, b1, b2, m1, m2, m3, m4, f1, hfw, hnc, hfc, aS, -frz, -af]
  rw [if_neg ht0]
  rw [decide_eq_false ht0] at b2
  obtain ⟨d1, d2, d3, d4⟩ := lV k6 (show 0 < t by omega)
  have hper := hr.2
  unfold a8 at hper hhi
  have b3 : af .add (.int .i64 s) (.int .i64 t) = some (.int .i64 (s + t)) := by
   simp only [af]; rw [if_pos trivial, dl (by unfold inI; omega)]
  have b4 : af .sub (.int .i64 (s + t)) (.int .i64 1) = some (.int .i64 (s + t - 1)) := by
   simp only [af]; rw [if_pos trivial, dl (by unfold inI; omega)]
  have b5 : af .quo (.int .i64 (s + t - 1)) (.int .i64 t) = some (.int .i64 ((s + t - 1).tdiv t)) := by
   simp only [af]; rw [if_pos trivial, if_neg (show ¬ t = 0 by omega), dl (by unfold inI; omega)]
  obtain ⟨d, hd⟩ : ∃ d, d = (s + t - 1).tdiv t := ⟨_, rfl⟩
  rw [<- hd] at b5 d1 d2 ⊢
  have b6 : af .add (.int .i64 p) (.int .i64 d) = some (.int .i64 (p + d)) := by
   simp only [af]; rw [if_pos trivial, dl (by unfold inI; omega)]
  have ih := tD fuel ha (k : Int) hhi m (p + d) (by omega) (by omega)
  rw [Int.toNat_natCast] at ih
  obtain ⟨p2, hp2⟩ : ∃ p2, p2 = p + d := ⟨_, rfl⟩
  rw [<- hp2] at b6 ih ⊢
  obtain ⟨st, hst⟩ : ∃ st, st = s + t := ⟨_, rfl⟩
  rw [<- hst] at b3 b4 b5
  obtain ⟨st1, hst1⟩ : ∃ st1, st1 = st - 1 := ⟨_, rfl⟩
  rw [<- hst1] at b4 b5
  have hrun : run (au GC og) fuel [.code cP] (eW (.int .i64 (k : Int)) a (.int .i64 hi) (.int .i64 p)) [] = some (.normal (eW (.int .i64 (k : Int)) a (.int .i64 hi) (.int .i64 p2)) []) := by
   simp [cP, b1, b2, b3, b4, b5, b6, m1, m2, m3, m4, f1, hfw, hnc, hfc, aS, -frz, -af]
  rw [hrun]
  exact ih
def M23 : aT := fun args => match args with
 | [.int .i64 n, a, .int .i64 lo, .int .i64 hi] => (aX a).map fun l => smT (smM n l lo hi)
 | _ => none
theorem vy : aq Try.prog GC 28 M23 := by
 refine aq.of_ev (E := au GC og) (av rJ) rfl Id xh 5 ?_
 intro args r h
 unfold M23 at h
 split at h
 rotate_left
 ·cases h
 rename_i n a lo hi
 simp only [Option.map_eq_some_iff] at h
 obtain ⟨l, hl, rfl⟩ := h
 obtain ⟨m, hm⟩ : ∃ m, m = (hi - lo + 2).toNat + 1 := ⟨_, rfl⟩
 have m1 : M41 [.int .i64 hi] = some (.bool (decide (a8 hi))) := rfl
 by_cases hp : a8 hi
 rotate_left
 ·refine ⟨0, ?_⟩
  rw [decide_eq_false hp] at m1
  rw [show smM n l lo hi = none from if_neg hp]
  rw [aN _ _ rfl]
  simp [vV, m1, smT]
 rw [decide_eq_true hp] at m1
 rw [show smM n l lo hi = smL n.toNat l hi (hi - lo + 2).toNat lo from if_pos hp]
 by_cases hz : (hi - lo + 2).toNat = 0
 ·
  refine ⟨1, ?_⟩
  rw [hz]
  have b1 : af .leq (.int .i64 lo) (.int .i64 hi) = some (.bool false) := by simp [af]; omega
  have lp : bg (evC (au GC og) 1 cP) dv 1 (eW (.int .i64 n) a (.int .i64 hi) (.int .i64 lo)) [] = some (.exit 0 [.int .i64 n, a, .undef, .int .i64 hi, .undef, .undef, .int .i64 lo, .undef, .undef, .undef, .undef, .undef, .undef, .bool false, .undef, .undef, .undef] []) := by
   rw [aQ, nM]
   simp [cP, b1, -af]
  rw [aN _ _ rfl]
  simp [vV, m1, nh lp, smL, smT]
 ·obtain ⟨F, hF⟩ : ∃ F, F = (hi - lo + 2).toNat := ⟨_, rfl⟩
  have hl23 := tD F hl n hp F lo (by omega) (by omega)
  refine ⟨F, ?_⟩
  rw [<- hF]
  rw [aN _ _ rfl]
  cases hs : smL n.toNat l hi F lo with
  | none =>
   rw [hs] at hl23
   obtain ⟨v6, v7, v8, v9, v10, v11, v12, v13, v14, v15, v16, lp⟩ := hl23
   simp [vV, m1, nh lp, smT]
  | some q =>
   rw [hs] at hl23
   obtain ⟨v7, v8, v9, v10, v11, v12, v13, v14, v15, v16, lp⟩ := hl23
   simp [vV, m1, nh lp, smT]
end Cy
open Go
def IR : ci := ⟨0, 16, .seq (.region [⟨some 0, .mv (.cst (.bool false)), none⟩]) (.seq (.region [⟨none, .build [.int .i64 0, .int .i64 0] [(0, (1, .cst (.int .i64 20))), (1, (1, .cst (.int .i64 12)))], none⟩, ⟨none, .build [.int .i64 0, .int .i64 0] [(0, (1, .cst (.int .i64 30))), (1, (1, .cst (.int .i64 12)))], none⟩, ⟨none, .buildSlice 2 [.tmp 0, .tmp 1], none⟩, ⟨none, .build [.nilS, .int .i64 0, .int .i64 0, .int .i64 0, .int .i64 0] [(0, (1, .tmp 2)), (1, (1, .cst (.int .i64 1))), (2, (1, .cst (.int .i64 1))), (3, (1, .cst (.int .i64 2))), (4, (1, .cst (.int .i64 1)))], none⟩, ⟨some 1, .alloc 5 (.agg [.nilS, .int .i64 0, .int .i64 0, .int .i64 0, .int .i64 0]), none⟩, ⟨none, .store 5 (.var 1) (.tmp 3), none⟩]) (.seq (.region [⟨none, .load true 5 (.var 1), none⟩, ⟨none, .call (.fn 14) [.tmp 0], none⟩, ⟨some 2, .mv (.tmp 1), none⟩]) (.seq (.region [⟨none, .load true 5 (.var 1), none⟩, ⟨none, .buildF 1 [.cst (.int .i64 0), .cst (.int .i64 2), .cst (.int .i64 1)], none⟩, ⟨none, .call (.fn 19) [.tmp 0, .tmp 1], none⟩, ⟨none, .mv (.tmp 2), none⟩, ⟨none, .extract (.tmp 3) 0, none⟩, ⟨none, .extract (.tmp 3) 1, none⟩, ⟨some 3, .mv (.tmp 4), none⟩, ⟨some 4, .mv (.tmp 5), none⟩]) (.seq (.region [⟨none, .load true 5 (.var 1), none⟩, ⟨none, .call (.fn 22) [.tmp 0], none⟩, ⟨none, .mv (.tmp 1), none⟩, ⟨none, .extract (.tmp 2) 0, none⟩, ⟨none, .extract (.tmp 2) 1, none⟩, ⟨some 5, .alloc 4 (.agg [.int .i64 0, .nilS, .nilS, .nilS]), none⟩, ⟨none, .store 4 (.var 5) (.tmp 3), none⟩, ⟨some 6, .mv (.tmp 4), none⟩]) (.seq (.region [⟨none, .load true 5 (.var 1), none⟩, ⟨some 7, .alloc 5 (.agg [.nilS, .int .i64 0, .int .i64 0, .int .i64 0, .int .i64 0]), none⟩, ⟨none, .store 5 (.var 7) (.tmp 0), none⟩]) (.seq (.region [⟨none, .fieldAddr 4 (.var 7), none⟩, ⟨none, .store 1 (.tmp 0) (.cst (.int .i64 2)), none⟩]) (.seq (.region [⟨none, .load true 5 (.var 7), none⟩, ⟨none, .call (.fn 22) [.tmp 0], none⟩, ⟨none, .mv (.tmp 1), none⟩, ⟨none, .extract (.tmp 2) 0, none⟩, ⟨none, .extract (.tmp 2) 1, none⟩, ⟨some 8, .alloc 4 (.agg [.int .i64 0, .nilS, .nilS, .nilS]), none⟩, ⟨none, .store 4 (.var 8) (.tmp 3), none⟩, ⟨some 9, .mv (.tmp 4), none⟩]) (.seq (.region [⟨none, .load true 5 (.var 7), none⟩, ⟨some 10, .alloc 5 (.agg [.nilS, .int .i64 0, .int .i64 0, .int .i64 0, .int .i64 0]), none⟩, ⟨none, .store 5 (.var 10) (.tmp 0), none⟩]) (.seq (.region [⟨none, .build [.int .i64 0, .int .i64 0] [(0, (1, .cst (.int .i64 20))), (1, (1, .cst (.int .i64 9)))], none⟩, ⟨none, .build [.int .i64 0, .int .i64 0] [(0, (1, .cst (.int .i64 30))), (1, (1, .cst (.int .i64 9)))], none⟩, ⟨none, .buildSlice 2 [.tmp 0, .tmp 1], none⟩, ⟨none, .fieldAddr 0 (.var 10), none⟩, ⟨none, .store 1 (.tmp 3) (.tmp 2), none⟩]) (.seq (.region [⟨none, .load true 5 (.var 10), none⟩, ⟨none, .call (.fn 22) [.tmp 0], none⟩, ⟨none, .mv (.tmp 1), none⟩, ⟨none, .extract (.tmp 2) 0, none⟩, ⟨none, .extract (.tmp 2) 1, none⟩, ⟨none, .alloc 4 (.agg [.int .i64 0, .nilS, .nilS, .nilS]), none⟩, ⟨none, .store 4 (.tmp 5) (.tmp 3), none⟩, ⟨some 11, .mv (.tmp 4), none⟩]) (.seq (.region [⟨none, .load true 5 (.var 1), none⟩, ⟨none, .buildF 1 [.cst (.int .i64 0), .cst (.int .i64 1)], none⟩, ⟨none, .call (.fn 19) [.tmp 0, .tmp 1], none⟩, ⟨none, .mv (.tmp 2), none⟩, ⟨none, .extract (.tmp 3) 0, none⟩, ⟨none, .extract (.tmp 3) 1, none⟩, ⟨none, .mv (.tmp 4), none⟩, ⟨some 12, .mv (.tmp 5), none⟩]) (.seq (.region [⟨none, .build [.int .i64 0, .int .i64 0, .int .i64 0, .int .i64 0] [(0, (1, .cst (.int .i64 0))), (1, (1, .cst (.int .i64 2))), (2, (1, .cst (.int .i64 6)))], none⟩, ⟨none, .build [.int .i64 0, .int .i64 0, .int .i64 0, .int .i64 0] [(0, (1, .cst (.int .i64 2))), (1, (1, .cst (.int .i64 1))), (2, (1, .cst (.int .i64 6)))], none⟩, ⟨none, .build [.int .i64 0, .int .i64 0, .int .i64 0, .int .i64 0] [(0, (1, .cst (.int .i64 1))), (1, (1, .cst (.int .i64 0))), (2, (1, .cst (.int .i64 6))), (3, (1, .cst (.int .i64 1)))], none⟩, ⟨none, .build [.int .i64 0, .int .i64 0, .int .i64 0, .int .i64 0] [(0, (1, .cst (.int .i64 0))), (1, (1, .cst (.int .i64 1))), (2, (1, .cst (.int .i64 24)))], none⟩, ⟨none, .build [.int .i64 0, .int .i64 0, .int .i64 0, .int .i64 0] [(0, (1, .cst (.int .i64 1))), (1, (1, .cst (.int .i64 0))), (2, (1, .cst (.int .i64 (-36))))], none⟩, ⟨none, .build [.int .i64 0, .int .i64 0, .int .i64 0, .int .i64 0] [(0, (1, .cst (.int .i64 1))), (1, (1, .cst (.int .i64 2))), (2, (1, .cst (.int .i64 34))), (3, (1, .cst (.int .i64 1)))], none⟩, ⟨none, .build [.int .i64 0, .int .i64 0, .int .i64 0, .int .i64 0] [(0, (1, .cst (.int .i64 2))), (1, (1, .cst (.int .i64 1))), (2, (1, .cst (.int .i64 (-46)))), (3, (1, .cst (.int .i64 (-1))))], none⟩, ⟨none, .buildSlice 4 [.tmp 0, .tmp 1, .tmp 2, .tmp 3, .tmp 4, .tmp 5, .tmp 6], none⟩, ⟨some 13, .mv (.tmp 7), none⟩]) (.seq (.seq (.region [⟨none, .mv (.var 2), none⟩, ⟨none, .lenSl (.tmp 0), none⟩, ⟨none, .bin .neq (.tmp 1) (.cst (.int .i64 2)), none⟩, ⟨none, .mv (.tmp 2), none⟩, ⟨none, .mv (.var 4), some (.tmp 3, false)⟩, ⟨none, .bin .neq (.tmp 4) (.cst (.int .i64 0)), some (.tmp 3, false)⟩, ⟨none, .pick (.tmp 3) (.cst (.bool true)) (.tmp 5), none⟩, ⟨none, .mv (.tmp 6), none⟩, ⟨none, .mv (.var 6), some (.tmp 7, false)⟩, ⟨none, .bin .neq (.tmp 8) (.cst (.int .i64 0)), some (.tmp 7, false)⟩, ⟨none, .pick (.tmp 7) (.cst (.bool true)) (.tmp 9), none⟩, ⟨none, .mv (.tmp 10), none⟩, ⟨none, .mv (.var 9), some (.tmp 11, false)⟩, ⟨none, .bin .neq (.tmp 12) (.cst (.int .i64 0)), some (.tmp 11, false)⟩, ⟨none, .pick (.tmp 11) (.cst (.bool true)) (.tmp 13), none⟩, ⟨none, .mv (.tmp 14), none⟩, ⟨none, .mv (.var 11), some (.tmp 15, false)⟩, ⟨none, .bin .neq (.tmp 16) (.cst (.int .i64 130)), some (.tmp 15, false)⟩, ⟨none, .pick (.tmp 15) (.cst (.bool true)) (.tmp 17), none⟩, ⟨none, .mv (.tmp 18), none⟩, ⟨none, .mv (.var 12), some (.tmp 19, false)⟩, ⟨none, .bin .neq (.tmp 20) (.cst (.int .i64 130)), some (.tmp 19, false)⟩, ⟨some 15, .pick (.tmp 19) (.cst (.bool true)) (.tmp 21), none⟩]) (.cond (.var 15) (.seq (.region [⟨some 0, .mv (.cst (.bool false)), none⟩]) .ret) .skip)) (.seq (.region [⟨none, .fieldAddr 0 (.var 5), none⟩, ⟨none, .load false 1 (.tmp 0), none⟩, ⟨none, .bin .eql (.tmp 1) (.cst (.int .i64 40)), none⟩, ⟨none, .mv (.tmp 2), none⟩, ⟨none, .fieldAddr 1 (.var 5), some (.tmp 3, true)⟩, ⟨none, .load false 1 (.tmp 4), some (.tmp 3, true)⟩, ⟨none, .buildF 1 [.cst (.int .i64 0), .cst (.int .i64 2), .cst (.int .i64 1)], some (.tmp 3, true)⟩, ⟨none, .call (.fn 18) [.tmp 5, .tmp 6], some (.tmp 3, true)⟩, ⟨none, .pick (.tmp 3) (.tmp 7) (.cst (.bool false)), none⟩, ⟨none, .mv (.tmp 8), none⟩, ⟨none, .fieldAddr 2 (.var 5), some (.tmp 9, true)⟩, ⟨none, .load false 1 (.tmp 10), some (.tmp 9, true)⟩, ⟨none, .buildF 1 [.cst (.int .i64 0), .cst (.int .i64 24), .cst (.int .i64 18)], some (.tmp 9, true)⟩, ⟨none, .call (.fn 18) [.tmp 11, .tmp 12], some (.tmp 9, true)⟩, ⟨none, .pick (.tmp 9) (.tmp 13) (.cst (.bool false)), none⟩, ⟨none, .mv (.tmp 14), none⟩, ⟨none, .fieldAddr 0 (.var 8), some (.tmp 15, true)⟩, ⟨none, .load false 1 (.tmp 16), some (.tmp 15, true)⟩, ⟨none, .bin .eql (.tmp 17) (.cst (.int .i64 32)), some (.tmp 15, true)⟩, ⟨none, .pick (.tmp 15) (.tmp 18) (.cst (.bool false)), none⟩, ⟨none, .mv (.tmp 19), none⟩, ⟨none, .fieldAddr 2 (.var 8), some (.tmp 20, true)⟩, ⟨none, .load false 1 (.tmp 21), some (.tmp 20, true)⟩, ⟨none, .buildF 1 [.cst (.int .i64 0), .cst (.int .i64 4), .cst (.int .i64 8)], some (.tmp 20, true)⟩, ⟨none, .call (.fn 18) [.tmp 22, .tmp 23], some (.tmp 20, true)⟩, ⟨none, .pick (.tmp 20) (.tmp 24) (.cst (.bool false)), none⟩, ⟨some 14, .mv (.tmp 25), none⟩]) (.seq (.region [⟨none, .mv (.var 3), none⟩, ⟨none, .mv (.var 13), none⟩, ⟨none, .call (.fn 21) [.tmp 0, .tmp 1], none⟩, ⟨none, .mv (.tmp 2), none⟩, ⟨none, .mv (.var 14), some (.tmp 3, true)⟩, ⟨none, .pick (.tmp 3) (.tmp 4) (.cst (.bool false)), none⟩, ⟨none, .mv (.tmp 5), none⟩, ⟨none, .load true 5 (.var 1), some (.tmp 6, true)⟩, ⟨none, .load true 4 (.var 5), some (.tmp 6, true)⟩, ⟨none, .call (.fn 26) [.tmp 7, .tmp 8], some (.tmp 6, true)⟩, ⟨none, .pick (.tmp 6) (.tmp 9) (.cst (.bool false)), none⟩, ⟨none, .mv (.tmp 10), none⟩, ⟨none, .load true 5 (.var 7), some (.tmp 11, true)⟩, ⟨none, .load true 4 (.var 8), some (.tmp 11, true)⟩, ⟨none, .call (.fn 26) [.tmp 12, .tmp 13], some (.tmp 11, true)⟩, ⟨none, .pick (.tmp 11) (.tmp 14) (.cst (.bool false)), none⟩, ⟨none, .mv (.tmp 15), none⟩, ⟨none, .load true 5 (.var 7), some (.tmp 16, true)⟩, ⟨none, .load true 4 (.var 5), some (.tmp 16, true)⟩, ⟨none, .call (.fn 26) [.tmp 17, .tmp 18], some (.tmp 16, true)⟩, ⟨none, .un .not (.tmp 19), some (.tmp 16, true)⟩, ⟨none, .pick (.tmp 16) (.tmp 20) (.cst (.bool false)), none⟩, ⟨none, .mv (.tmp 21), none⟩, ⟨none, .load true 5 (.var 1), some (.tmp 22, true)⟩, ⟨none, .build [.int .i64 0, .nilS, .nilS, .nilS] [], some (.tmp 22, true)⟩, ⟨none, .call (.fn 26) [.tmp 23, .tmp 24], some (.tmp 22, true)⟩, ⟨none, .un .not (.tmp 25), some (.tmp 22, true)⟩, ⟨none, .pick (.tmp 22) (.tmp 26) (.cst (.bool false)), none⟩, ⟨none, .mv (.tmp 27), none⟩, ⟨none, .build [.nilS, .int .i64 0, .int .i64 0, .int .i64 0, .int .i64 0] [], some (.tmp 28, true)⟩, ⟨none, .call (.fn 16) [.tmp 29], some (.tmp 28, true)⟩, ⟨none, .un .not (.tmp 30), some (.tmp 28, true)⟩, ⟨none, .pick (.tmp 28) (.tmp 31) (.cst (.bool false)), none⟩, ⟨none, .mv (.tmp 32), none⟩, ⟨none, .build [.nilS, .int .i64 0, .int .i64 0, .int .i64 0, .int .i64 0] [], some (.tmp 33, true)⟩, ⟨none, .call (.fn 14) [.tmp 34], some (.tmp 33, true)⟩, ⟨none, .lenSl (.tmp 35), some (.tmp 33, true)⟩, ⟨none, .bin .eql (.tmp 36) (.cst (.int .i64 0)), some (.tmp 33, true)⟩, ⟨none, .pick (.tmp 33) (.tmp 37) (.cst (.bool false)), none⟩, ⟨some 0, .mv (.tmp 38), none⟩]) .ret))))))))))))))), [.tmp 0]⟩
theorem Eo : aE Try.prog Try.f11 0 [0, 1, 2, 3, 4, 5, 6, 7, 8, 9, 10, 12, 14, 15, 16, 87] [] true ([], []) = some IR := by kernel_rfl
theorem at11 : Try.prog.funcs[11]? = some Try.f11 := by kernel_rfl
def kY : MC := .seq (.seq (.region [⟨none, .mv (.var 5), none⟩, ⟨none, .mv (.var 1), none⟩, ⟨none, .lenSl (.tmp 1), none⟩, ⟨none, .minmax false (.tmp 2) [.cst (.int .i64 4)], none⟩, ⟨none, .minmax true (.cst (.int .i64 1)) [.tmp 3], none⟩, ⟨some 7, .bin .lss (.tmp 0) (.tmp 4), none⟩]) (.cond (.var 7) .skip (.exit 0))) (.seq (.seq (.block 1 (.seq (.region [⟨none, .indexArr 5 1 (.var 2) (.cst (.int .i64 4)), none⟩, ⟨none, .load false 1 (.tmp 0), none⟩, ⟨none, .indexArr 5 1 (.var 2) (.cst (.int .i64 4)), none⟩, ⟨none, .load false 1 (.tmp 2), none⟩, ⟨none, .build [.int .i64 0, .int .i64 0] [(0, (1, .tmp 1)), (1, (1, .tmp 3))], none⟩, ⟨some 6, .alloc 2 (.agg [.int .i64 0, .int .i64 0]), none⟩, ⟨none, .store 2 (.var 6) (.tmp 4), none⟩]) (.seq (.seq (.region [⟨none, .mv (.var 5), none⟩, ⟨none, .mv (.var 1), none⟩, ⟨none, .lenSl (.tmp 1), none⟩, ⟨some 8, .bin .lss (.tmp 0) (.tmp 2), none⟩]) (.cond (.var 8) (.region [⟨none, .mv (.var 1), none⟩, ⟨none, .mv (.var 5), none⟩, ⟨none, .indexSl 2 (.tmp 0) (.tmp 1), none⟩, ⟨none, .load true 2 (.tmp 2), none⟩, ⟨none, .store 2 (.var 6) (.tmp 3), none⟩]) .skip)) (.region [⟨none, .fieldAddr 0 (.var 4), none⟩, ⟨none, .load false 1 (.tmp 0), none⟩, ⟨none, .indexArr 2 1 (.var 6) (.cst (.int .i64 0)), none⟩, ⟨none, .load false 1 (.tmp 2), none⟩, ⟨none, .call (.fn 33) [.tmp 3, .cst (.int .i64 60)], none⟩, ⟨none, .indexArr 2 1 (.var 6) (.cst (.int .i64 1)), none⟩, ⟨none, .load false 1 (.tmp 5), none⟩, ⟨none, .call (.fn 33) [.tmp 6, .cst (.int .i64 40)], none⟩, ⟨none, .build [.int .i64 0, .int .i64 0] [(0, (1, .tmp 4)), (1, (1, .tmp 7))], none⟩, ⟨none, .buildF 2 [.tmp 8], none⟩, ⟨none, .append 2 16 (.tmp 1) (.tmp 9), none⟩, ⟨none, .fieldAddr 0 (.var 4), none⟩, ⟨none, .store 1 (.tmp 11) (.tmp 10), none⟩])))) (.kill [0, 6, 7, 8])) (.region [⟨none, .mv (.var 5), none⟩, ⟨none, .bin .add (.tmp 0) (.cst (.int .i64 1)), none⟩, ⟨some 5, .mv (.tmp 1), none⟩]))
def FU : ci := ⟨2, 9, .seq (.region [⟨some 2, .box (.var 0), none⟩, ⟨some 3, .alloc 5 (.agg [.nilS, .int .i64 0, .int .i64 0, .int .i64 0, .int .i64 0]), none⟩]) (.seq (.regionD [33] [⟨none, .indexArr 5 1 (.var 2) (.cst (.int .i64 0)), none⟩, ⟨none, .load false 1 (.tmp 0), none⟩, ⟨none, .call (.fn 33) [.tmp 1, .cst (.int .i64 5)], none⟩, ⟨none, .bin .add (.cst (.int .i64 1)) (.tmp 2), none⟩, ⟨none, .indexArr 5 1 (.var 2) (.cst (.int .i64 1)), none⟩, ⟨none, .load false 1 (.tmp 4), none⟩, ⟨none, .call (.fn 33) [.tmp 5, .cst (.int .i64 5)], none⟩, ⟨none, .bin .add (.cst (.int .i64 1)) (.tmp 6), none⟩, ⟨none, .indexArr 5 1 (.var 2) (.cst (.int .i64 2)), none⟩, ⟨none, .load false 1 (.tmp 8), none⟩, ⟨none, .call (.fn 33) [.tmp 9, .cst (.int .i64 9)], none⟩, ⟨none, .indexArr 5 1 (.var 2) (.cst (.int .i64 3)), none⟩, ⟨none, .load false 1 (.tmp 11), none⟩, ⟨none, .call (.fn 33) [.tmp 12, .cst (.int .i64 2)], none⟩, ⟨none, .bin .add (.cst (.int .i64 1)) (.tmp 13), none⟩, ⟨none, .build [.nilS, .int .i64 0, .int .i64 0, .int .i64 0, .int .i64 0] [(1, (1, .tmp 3)), (2, (1, .tmp 7)), (3, (1, .tmp 10)), (4, (1, .tmp 14))], none⟩, ⟨some 4, .alloc 5 (.agg [.nilS, .int .i64 0, .int .i64 0, .int .i64 0, .int .i64 0]), none⟩, ⟨none, .store 5 (.var 4) (.tmp 15), none⟩] [(0, 16), (1, 16), (2, 16), (4, 16), (5, 16), (6, 16), (8, 16), (9, 16), (10, 16), (11, 16), (12, 16), (13, 16)]) (.seq (.seq (.region [⟨some 5, .mv (.cst (.int .i64 0)), none⟩]) (.seq (.block 0 (.loop [0, 6, 7, 8] kY)) (.kill [0, 1, 2, 5, 6, 7, 8]))) (.seq (.region [⟨none, .load true 5 (.var 4), none⟩, ⟨none, .store 5 (.var 3) (.tmp 0), none⟩]) .ret))), [.cell 3 true 5]⟩
def mi : List Nat := [0, 6, 7, 8]
abbrev oN (v1 v2 v3 v4 v5 : AV) : List AV := [.undef, v1, v2, v3, v4, v5, .undef, .undef, .undef]
theorem xK {d0 v1 v2 v3 v4 v5 d6 d7 d8 : AV} : clear mi [d0, v1, v2, v3, v4, v5, d6, d7, d8] = oN v1 v2 v3 v4 v5 := rfl
theorem DW {E : Env} {fuel : Nat} {A : ac} {o : Out} {k : List KC} {d0 v1 v2 v3 v4 v5 d6 d7 d8 : AV} (h : bg (evC E fuel kY) mi fuel (oN v1 v2 v3 v4 v5) A = some o) :
  run E fuel (.code (.loop [0, 6, 7, 8] kY) :: k) [d0, v1, v2, v3, v4, v5, d6, d7, d8] A = after E fuel k o := aG mi _ _ (by rw [xK]; exact h)
theorem En : aE Try.prog Try.f13 2 [0, 1, 2, 4, 5, 6, 7, 29, 40] [33] true ([[0, 6, 7, 8]], [[0, 6, 7, 8], [0, 1, 2, 5, 6, 7, 8]]) = some FU := by kernel_rfl
theorem at13 : Try.prog.funcs[13]? = some Try.f13 := by kernel_rfl
def yg : ci := ⟨1, 7, .seq (.region [⟨some 1, .box (.var 0), none⟩, ⟨some 2, .mv (.cst .nilS), none⟩]) (.seq (.seq (.region [⟨none, .load true 5 (.var 1), none⟩, ⟨none, .call (.fn 16) [.tmp 0], none⟩, ⟨some 6, .un .not (.tmp 1), none⟩]) (.cond (.var 6) (.seq (.region [⟨some 2, .mv (.cst .nilS), none⟩]) .ret) .skip)) (.seq (.region [⟨none, .fieldAddr 0 (.var 1), none⟩, ⟨none, .load false 1 (.tmp 0), none⟩, ⟨none, .lenSl (.tmp 1), none⟩, ⟨some 3, .alloc 1 (.int .i64 0), none⟩, ⟨none, .store 1 (.var 3) (.tmp 2), none⟩]) (.seq (.region [⟨some 4, .alloc 1 .nilS, none⟩]) (.seq (.region [⟨some 5, .alloc 1 .nilF, none⟩]) (.seq (.region [⟨none, .makeFunc (.func 34) [] [.var 3, .var 4, .var 1, .var 5], none⟩, ⟨none, .store 1 (.var 5) (.tmp 0), none⟩]) (.seq (.region [⟨none, .load false 1 (.var 5), none⟩, ⟨none, .buildSlice 1 [.cst (.int .i64 0)], none⟩, ⟨none, .call (.tmp 0) [.tmp 1], none⟩]) (.seq (.region [⟨none, .load false 1 (.var 4), none⟩, ⟨some 2, .mv (.tmp 0), none⟩]) .ret))))))), [.tmp 2]⟩
theorem xq : aE Try.prog Try.f14 1 [0, 1, 2, 3, 4, 5, 8] [] false ([], []) = some yg := by kernel_rfl
theorem Ik : Try.prog.funcs[14]? = some Try.f14 := by kernel_rfl
def tA : ci := ⟨1, 6, .seq (.region [⟨some 1, .box (.var 0), none⟩, ⟨some 2, .mv (.cst (.bool false)), none⟩]) (.seq (.region [⟨some 3, .alloc 1 .nilF, none⟩, ⟨none, .store 1 (.var 3) (.fn 38), none⟩]) (.seq (.region [⟨none, .fieldAddr 0 (.var 1), none⟩, ⟨none, .load false 1 (.tmp 0), none⟩, ⟨none, .makeFunc (.func 40) [] [.var 3], none⟩, ⟨none, .call (.fn 39) [.tmp 1, .tmp 2], none⟩, ⟨some 4, .mv (.tmp 3), none⟩]) (.seq (.region [⟨none, .load false 1 (.var 3), none⟩, ⟨none, .fieldAddr 1 (.var 1), none⟩, ⟨none, .load false 1 (.tmp 1), none⟩, ⟨none, .call (.tmp 0) [.tmp 2, .cst (.int .i64 10000)], none⟩, ⟨none, .mv (.tmp 3), none⟩, ⟨none, .load false 1 (.var 3), some (.tmp 4, true)⟩, ⟨none, .fieldAddr 2 (.var 1), some (.tmp 4, true)⟩, ⟨none, .load false 1 (.tmp 6), some (.tmp 4, true)⟩, ⟨none, .call (.tmp 5) [.tmp 7, .cst (.int .i64 10000)], some (.tmp 4, true)⟩, ⟨none, .pick (.tmp 4) (.tmp 8) (.cst (.bool false)), none⟩, ⟨none, .mv (.tmp 9), none⟩, ⟨none, .load false 1 (.var 3), some (.tmp 10, true)⟩, ⟨none, .fieldAddr 3 (.var 1), some (.tmp 10, true)⟩, ⟨none, .load false 1 (.tmp 12), some (.tmp 10, true)⟩, ⟨none, .call (.tmp 11) [.tmp 13, .cst (.int .i64 10000)], some (.tmp 10, true)⟩, ⟨none, .pick (.tmp 10) (.tmp 14) (.cst (.bool false)), none⟩, ⟨some 5, .mv (.tmp 15), none⟩]) (.seq (.region [⟨none, .mv (.var 4), none⟩, ⟨none, .un .not (.tmp 0), none⟩, ⟨none, .mv (.tmp 1), none⟩, ⟨none, .mv (.var 5), some (.tmp 2, true)⟩, ⟨none, .pick (.tmp 2) (.tmp 3) (.cst (.bool false)), none⟩, ⟨none, .mv (.tmp 4), none⟩, ⟨none, .fieldAddr 0 (.var 1), some (.tmp 5, true)⟩, ⟨none, .load false 1 (.tmp 6), some (.tmp 5, true)⟩, ⟨none, .lenSl (.tmp 7), some (.tmp 5, true)⟩, ⟨none, .bin .geq (.tmp 8) (.cst (.int .i64 1)), some (.tmp 5, true)⟩, ⟨none, .pick (.tmp 5) (.tmp 9) (.cst (.bool false)), none⟩, ⟨none, .mv (.tmp 10), none⟩, ⟨none, .fieldAddr 0 (.var 1), some (.tmp 11, true)⟩, ⟨none, .load false 1 (.tmp 12), some (.tmp 11, true)⟩, ⟨none, .lenSl (.tmp 13), some (.tmp 11, true)⟩, ⟨none, .bin .leq (.tmp 14) (.cst (.int .i64 4)), some (.tmp 11, true)⟩, ⟨none, .pick (.tmp 11) (.tmp 15) (.cst (.bool false)), none⟩, ⟨none, .mv (.tmp 16), none⟩, ⟨none, .fieldAddr 4 (.var 1), some (.tmp 17, true)⟩, ⟨none, .load false 1 (.tmp 18), some (.tmp 17, true)⟩, ⟨none, .bin .eql (.tmp 19) (.cst (.int .i64 1)), some (.tmp 17, true)⟩, ⟨none, .mv (.tmp 20), some (.tmp 17, true)⟩, ⟨none, .fieldAddr 4 (.var 1), some (.tmp 21, false)⟩, ⟨none, .load false 1 (.tmp 22), some (.tmp 21, false)⟩, ⟨none, .bin .eql (.tmp 23) (.cst (.int .i64 2)), some (.tmp 21, false)⟩, ⟨none, .pick (.tmp 21) (.cst (.bool true)) (.tmp 24), some (.tmp 17, true)⟩, ⟨none, .pick (.tmp 17) (.tmp 25) (.cst (.bool false)), none⟩, ⟨some 2, .mv (.tmp 26), none⟩]) .ret)))), [.tmp 2]⟩
theorem xo : aE Try.prog Try.f16 1 [0, 1, 2, 3, 4, 5] [] true ([], []) = some tA := by kernel_rfl
theorem Ii : Try.prog.funcs[16]? = some Try.f16 := by kernel_rfl
def fU : MC := .seq (.region [⟨some 19, .bin .lss (.var 18) (.var 17), none⟩]) (.seq (.cond (.var 19) .skip (.exit 0)) (.seq (.seq (.block 1 (.seq (.region [⟨none, .mv (.var 18), none⟩, ⟨none, .indexSl 1 (.var 16) (.var 18), none⟩, ⟨none, .load false 1 (.tmp 1), none⟩, ⟨some 8, .mv (.tmp 0), none⟩, ⟨some 9, .mv (.tmp 2), none⟩]) (.seq (.region [⟨none, .mv (.var 9), none⟩, ⟨none, .mv (.var 6), none⟩, ⟨none, .build [.int .i64 0, .int .i64 0, .int .i64 0, .int .i64 0] [(0, (1, .tmp 0)), (2, (1, .tmp 1)), (3, (1, .cst (.int .i64 1)))], none⟩, ⟨some 10, .alloc 4 (.agg [.int .i64 0, .int .i64 0, .int .i64 0, .int .i64 0]), none⟩, ⟨none, .store 4 (.var 10) (.tmp 2), none⟩]) (.seq (.seq (.region [⟨none, .mv (.var 8), none⟩, ⟨none, .bin .add (.tmp 0) (.cst (.int .i64 1)), none⟩, ⟨none, .load false 1 (.var 3), none⟩, ⟨none, .lenSl (.tmp 2), none⟩, ⟨some 20, .bin .lss (.tmp 1) (.tmp 3), none⟩]) (.cond (.var 20) (.region [⟨none, .load false 1 (.var 3), none⟩, ⟨none, .mv (.var 8), none⟩, ⟨none, .bin .add (.tmp 1) (.cst (.int .i64 1)), none⟩, ⟨none, .indexSl 1 (.tmp 0) (.tmp 2), none⟩, ⟨none, .load false 1 (.tmp 3), none⟩, ⟨none, .fieldAddr 1 (.var 10), none⟩, ⟨none, .store 1 (.tmp 5) (.tmp 4), none⟩, ⟨none, .fieldAddr 3 (.var 10), none⟩, ⟨none, .store 1 (.tmp 7) (.cst (.int .i64 0)), none⟩]) .skip)) (.seq (.seq (.region [⟨none, .fieldAddr 4 (.var 2), none⟩, ⟨none, .load false 1 (.tmp 0), none⟩, ⟨none, .bin .eql (.tmp 1) (.cst (.int .i64 2)), none⟩, ⟨none, .mv (.tmp 2), none⟩, ⟨none, .fieldAddr 1 (.var 10), some (.tmp 3, false)⟩, ⟨none, .load false 1 (.tmp 4), some (.tmp 3, false)⟩, ⟨none, .mv (.var 9), some (.tmp 3, false)⟩, ⟨none, .bin .add (.tmp 6) (.cst (.int .i64 1)), some (.tmp 3, false)⟩, ⟨none, .bin .neq (.tmp 5) (.tmp 7), some (.tmp 3, false)⟩, ⟨some 21, .pick (.tmp 3) (.cst (.bool true)) (.tmp 8), none⟩]) (.cond (.var 21) (.region [⟨none, .fieldAddr 2 (.var 10), none⟩, ⟨none, .load false 1 (.tmp 0), none⟩, ⟨none, .fieldAddr 3 (.var 2), none⟩, ⟨none, .load false 1 (.tmp 2), none⟩, ⟨none, .bin .add (.tmp 1) (.tmp 3), none⟩, ⟨none, .fieldAddr 2 (.var 10), none⟩, ⟨none, .store 1 (.tmp 5) (.tmp 4), none⟩]) .skip)) (.region [⟨none, .load true 4 (.var 10), none⟩, ⟨none, .buildF 4 [.tmp 0], none⟩, ⟨none, .call (.fn 45) [.var 7, .tmp 1], none⟩])))))) (.kill [0, 1, 4, 5, 8, 9, 10, 11, 12, 13, 14, 15, 19, 20, 21, 22, 23, 24, 25])) (.region [⟨none, .bin .add (.var 18) (.cst (.int .i64 1)), none⟩, ⟨some 18, .mv (.tmp 0), none⟩])))
def kW : MC := .seq (.region [⟨some 25, .bin .lss (.var 24) (.var 23), none⟩]) (.seq (.cond (.var 25) .skip (.exit 2)) (.seq (.seq (.block 3 (.seq (.region [⟨none, .mv (.var 24), none⟩, ⟨none, .indexSl 2 (.var 22) (.var 24), none⟩, ⟨none, .load true 2 (.tmp 1), none⟩, ⟨some 13, .alloc 2 (.agg [.int .i64 0, .int .i64 0]), none⟩, ⟨some 12, .mv (.tmp 0), none⟩, ⟨none, .store 2 (.var 13) (.tmp 2), none⟩]) (.seq (.region [⟨none, .mv (.var 11), none⟩, ⟨none, .load false 1 (.var 3), none⟩, ⟨none, .mv (.var 12), none⟩, ⟨none, .bin .add (.tmp 2) (.cst (.int .i64 1)), none⟩, ⟨none, .call (.tmp 0) [.tmp 1, .tmp 3], none⟩, ⟨some 14, .alloc 3 (.agg [.int .i64 0, .int .i64 0, .int .i64 0]), none⟩, ⟨none, .store 3 (.var 14) (.tmp 4), none⟩]) (.region [⟨none, .fieldAddr 0 (.var 14), none⟩, ⟨none, .load false 1 (.tmp 0), none⟩, ⟨none, .fieldAddr 1 (.var 14), none⟩, ⟨none, .load false 1 (.tmp 2), none⟩, ⟨none, .mv (.var 6), none⟩, ⟨none, .fieldAddr 0 (.var 13), none⟩, ⟨none, .load false 1 (.tmp 5), none⟩, ⟨none, .bin .add (.tmp 4) (.tmp 6), none⟩, ⟨none, .fieldAddr 2 (.var 14), none⟩, ⟨none, .load false 1 (.tmp 8), none⟩, ⟨none, .build [.int .i64 0, .int .i64 0, .int .i64 0, .int .i64 0] [(0, (1, .tmp 1)), (1, (1, .tmp 3)), (2, (1, .tmp 7)), (3, (1, .tmp 9))], none⟩, ⟨none, .fieldAddr 1 (.var 14), none⟩, ⟨none, .load false 1 (.tmp 11), none⟩, ⟨none, .fieldAddr 0 (.var 14), none⟩, ⟨none, .load false 1 (.tmp 13), none⟩, ⟨none, .mv (.var 6), none⟩, ⟨none, .fieldAddr 0 (.var 13), none⟩, ⟨none, .load false 1 (.tmp 16), none⟩, ⟨none, .bin .add (.tmp 15) (.tmp 17), none⟩, ⟨none, .fieldAddr 1 (.var 13), none⟩, ⟨none, .load false 1 (.tmp 19), none⟩, ⟨none, .bin .add (.tmp 18) (.tmp 20), none⟩, ⟨none, .un .neg (.tmp 21), none⟩, ⟨none, .fieldAddr 2 (.var 14), none⟩, ⟨none, .load false 1 (.tmp 23), none⟩, ⟨none, .un .neg (.tmp 24), none⟩, ⟨none, .build [.int .i64 0, .int .i64 0, .int .i64 0, .int .i64 0] [(0, (1, .tmp 12)), (1, (1, .tmp 14)), (2, (1, .tmp 22)), (3, (1, .tmp 25))], none⟩, ⟨none, .buildF 4 [.tmp 10, .tmp 26], none⟩, ⟨none, .call (.fn 45) [.var 7, .tmp 27], none⟩])))) (.kill [0, 1, 2, 4, 5, 8, 9, 10, 12, 13, 14, 15, 16, 17, 18, 19, 20, 21, 25])) (.region [⟨none, .bin .add (.var 24) (.cst (.int .i64 1)), none⟩, ⟨some 24, .mv (.tmp 0), none⟩])))
def yf : ci := ⟨2, 26, .seq (.region [⟨some 2, .box (.var 0), none⟩, ⟨some 3, .box (.var 1), none⟩, ⟨some 4, .mv (.cst .nilS), none⟩, ⟨some 5, .mv (.cst (.int .i64 0)), none⟩]) (.seq (.seq (.region [⟨none, .load true 5 (.var 2), none⟩, ⟨none, .call (.fn 14) [.tmp 0], none⟩, ⟨none, .makeFunc (.func 42) [] [.var 3], none⟩, ⟨none, .call (.fn 41) [.tmp 1, .tmp 2], none⟩, ⟨some 15, .un .not (.tmp 3), none⟩]) (.cond (.var 15) (.seq (.region [⟨some 4, .mv (.cst .nilS), none⟩, ⟨some 5, .mv (.cst (.int .i64 130)), none⟩]) .ret) .skip)) (.seq (.region [⟨none, .load true 5 (.var 2), none⟩, ⟨none, .call (.fn 44) [.tmp 0], none⟩, ⟨some 6, .mv (.tmp 1), none⟩]) (.seq (.region [⟨some 7, .alloc 1 .nilS, none⟩]) (.seq (.seq (.region [⟨some 16, .load false 1 (.var 3), none⟩, ⟨some 17, .lenSl (.var 16), none⟩, ⟨some 18, .mv (.cst (.int .i64 0)), none⟩]) (.seq (.block 0 (.loop [0, 1, 4, 5, 8, 9, 10, 11, 12, 13, 14, 15, 19, 20, 21, 22, 23, 24, 25] fU)) (.kill [0, 1, 4, 5, 8, 9, 10, 11, 12, 13, 14, 15, 16, 17, 18, 19, 20, 21, 22, 23, 24, 25]))) (.seq (.region [⟨none, .call (.fn 46) [], none⟩, ⟨none, .fieldAddr 4 (.var 2), none⟩, ⟨none, .load false 1 (.tmp 1), none⟩, ⟨none, .indexVal false 3 1 (.tmp 0) (.tmp 2), none⟩, ⟨some 11, .mv (.tmp 3), none⟩]) (.seq (.seq (.region [⟨none, .fieldAddr 0 (.var 2), none⟩, ⟨some 22, .load false 1 (.tmp 0), none⟩, ⟨some 23, .lenSl (.var 22), none⟩, ⟨some 24, .mv (.cst (.int .i64 0)), none⟩]) (.seq (.block 2 (.loop [0, 1, 2, 4, 5, 8, 9, 10, 12, 13, 14, 15, 16, 17, 18, 19, 20, 21, 25] kW)) (.kill [0, 1, 2, 3, 4, 5, 6, 8, 9, 10, 11, 12, 13, 14, 15, 16, 17, 18, 19, 20, 21, 22, 23, 24, 25]))) (.seq (.region [⟨none, .load false 1 (.var 7), none⟩, ⟨some 4, .mv (.tmp 0), none⟩, ⟨some 5, .mv (.cst (.int .i64 0)), none⟩]) .ret))))))), [.tmp 4, .tmp 5]⟩
def jP : List Nat := [0, 1, 4, 5, 8, 9, 10, 11, 12, 13, 14, 15, 19, 20, 21, 22, 23, 24, 25]
abbrev mJ (v2 v3 v6 v7 v16 v17 v18 : AV) : List AV := [.undef, .undef, v2, v3, .undef, .undef, v6, v7, .undef, .undef, .undef, .undef, .undef, .undef, .undef, .undef, v16, v17, v18, .undef, .undef, .undef, .undef, .undef, .undef, .undef]
theorem xI {d0 d1 v2 v3 d4 d5 v6 v7 d8 d9 d10 d11 d12 d13 d14 d15 v16 v17 v18 d19 d20 d21 d22 d23 d24 d25 : AV} : clear jP [d0, d1, v2, v3, d4, d5, v6, v7, d8, d9, d10, d11, d12, d13, d14, d15, v16, v17, v18, d19, d20, d21, d22, d23, d24, d25] = mJ v2 v3 v6 v7 v16 v17 v18 := rfl
theorem DS {E : Env} {fuel : Nat} {A : ac} {o : Out} {k : List KC} {d0 d1 v2 v3 d4 d5 v6 v7 d8 d9 d10 d11 d12 d13 d14 d15 v16 v17 v18 d19 d20 d21 d22 d23 d24 d25 : AV} (h : bg (evC E fuel fU) jP fuel (mJ v2 v3 v6 v7 v16 v17 v18) A = some o) :
  run E fuel (.code (.loop [0, 1, 4, 5, 8, 9, 10, 11, 12, 13, 14, 15, 19, 20, 21, 22, 23, 24, 25] fU) :: k) [d0, d1, v2, v3, d4, d5, v6, v7, d8, d9, d10, d11, d12, d13, d14, d15, v16, v17, v18, d19, d20, d21, d22, d23, d24, d25] A = after E fuel k o := aG jP _ _ (by rw [xI]; exact h)
def jO : List Nat := [0, 1, 2, 4, 5, 8, 9, 10, 12, 13, 14, 15, 16, 17, 18, 19, 20, 21, 25]
abbrev mI (v3 v6 v7 v11 v22 v23 v24 : AV) : List AV := [.undef, .undef, .undef, v3, .undef, .undef, v6, v7, .undef, .undef, .undef, v11, .undef, .undef, .undef, .undef, .undef, .undef, .undef, .undef, .undef, .undef, v22, v23, v24, .undef]
theorem xH {d0 d1 d2 v3 d4 d5 v6 v7 d8 d9 d10 v11 d12 d13 d14 d15 d16 d17 d18 d19 d20 d21 v22 v23 v24 d25 : AV} : clear jO [d0, d1, d2, v3, d4, d5, v6, v7, d8, d9, d10, v11, d12, d13, d14, d15, d16, d17, d18, d19, d20, d21, v22, v23, v24, d25] = mI v3 v6 v7 v11 v22 v23 v24 := rfl
theorem DR {E : Env} {fuel : Nat} {A : ac} {o : Out} {k : List KC} {d0 d1 d2 v3 d4 d5 v6 v7 d8 d9 d10 v11 d12 d13 d14 d15 d16 d17 d18 d19 d20 d21 v22 v23 v24 d25 : AV} (h : bg (evC E fuel kW) jO fuel (mI v3 v6 v7 v11 v22 v23 v24) A = some o) :
  run E fuel (.code (.loop [0, 1, 2, 4, 5, 8, 9, 10, 12, 13, 14, 15, 16, 17, 18, 19, 20, 21, 25] kW) :: k) [d0, d1, d2, v3, d4, d5, v6, v7, d8, d9, d10, v11, d12, d13, d14, d15, d16, d17, d18, d19, d20, d21, v22, v23, v24, d25] A = after E fuel k o := aG jO _ _ (by rw [xH]; exact h)
theorem xm : aE Try.prog Try.f19 2 [0, 1, 2, 3, 4, 5, 6, 7, 8, 9, 10, 11, 12, 13, 14, 19, 22, 23, 24, 25, 36, 53, 69, 70, 71, 72] [46] true ([[0, 1, 4, 5, 8, 9, 10, 11, 12, 13, 14, 15, 19, 20, 21, 22, 23, 24, 25], [0, 1, 2, 4, 5, 8, 9, 10, 12, 13, 14, 15, 16, 17, 18, 19, 20, 21, 25]], [[0, 1, 4, 5, 8, 9, 10, 11, 12, 13, 14, 15, 19, 20, 21, 22, 23, 24, 25], [0, 1, 4, 5, 8, 9, 10, 11, 12, 13, 14, 15, 16, 17, 18, 19, 20, 21, 22, 23, 24, 25], [0, 1, 2, 4, 5, 8, 9, 10, 12, 13, 14, 15, 16, 17, 18, 19, 20, 21, 25], [0, 1, 2, 3, 4, 5, 6, 8, 9, 10, 11, 12, 13, 14, 15, 16, 17, 18, 19, 20, 21, 22, 23, 24, 25]]) = some yf := by kernel_rfl
theorem Ig : Try.prog.funcs[19]? = some Try.f19 := by kernel_rfl
def iZ : MC := .seq (.seq (.region [⟨none, .mv (.var 3), none⟩, ⟨none, .mv (.var 0), none⟩, ⟨none, .lenSl (.tmp 1), none⟩, ⟨some 5, .bin .lss (.tmp 0) (.tmp 2), none⟩]) (.cond (.var 5) .skip (.exit 0))) (.seq (.seq (.block 1 (.seq (.region [⟨none, .mv (.var 0), none⟩, ⟨none, .mv (.var 3), none⟩, ⟨none, .indexSl 4 (.tmp 0) (.tmp 1), none⟩, ⟨none, .load true 4 (.tmp 2), none⟩, ⟨none, .mv (.var 1), none⟩, ⟨none, .mv (.var 3), none⟩, ⟨none, .indexSl 4 (.tmp 4) (.tmp 5), none⟩, ⟨none, .load true 4 (.tmp 6), none⟩, ⟨some 6, .eqAgg true [(0, 1), (1, 1), (2, 1), (3, 1)] (.tmp 3) (.tmp 7), none⟩]) (.cond (.var 6) (.seq (.region [⟨some 2, .mv (.cst (.bool false)), none⟩]) .ret) .skip))) (.kill [2, 4, 5, 6])) (.region [⟨none, .mv (.var 3), none⟩, ⟨none, .bin .add (.tmp 0) (.cst (.int .i64 1)), none⟩, ⟨some 3, .mv (.tmp 1), none⟩]))
def ye : ci := ⟨2, 7, .seq (.region [⟨some 2, .mv (.cst (.bool false)), none⟩]) (.seq (.seq (.region [⟨none, .mv (.var 0), none⟩, ⟨none, .lenSl (.tmp 0), none⟩, ⟨none, .mv (.var 1), none⟩, ⟨none, .lenSl (.tmp 2), none⟩, ⟨some 4, .bin .neq (.tmp 1) (.tmp 3), none⟩]) (.cond (.var 4) (.seq (.region [⟨some 2, .mv (.cst (.bool false)), none⟩]) .ret) .skip)) (.seq (.seq (.region [⟨some 3, .mv (.cst (.int .i64 0)), none⟩]) (.seq (.block 0 (.loop [2, 4, 5, 6] iZ)) (.kill [0, 1, 2, 3, 4, 5, 6]))) (.seq (.region [⟨some 2, .mv (.cst (.bool true)), none⟩]) .ret))), [.tmp 2]⟩
def iI : List Nat := [2, 4, 5, 6]
abbrev kO (v0 v1 v3 : AV) : List AV := [v0, v1, .undef, v3, .undef, .undef, .undef]
theorem AM {v0 v1 d2 v3 d4 d5 d6 : AV} : clear iI [v0, v1, d2, v3, d4, d5, d6] = kO v0 v1 v3 := rfl
theorem An {E : Env} {fuel : Nat} {A : ac} {o : Out} {k : List KC} {v0 v1 d2 v3 d4 d5 d6 : AV} (h : bg (evC E fuel iZ) iI fuel (kO v0 v1 v3) A = some o) :
  run E fuel (.code (.loop [2, 4, 5, 6] iZ) :: k) [v0, v1, d2, v3, d4, d5, d6] A = after E fuel k o := aG iI _ _ (by rw [AM]; exact h)
theorem xj : aE Try.prog Try.f21 2 [0, 1, 4, 5, 10, 14, 25] [] true ([[2, 4, 5, 6]], [[2, 4, 5, 6], [0, 1, 2, 3, 4, 5, 6]]) = some ye := by kernel_rfl
theorem Ie : Try.prog.funcs[21]? = some Try.f21 := by kernel_rfl
def cY : MC := .seq (.region [⟨some 14, .bin .lss (.var 13) (.var 12), none⟩]) (.seq (.cond (.var 14) .skip (.exit 0)) (.seq (.seq (.block 1 (.seq (.region [⟨none, .indexSl 1 (.var 11) (.var 13), none⟩, ⟨none, .load false 1 (.tmp 0), none⟩, ⟨some 6, .mv (.tmp 1), none⟩]) (.seq (.region [⟨none, .load true 5 (.var 1), none⟩, ⟨none, .mv (.var 6), none⟩, ⟨none, .call (.fn 19) [.tmp 0, .tmp 1], none⟩, ⟨none, .mv (.tmp 2), none⟩, ⟨none, .extract (.tmp 3) 0, none⟩, ⟨none, .extract (.tmp 3) 1, none⟩, ⟨some 7, .mv (.tmp 4), none⟩, ⟨none, .mv (.tmp 5), none⟩]) (.seq (.region [⟨some 8, .mv (.cst (.int .i64 1000000)), none⟩]) (.seq (.seq (.region [⟨none, .fieldAddr 0 (.var 4), none⟩, ⟨none, .load false 1 (.tmp 0), none⟩, ⟨some 15, .bin .gtr (.tmp 1) (.cst (.int .i64 0)), none⟩]) (.cond (.var 15) (.region [⟨none, .fieldAddr 0 (.var 4), none⟩, ⟨none, .load false 1 (.tmp 0), none⟩, ⟨none, .bin .sub (.tmp 1) (.cst (.int .i64 1)), none⟩, ⟨some 8, .mv (.tmp 2), none⟩]) .skip)) (.seq (.seq (.region [⟨none, .mv (.var 8), none⟩, ⟨some 16, .bin .lss (.tmp 0) (.cst (.int .i64 1)), none⟩]) (.cond (.var 16) (.exit 0) .skip)) (.seq (.region [⟨none, .mv (.var 6), none⟩, ⟨none, .lenSl (.tmp 0), none⟩, ⟨none, .mv (.var 7), none⟩, ⟨none, .mv (.var 8), none⟩, ⟨none, .call (.fn 28) [.tmp 1, .tmp 2, .cst (.int .i64 1), .tmp 3], none⟩, ⟨none, .mv (.tmp 4), none⟩, ⟨none, .extract (.tmp 5) 0, none⟩, ⟨none, .extract (.tmp 5) 1, none⟩, ⟨some 9, .mv (.tmp 6), none⟩, ⟨some 10, .mv (.tmp 7), none⟩]) (.seq (.region [⟨some 17, .mv (.var 10), none⟩]) (.cond (.var 17) (.region [⟨none, .mv (.var 9), none⟩, ⟨none, .mv (.var 6), none⟩, ⟨none, .build [.int .i64 0, .nilS, .nilS, .nilS] [(0, (1, .tmp 0)), (1, (1, .tmp 1))], none⟩, ⟨none, .mv (.var 7), none⟩, ⟨none, .store 4 (.var 4) (.tmp 2), none⟩, ⟨some 5, .mv (.tmp 3), none⟩]) .skip))))))))) (.kill [0, 3, 6, 7, 8, 9, 10, 14, 15, 16, 17, 18, 19])) (.region [⟨none, .bin .add (.var 13) (.cst (.int .i64 1)), none⟩, ⟨some 13, .mv (.tmp 0), none⟩])))
def uC : ci := ⟨1, 20, .seq (.region [⟨some 1, .box (.var 0), none⟩, ⟨some 2, .alloc 4 (.agg [.int .i64 0, .nilS, .nilS, .nilS]), none⟩, ⟨some 3, .mv (.cst (.int .i64 0)), none⟩]) (.seq (.region [⟨some 4, .alloc 4 (.agg [.int .i64 0, .nilS, .nilS, .nilS]), none⟩]) (.seq (.region [⟨some 5, .mv (.cst .nilS), none⟩]) (.seq (.seq (.region [⟨none, .load true 5 (.var 1), none⟩, ⟨some 11, .call (.fn 14) [.tmp 0], none⟩, ⟨some 12, .lenSl (.var 11), none⟩, ⟨some 13, .mv (.cst (.int .i64 0)), none⟩]) (.seq (.block 0 (.loop [0, 3, 6, 7, 8, 9, 10, 14, 15, 16, 17, 18, 19] cY)) (.kill [0, 1, 3, 6, 7, 8, 9, 10, 11, 12, 13, 14, 15, 16, 17, 18, 19]))) (.seq (.seq (.region [⟨none, .fieldAddr 0 (.var 4), none⟩, ⟨none, .load false 1 (.tmp 0), none⟩, ⟨some 18, .bin .eql (.tmp 1) (.cst (.int .i64 0)), none⟩]) (.cond (.var 18) (.seq (.region [⟨none, .build [.int .i64 0, .nilS, .nilS, .nilS] [], none⟩, ⟨none, .store 4 (.var 2) (.tmp 0), none⟩, ⟨some 3, .mv (.cst (.int .i64 130)), none⟩]) .ret) .skip)) (.seq (.region [⟨none, .fieldAddr 1 (.var 4), none⟩, ⟨none, .load false 1 (.tmp 0), none⟩, ⟨none, .lenSl (.tmp 1), none⟩, ⟨none, .mv (.var 5), none⟩, ⟨none, .fieldAddr 0 (.var 4), none⟩, ⟨none, .load false 1 (.tmp 4), none⟩, ⟨none, .call (.fn 31) [.tmp 2, .tmp 3, .tmp 5], none⟩, ⟨none, .mv (.tmp 6), none⟩, ⟨none, .extract (.tmp 7) 0, none⟩, ⟨none, .extract (.tmp 7) 1, none⟩, ⟨none, .extract (.tmp 7) 2, none⟩, ⟨none, .fieldAddr 2 (.var 4), none⟩, ⟨none, .store 1 (.tmp 11) (.tmp 8), none⟩]) (.seq (.seq (.region [⟨none, .fieldAddr 0 (.var 4), none⟩, ⟨none, .load false 1 (.tmp 0), none⟩, ⟨some 19, .bin .gtr (.tmp 1) (.cst (.int .i64 1)), none⟩]) (.cond (.var 19) (.region [⟨none, .fieldAddr 1 (.var 4), none⟩, ⟨none, .load false 1 (.tmp 0), none⟩, ⟨none, .lenSl (.tmp 1), none⟩, ⟨none, .mv (.var 5), none⟩, ⟨none, .fieldAddr 0 (.var 4), none⟩, ⟨none, .load false 1 (.tmp 4), none⟩, ⟨none, .bin .sub (.tmp 5) (.cst (.int .i64 1)), none⟩, ⟨none, .call (.fn 31) [.tmp 2, .tmp 3, .tmp 6], none⟩, ⟨none, .mv (.tmp 7), none⟩, ⟨none, .extract (.tmp 8) 0, none⟩, ⟨none, .extract (.tmp 8) 1, none⟩, ⟨none, .extract (.tmp 8) 2, none⟩, ⟨none, .fieldAddr 3 (.var 4), none⟩, ⟨none, .store 1 (.tmp 12) (.tmp 10), none⟩]) .skip)) (.seq (.region [⟨none, .load true 4 (.var 4), none⟩, ⟨none, .store 4 (.var 2) (.tmp 0), none⟩, ⟨some 3, .mv (.cst (.int .i64 0)), none⟩]) .ret))))))), [.cell 2 true 4, .tmp 3]⟩
def dw : List Nat := [0, 3, 6, 7, 8, 9, 10, 14, 15, 16, 17, 18, 19]
abbrev eG (v1 v2 v4 v5 v11 v12 v13 : AV) : List AV := [.undef, v1, v2, .undef, v4, v5, .undef, .undef, .undef, .undef, .undef, v11, v12, v13, .undef, .undef, .undef, .undef, .undef, .undef]
theorem nN {d0 v1 v2 d3 v4 v5 d6 d7 d8 d9 d10 v11 v12 v13 d14 d15 d16 d17 d18 d19 : AV} : clear dw [d0, v1, v2, d3, v4, v5, d6, d7, d8, d9, d10, v11, v12, v13, d14, d15, d16, d17, d18, d19] = eG v1 v2 v4 v5 v11 v12 v13 := rfl
theorem ni {E : Env} {fuel : Nat} {A : ac} {o : Out} {k : List KC} {d0 v1 v2 d3 v4 v5 d6 d7 d8 d9 d10 v11 v12 v13 d14 d15 d16 d17 d18 d19 : AV} (h : bg (evC E fuel cY) dw fuel (eG v1 v2 v4 v5 v11 v12 v13) A = some o) :
  run E fuel (.code (.loop [0, 3, 6, 7, 8, 9, 10, 14, 15, 16, 17, 18, 19] cY) :: k) [d0, v1, v2, d3, v4, v5, d6, d7, d8, d9, d10, v11, v12, v13, d14, d15, d16, d17, d18, d19] A = after E fuel k o := aG dw _ _ (by rw [nN]; exact h)
theorem tX : aE Try.prog Try.f22 1 [0, 1, 2, 3, 4, 5, 7, 8, 10, 11, 12, 14, 15, 16, 17, 28, 33, 42, 50, 66] [] true ([[0, 3, 6, 7, 8, 9, 10, 14, 15, 16, 17, 18, 19]], [[0, 3, 6, 7, 8, 9, 10, 14, 15, 16, 17, 18, 19], [0, 1, 3, 6, 7, 8, 9, 10, 11, 12, 13, 14, 15, 16, 17, 18, 19]]) = some uC := by kernel_rfl
theorem FF : Try.prog.funcs[22]? = some Try.f22 := by kernel_rfl
def uB : ci := ⟨2, 10, .seq (.region [⟨some 2, .box (.var 0), none⟩, ⟨some 3, .box (.var 1), none⟩, ⟨some 4, .mv (.cst (.bool false)), none⟩]) (.seq (.region [⟨none, .load true 5 (.var 2), none⟩, ⟨none, .fieldAddr 1 (.var 3), none⟩, ⟨none, .load false 1 (.tmp 1), none⟩, ⟨none, .call (.fn 19) [.tmp 0, .tmp 2], none⟩, ⟨none, .mv (.tmp 3), none⟩, ⟨none, .extract (.tmp 4) 0, none⟩, ⟨none, .extract (.tmp 4) 1, none⟩, ⟨some 5, .mv (.tmp 5), none⟩, ⟨some 6, .mv (.tmp 6), none⟩]) (.seq (.region [⟨none, .fieldAddr 1 (.var 3), none⟩, ⟨none, .load false 1 (.tmp 0), none⟩, ⟨none, .lenSl (.tmp 1), none⟩, ⟨some 7, .mv (.tmp 2), none⟩]) (.seq (.seq (.block 0 (.seq (.region [⟨none, .mv (.var 6), none⟩, ⟨none, .bin .neq (.tmp 0) (.cst (.int .i64 0)), none⟩, ⟨none, .mv (.tmp 1), none⟩, ⟨none, .fieldAddr 0 (.var 3), some (.tmp 2, false)⟩, ⟨none, .load false 1 (.tmp 3), some (.tmp 2, false)⟩, ⟨none, .bin .lss (.tmp 4) (.cst (.int .i64 1)), some (.tmp 2, false)⟩, ⟨none, .pick (.tmp 2) (.cst (.bool true)) (.tmp 5), none⟩, ⟨none, .mv (.tmp 6), none⟩, ⟨none, .fieldAddr 0 (.var 3), some (.tmp 7, false)⟩, ⟨none, .load false 1 (.tmp 8), some (.tmp 7, false)⟩, ⟨none, .bin .gtr (.tmp 9) (.cst (.int .i64 1000000)), some (.tmp 7, false)⟩, ⟨none, .pick (.tmp 7) (.cst (.bool true)) (.tmp 10), none⟩, ⟨none, .mv (.tmp 11), none⟩, ⟨none, .mv (.var 7), some (.tmp 12, false)⟩, ⟨none, .mv (.var 5), some (.tmp 12, false)⟩, ⟨none, .fieldAddr 0 (.var 3), some (.tmp 12, false)⟩, ⟨none, .load false 1 (.tmp 15), some (.tmp 12, false)⟩, ⟨none, .fieldAddr 2 (.var 3), some (.tmp 12, false)⟩, ⟨none, .load false 1 (.tmp 17), some (.tmp 12, false)⟩, ⟨none, .call (.fn 32) [.tmp 13, .tmp 14, .tmp 16, .tmp 18], some (.tmp 12, false)⟩, ⟨none, .un .not (.tmp 19), some (.tmp 12, false)⟩, ⟨none, .pick (.tmp 12) (.cst (.bool true)) (.tmp 20), none⟩, ⟨some 8, .mv (.tmp 21), none⟩]) (.cond (.var 8) (.seq (.region [⟨some 4, .mv (.cst (.bool false)), none⟩]) .ret) (.seq (.region [⟨none, .fieldAddr 0 (.var 3), none⟩, ⟨none, .load false 1 (.tmp 0), none⟩, ⟨none, .bin .eql (.tmp 1) (.cst (.int .i64 1)), none⟩, ⟨some 9, .mv (.tmp 2), none⟩]) (.cond (.var 9) (.seq (.region [⟨none, .fieldAddr 3 (.var 3), none⟩, ⟨none, .load false 1 (.tmp 0), none⟩, ⟨none, .lenSl (.tmp 1), none⟩, ⟨none, .bin .eql (.tmp 2) (.cst (.int .i64 0)), none⟩, ⟨some 4, .mv (.tmp 3), none⟩]) .ret) .skip))))) (.kill [0, 1, 2, 4, 6, 8, 9])) (.seq (.region [⟨none, .mv (.var 7), none⟩, ⟨none, .mv (.var 5), none⟩, ⟨none, .fieldAddr 0 (.var 3), none⟩, ⟨none, .load false 1 (.tmp 2), none⟩, ⟨none, .bin .sub (.tmp 3) (.cst (.int .i64 1)), none⟩, ⟨none, .fieldAddr 3 (.var 3), none⟩, ⟨none, .load false 1 (.tmp 5), none⟩, ⟨none, .call (.fn 51) [.tmp 0, .tmp 1, .tmp 4, .tmp 6], none⟩, ⟨some 4, .mv (.tmp 7), none⟩]) .ret)))), [.tmp 4]⟩
theorem xe : aE Try.prog Try.f26 2 [0, 1, 2, 3, 4, 5, 6, 7, 18, 41] [] true ([], [[0, 1, 2, 4, 6, 8, 9]]) = some uB := by kernel_rfl
theorem Ia : Try.prog.funcs[26]? = some Try.f26 := by kernel_rfl
def B9 : ci := ⟨2, 4, .seq (.region [⟨some 2, .mv (.cst (.int .i64 0)), none⟩]) (.seq (.seq (.region [⟨none, .mv (.var 0), none⟩, ⟨some 3, .bin .lss (.tmp 0) (.cst (.int .i64 0)), none⟩]) (.cond (.var 3) (.region [⟨none, .mv (.var 0), none⟩, ⟨none, .bin .add (.tmp 0) (.cst (.int .i64 1)), none⟩, ⟨none, .un .neg (.tmp 1), none⟩, ⟨some 0, .mv (.tmp 2), none⟩]) .skip)) (.seq (.region [⟨none, .mv (.var 0), none⟩, ⟨none, .mv (.var 1), none⟩, ⟨none, .bin .rem (.tmp 0) (.tmp 1), none⟩, ⟨some 2, .mv (.tmp 2), none⟩]) .ret)), [.tmp 2]⟩
theorem xc : aE Try.prog Try.f33 2 [0, 1, 4, 6] [] true ([], []) = some B9 := by kernel_rfl
theorem H7 : Try.prog.funcs[33]? = some Try.f33 := by kernel_rfl
def gY : MC := .seq (.seq (.region [⟨none, .mv (.var 6), none⟩, ⟨none, .load false 1 (.var 1), none⟩, ⟨some 8, .bin .leq (.tmp 0) (.tmp 1), none⟩]) (.cond (.var 8) .skip (.exit 0))) (.seq (.seq (.block 1 (.seq (.region [⟨none, .mv (.var 0), none⟩, ⟨none, .mv (.var 6), none⟩, ⟨none, .call (.fn 35) [.tmp 0, .tmp 1], none⟩, ⟨none, .un .not (.tmp 2), none⟩, ⟨none, .mv (.tmp 3), none⟩, ⟨none, .fieldAddr 4 (.var 3), some (.tmp 4, true)⟩, ⟨none, .load false 1 (.tmp 5), some (.tmp 4, true)⟩, ⟨none, .bin .eql (.tmp 6) (.cst (.int .i64 1)), some (.tmp 4, true)⟩, ⟨none, .mv (.tmp 7), some (.tmp 4, true)⟩, ⟨none, .mv (.var 6), some (.tmp 8, false)⟩, ⟨none, .mv (.var 0), some (.tmp 8, false)⟩, ⟨none, .lenSl (.tmp 10), some (.tmp 8, false)⟩, ⟨none, .bin .eql (.tmp 9) (.tmp 11), some (.tmp 8, false)⟩, ⟨none, .pick (.tmp 8) (.cst (.bool true)) (.tmp 12), some (.tmp 4, true)⟩, ⟨some 9, .pick (.tmp 4) (.tmp 13) (.cst (.bool false)), none⟩]) (.cond (.var 9) (.regionD [] [⟨none, .load false 1 (.var 4), none⟩, ⟨none, .mv (.var 0), none⟩, ⟨none, .call (.fn 36) [.tmp 1], none⟩, ⟨none, .mv (.var 6), none⟩, ⟨none, .buildF 1 [.tmp 3], none⟩, ⟨none, .appendN 1 8 (.tmp 2) (.tmp 4), none⟩, ⟨none, .call (.tmp 0) [.tmp 5], none⟩] [(0, 2), (0, 5)]) .skip))) (.kill [2, 5, 7, 8, 9])) (.region [⟨none, .mv (.var 6), none⟩, ⟨none, .bin .add (.tmp 0) (.cst (.int .i64 1)), none⟩, ⟨some 6, .mv (.tmp 1), none⟩]))
def yd : ci := ⟨5, 10, .seq (.seq (.region [⟨none, .mv (.var 0), none⟩, ⟨none, .lenSl (.tmp 0), none⟩, ⟨none, .load false 1 (.var 1), none⟩, ⟨none, .bin .add (.tmp 2) (.cst (.int .i64 1)), none⟩, ⟨some 7, .bin .eql (.tmp 1) (.tmp 3), none⟩]) (.cond (.var 7) (.seq (.region [⟨none, .load false 1 (.var 1), none⟩, ⟨none, .bin .add (.tmp 0) (.cst (.int .i64 1)), none⟩, ⟨none, .makeSlice 1 8 (.int .i64 0) (.tmp 1) (.tmp 1), none⟩, ⟨some 5, .mv (.tmp 2), none⟩]) (.seq (.region [⟨none, .mv (.var 5), none⟩, ⟨none, .mv (.var 0), none⟩, ⟨none, .copy 1 (.tmp 0) (.tmp 1), none⟩]) (.seq (.region [⟨none, .load false 1 (.var 2), none⟩, ⟨none, .mv (.var 5), none⟩, ⟨none, .buildSlice 1 [.tmp 1], none⟩, ⟨none, .append 1 24 (.tmp 0) (.tmp 2), none⟩, ⟨none, .store 1 (.var 2) (.tmp 3), none⟩]) .ret))) .skip)) (.seq (.region [⟨some 6, .mv (.cst (.int .i64 1)), none⟩]) (.seq (.block 0 (.loop [2, 5, 7, 8, 9] gY)) (.kill [0, 1, 2, 3, 4, 5, 6, 7, 8, 9]))), []⟩
def jL : List Nat := [2, 5, 7, 8, 9]
abbrev mH (v0 v1 v3 v4 v6 : AV) : List AV := [v0, v1, .undef, v3, v4, .undef, v6, .undef, .undef, .undef]
theorem xx {v0 v1 d2 v3 v4 d5 v6 d7 d8 d9 : AV} : clear jL [v0, v1, d2, v3, v4, d5, v6, d7, d8, d9] = mH v0 v1 v3 v4 v6 := rfl
theorem DQ {E : Env} {fuel : Nat} {A : ac} {o : Out} {k : List KC} {v0 v1 d2 v3 v4 d5 v6 d7 d8 d9 : AV} (h : bg (evC E fuel gY) jL fuel (mH v0 v1 v3 v4 v6) A = some o) :
  run E fuel (.code (.loop [2, 5, 7, 8, 9] gY) :: k) [v0, v1, d2, v3, v4, d5, v6, d7, d8, d9] A = after E fuel k o := aG jL _ _ (by rw [xx]; exact h)
theorem tW : aE Try.prog Try.f34 5 [0, 1, 2, 3, 4, 6, 7, 12, 25, 42] [] false ([[2, 5, 7, 8, 9]], [[2, 5, 7, 8, 9], [0, 1, 2, 3, 4, 5, 6, 7, 8, 9]]) = some yd := by kernel_rfl
theorem FE : Try.prog.funcs[34]? = some Try.f34 := by kernel_rfl
def C5 : ci := ⟨2, 3, .seq (.region [⟨some 2, .mv (.cst (.bool false)), none⟩]) (.seq (.region [⟨none, .mv (.var 0), none⟩, ⟨none, .mv (.var 1), none⟩, ⟨none, .call (.fn 64) [.tmp 0, .tmp 1], none⟩, ⟨none, .bin .geq (.tmp 2) (.cst (.int .i64 0)), none⟩, ⟨some 2, .mv (.tmp 3), none⟩]) .ret), [.tmp 2]⟩
theorem xb : aE Try.prog Try.f35 2 [0, 1, 4] [] true ([], []) = some C5 := by kernel_rfl
theorem H6 : Try.prog.funcs[35]? = some Try.f35 := by kernel_rfl
def B8 : ci := ⟨1, 2, .seq (.region [⟨some 1, .mv (.cst .nilS), none⟩]) (.seq (.region [⟨none, .mv (.var 0), none⟩, ⟨none, .mv (.var 0), none⟩, ⟨none, .lenSl (.tmp 1), none⟩, ⟨none, .mv (.var 0), none⟩, ⟨none, .lenSl (.tmp 3), none⟩, ⟨none, .sliceM 1 (.tmp 0) none (.tmp 2) (.tmp 4), none⟩, ⟨some 1, .mv (.tmp 5), none⟩]) .ret), [.tmp 1]⟩
theorem xa : aE Try.prog Try.f36 1 [0, 2] [] true ([], []) = some B8 := by kernel_rfl
theorem H5 : Try.prog.funcs[36]? = some Try.f36 := by kernel_rfl
def uT : ci := ⟨2, 3, .seq (.region [⟨some 2, .mv (.cst (.bool false)), none⟩]) (.seq (.region [⟨none, .mv (.var 0), none⟩, ⟨none, .bin .geq (.tmp 0) (.cst (.int .i64 0)), none⟩, ⟨none, .mv (.tmp 1), none⟩, ⟨none, .mv (.var 0), some (.tmp 2, true)⟩, ⟨none, .mv (.var 1), some (.tmp 2, true)⟩, ⟨none, .bin .leq (.tmp 3) (.tmp 4), some (.tmp 2, true)⟩, ⟨none, .pick (.tmp 2) (.tmp 5) (.cst (.bool false)), none⟩, ⟨some 2, .mv (.tmp 6), none⟩]) .ret), [.tmp 2]⟩
theorem w9 : aE Try.prog Try.f38 2 [0, 1, 4] [] true ([], []) = some uT := by kernel_rfl
theorem H4 : Try.prog.funcs[38]? = some Try.f38 := by kernel_rfl
def C4 : ci := ⟨2, 3, .seq (.region [⟨some 2, .mv (.cst (.bool false)), none⟩]) (.seq (.region [⟨none, .mv (.var 0), none⟩, ⟨none, .mv (.var 1), none⟩, ⟨none, .call (.fn 65) [.tmp 0, .tmp 1], none⟩, ⟨none, .bin .geq (.tmp 2) (.cst (.int .i64 0)), none⟩, ⟨some 2, .mv (.tmp 3), none⟩]) .ret), [.tmp 2]⟩
theorem wZ : aE Try.prog Try.f39 2 [0, 1, 4] [] true ([], []) = some C4 := by kernel_rfl
theorem H3 : Try.prog.funcs[39]? = some Try.f39 := by kernel_rfl
def yc : ci := ⟨2, 4, .seq (.region [⟨some 2, .box (.var 0), none⟩, ⟨some 3, .mv (.cst (.bool false)), none⟩]) (.seq (.region [⟨none, .load false 1 (.var 1), none⟩, ⟨none, .fieldAddr 0 (.var 2), none⟩, ⟨none, .load false 1 (.tmp 1), none⟩, ⟨none, .call (.tmp 0) [.tmp 2, .cst (.int .i64 100000)], none⟩, ⟨none, .un .not (.tmp 3), none⟩, ⟨none, .mv (.tmp 4), none⟩, ⟨none, .load false 1 (.var 1), some (.tmp 5, false)⟩, ⟨none, .fieldAddr 1 (.var 2), some (.tmp 5, false)⟩, ⟨none, .load false 1 (.tmp 7), some (.tmp 5, false)⟩, ⟨none, .call (.tmp 6) [.tmp 8, .cst (.int .i64 100000)], some (.tmp 5, false)⟩, ⟨none, .un .not (.tmp 9), some (.tmp 5, false)⟩, ⟨none, .pick (.tmp 5) (.cst (.bool true)) (.tmp 10), none⟩, ⟨some 3, .mv (.tmp 11), none⟩]) .ret), [.tmp 3]⟩
theorem wY : aE Try.prog Try.f40 2 [0, 1, 2, 3] [] true ([], []) = some yc := by kernel_rfl
theorem H2 : Try.prog.funcs[40]? = some Try.f40 := by kernel_rfl
def C3 : ci := ⟨2, 3, .seq (.region [⟨some 2, .mv (.cst (.bool false)), none⟩]) (.seq (.region [⟨none, .mv (.var 0), none⟩, ⟨none, .mv (.var 1), none⟩, ⟨none, .call (.fn 66) [.tmp 0, .tmp 1], none⟩, ⟨none, .bin .geq (.tmp 2) (.cst (.int .i64 0)), none⟩, ⟨some 2, .mv (.tmp 3), none⟩]) .ret), [.tmp 2]⟩
theorem wX : aE Try.prog Try.f41 2 [0, 1, 4] [] true ([], []) = some C3 := by kernel_rfl
theorem H0 : Try.prog.funcs[41]? = some Try.f41 := by kernel_rfl
def B7 : ci := ⟨2, 3, .seq (.region [⟨some 2, .mv (.cst (.bool false)), none⟩]) (.seq (.region [⟨none, .mv (.var 0), none⟩, ⟨none, .load false 1 (.var 1), none⟩, ⟨none, .call (.fn 43) [.tmp 0, .tmp 1], none⟩, ⟨some 2, .mv (.tmp 2), none⟩]) .ret), [.tmp 2]⟩
theorem wW : aE Try.prog Try.f42 2 [0, 1, 3] [] true ([], []) = some B7 := by kernel_rfl
theorem HZ : Try.prog.funcs[42]? = some Try.f42 := by kernel_rfl
def eK : MC := .seq (.region [⟨some 7, .bin .lss (.var 6) (.var 5), none⟩]) (.seq (.cond (.var 7) .skip (.exit 0)) (.seq (.seq (.block 1 (.seq (.region [⟨none, .mv (.var 6), none⟩, ⟨some 3, .mv (.tmp 0), none⟩]) (.seq (.region [⟨none, .mv (.var 0), none⟩, ⟨none, .mv (.var 3), none⟩, ⟨none, .indexSl 1 (.tmp 0) (.tmp 1), none⟩, ⟨none, .load false 1 (.tmp 2), none⟩, ⟨none, .mv (.var 1), none⟩, ⟨none, .mv (.var 3), none⟩, ⟨none, .indexSl 1 (.tmp 4) (.tmp 5), none⟩, ⟨none, .load false 1 (.tmp 6), none⟩, ⟨some 8, .bin .neq (.tmp 3) (.tmp 7), none⟩]) (.cond (.var 8) (.seq (.region [⟨some 2, .mv (.cst (.bool false)), none⟩]) .ret) .skip)))) (.kill [2, 3, 4, 7, 8])) (.region [⟨none, .bin .add (.var 6) (.cst (.int .i64 1)), none⟩, ⟨some 6, .mv (.tmp 0), none⟩])))
def yb : ci := ⟨2, 9, .seq (.region [⟨some 2, .mv (.cst (.bool false)), none⟩]) (.seq (.seq (.region [⟨none, .mv (.var 0), none⟩, ⟨none, .lenSl (.tmp 0), none⟩, ⟨none, .mv (.var 1), none⟩, ⟨none, .lenSl (.tmp 2), none⟩, ⟨some 4, .bin .neq (.tmp 1) (.tmp 3), none⟩]) (.cond (.var 4) (.seq (.region [⟨some 2, .mv (.cst (.bool false)), none⟩]) .ret) .skip)) (.seq (.seq (.region [⟨none, .mv (.var 0), none⟩, ⟨some 5, .lenSl (.tmp 0), none⟩, ⟨some 6, .mv (.cst (.int .i64 0)), none⟩]) (.seq (.block 0 (.loop [2, 3, 4, 7, 8] eK)) (.kill [0, 1, 2, 3, 4, 5, 6, 7, 8]))) (.seq (.region [⟨some 2, .mv (.cst (.bool true)), none⟩]) .ret))), [.tmp 2]⟩
def dO : List Nat := [2, 3, 4, 7, 8]
abbrev fh (v0 v1 v5 v6 : AV) : List AV := [v0, v1, .undef, .undef, .undef, v5, v6, .undef, .undef]
theorem nL {v0 v1 d2 d3 d4 v5 v6 d7 d8 : AV} : clear dO [v0, v1, d2, d3, d4, v5, v6, d7, d8] = fh v0 v1 v5 v6 := rfl
theorem qK {E : Env} {fuel : Nat} {A : ac} {o : Out} {k : List KC} {v0 v1 d2 d3 d4 v5 v6 d7 d8 : AV} (h : bg (evC E fuel eK) dO fuel (fh v0 v1 v5 v6) A = some o) :
  run E fuel (.code (.loop [2, 3, 4, 7, 8] eK) :: k) [v0, v1, d2, d3, d4, v5, v6, d7, d8] A = after E fuel k o := aG dO _ _ (by rw [nL]; exact h)
theorem wV : aE Try.prog Try.f43 2 [0, 1, 4, 5, 10, 12, 13, 14, 24] [] true ([[2, 3, 4, 7, 8]], [[2, 3, 4, 7, 8], [0, 1, 2, 3, 4, 5, 6, 7, 8]]) = some yb := by kernel_rfl
theorem HY : Try.prog.funcs[43]? = some Try.f43 := by kernel_rfl
def yQ : ci := ⟨1, 4, .seq (.region [⟨some 1, .box (.var 0), none⟩, ⟨some 2, .mv (.cst (.int .i64 0)), none⟩]) (.seq (.seq (.region [⟨none, .fieldAddr 4 (.var 1), none⟩, ⟨none, .load false 1 (.tmp 0), none⟩, ⟨some 3, .bin .eql (.tmp 1) (.cst (.int .i64 2)), none⟩]) (.cond (.var 3) (.seq (.region [⟨none, .fieldAddr 1 (.var 1), none⟩, ⟨none, .load false 1 (.tmp 0), none⟩, ⟨none, .fieldAddr 2 (.var 1), none⟩, ⟨none, .load false 1 (.tmp 2), none⟩, ⟨none, .bin .add (.tmp 1) (.tmp 3), none⟩, ⟨some 2, .mv (.tmp 4), none⟩]) .ret) .skip)) (.seq (.region [⟨none, .fieldAddr 1 (.var 1), none⟩, ⟨none, .load false 1 (.tmp 0), none⟩, ⟨none, .fieldAddr 3 (.var 1), none⟩, ⟨none, .load false 1 (.tmp 2), none⟩, ⟨none, .bin .add (.tmp 1) (.tmp 3), none⟩, ⟨none, .fieldAddr 2 (.var 1), none⟩, ⟨none, .load false 1 (.tmp 5), none⟩, ⟨none, .bin .add (.tmp 4) (.tmp 6), none⟩, ⟨some 2, .mv (.tmp 7), none⟩]) .ret)), [.tmp 2]⟩
theorem wU : aE Try.prog Try.f44 1 [0, 1, 2, 5] [] true ([], []) = some yQ := by kernel_rfl
theorem HX : Try.prog.funcs[44]? = some Try.f44 := by kernel_rfl
def yP : ci := ⟨2, 2, .region [⟨none, .mv (.var 0), none⟩, ⟨none, .mv (.var 0), none⟩, ⟨none, .nilCheck (.tmp 1), none⟩, ⟨none, .load false 1 (.tmp 2), none⟩, ⟨none, .mv (.var 1), none⟩, ⟨none, .append 4 32 (.tmp 3) (.tmp 4), none⟩, ⟨none, .nilCheck (.tmp 0), none⟩, ⟨none, .store 1 (.tmp 6) (.tmp 5), none⟩], []⟩
theorem wT : aE Try.prog Try.f45 2 [0, 1] [] true ([], []) = some yP := by kernel_rfl
theorem HW : Try.prog.funcs[45]? = some Try.f45 := by kernel_rfl
def B6 : ci := ⟨0, 1, .seq (.region [⟨some 0, .alloc 3 (.agg [.nilF, .nilF, .nilF]), none⟩]) (.seq (.region [⟨none, .build [.nilF, .nilF, .nilF] [(1, (1, .fn 67)), (2, (1, .fn 68))], none⟩, ⟨none, .store 3 (.var 0) (.tmp 0), none⟩]) .ret), [.cell 0 true 3]⟩
theorem wS : aE Try.prog Try.f46 0 [0] [] true ([], []) = some B6 := by kernel_rfl
theorem HV : Try.prog.funcs[46]? = some Try.f46 := by kernel_rfl
def iS : MC := .seq (.region [⟨some 6, .bin .lss (.var 5) (.var 4), none⟩]) (.seq (.cond (.var 6) .skip (.exit 0)) (.seq (.seq (.block 1 (.seq (.region [⟨none, .mv (.var 5), none⟩, ⟨some 3, .mv (.tmp 0), none⟩]) (.seq (.region [⟨none, .mv (.var 1), none⟩, ⟨none, .mv (.var 0), none⟩, ⟨none, .mv (.var 3), none⟩, ⟨none, .indexSl 1 (.tmp 1) (.tmp 2), none⟩, ⟨none, .load false 1 (.tmp 3), none⟩, ⟨some 7, .bin .eql (.tmp 0) (.tmp 4), none⟩]) (.cond (.var 7) (.seq (.region [⟨none, .mv (.var 3), none⟩, ⟨some 2, .mv (.tmp 0), none⟩]) .ret) .skip)))) (.kill [2, 3, 6, 7])) (.region [⟨none, .bin .add (.var 5) (.cst (.int .i64 1)), none⟩, ⟨some 5, .mv (.tmp 0), none⟩])))
def Fe : ci := ⟨2, 8, .seq (.region [⟨some 2, .mv (.cst (.int .i64 0)), none⟩]) (.seq (.seq (.region [⟨none, .mv (.var 0), none⟩, ⟨some 4, .lenSl (.tmp 0), none⟩, ⟨some 5, .mv (.cst (.int .i64 0)), none⟩]) (.seq (.block 0 (.loop [2, 3, 6, 7] iS)) (.kill [0, 1, 2, 3, 4, 5, 6, 7]))) (.seq (.region [⟨some 2, .mv (.cst (.int .i64 (-1))), none⟩]) .ret)), [.tmp 2]⟩
def iC : List Nat := [2, 3, 6, 7]
abbrev kI (v0 v1 v4 v5 : AV) : List AV := [v0, v1, .undef, .undef, v4, v5, .undef, .undef]
theorem AD {v0 v1 d2 d3 v4 v5 d6 d7 : AV} : clear iC [v0, v1, d2, d3, v4, v5, d6, d7] = kI v0 v1 v4 v5 := rfl
theorem Ab {E : Env} {fuel : Nat} {A : ac} {o : Out} {k : List KC} {v0 v1 d2 d3 v4 v5 d6 d7 : AV} (h : bg (evC E fuel iS) iC fuel (kI v0 v1 v4 v5) A = some o) :
  run E fuel (.code (.loop [2, 3, 6, 7] iS) :: k) [v0, v1, d2, d3, v4, v5, d6, d7] A = after E fuel k o := aG iC _ _ (by rw [AD]; exact h)
theorem Ec : aE Try.prog Try.f64 2 [0, 1, 4, 5, 7, 8, 9, 16] [] true ([[2, 3, 6, 7]], [[2, 3, 6, 7], [0, 1, 2, 3, 4, 5, 6, 7]]) = some Fe := by kernel_rfl
theorem at64 : Try.prog.funcs[64]? = some Try.f64 := by kernel_rfl
def iR : MC := .seq (.region [⟨some 6, .bin .lss (.var 5) (.var 4), none⟩]) (.seq (.cond (.var 6) .skip (.exit 0)) (.seq (.seq (.block 1 (.seq (.region [⟨none, .mv (.var 5), none⟩, ⟨some 3, .mv (.tmp 0), none⟩]) (.seq (.region [⟨none, .mv (.var 1), none⟩, ⟨none, .mv (.var 0), none⟩, ⟨none, .mv (.var 3), none⟩, ⟨none, .indexSl 2 (.tmp 1) (.tmp 2), none⟩, ⟨none, .load true 2 (.tmp 3), none⟩, ⟨some 7, .call (.tmp 0) [.tmp 4], none⟩]) (.cond (.var 7) (.seq (.region [⟨none, .mv (.var 3), none⟩, ⟨some 2, .mv (.tmp 0), none⟩]) .ret) .skip)))) (.kill [2, 3, 6, 7])) (.region [⟨none, .bin .add (.var 5) (.cst (.int .i64 1)), none⟩, ⟨some 5, .mv (.tmp 0), none⟩])))
def Fd : ci := ⟨2, 8, .seq (.region [⟨some 2, .mv (.cst (.int .i64 0)), none⟩]) (.seq (.seq (.region [⟨none, .mv (.var 0), none⟩, ⟨some 4, .lenSl (.tmp 0), none⟩, ⟨some 5, .mv (.cst (.int .i64 0)), none⟩]) (.seq (.block 0 (.loop [2, 3, 6, 7] iR)) (.kill [0, 1, 2, 3, 4, 5, 6, 7]))) (.seq (.region [⟨some 2, .mv (.cst (.int .i64 (-1))), none⟩]) .ret)), [.tmp 2]⟩
def iB : List Nat := [2, 3, 6, 7]
abbrev kH (v0 v1 v4 v5 : AV) : List AV := [v0, v1, .undef, .undef, v4, v5, .undef, .undef]
theorem AC {v0 v1 d2 d3 v4 v5 d6 d7 : AV} : clear iB [v0, v1, d2, d3, v4, v5, d6, d7] = kH v0 v1 v4 v5 := rfl
theorem Aa {E : Env} {fuel : Nat} {A : ac} {o : Out} {k : List KC} {v0 v1 d2 d3 v4 v5 d6 d7 : AV} (h : bg (evC E fuel iR) iB fuel (kH v0 v1 v4 v5) A = some o) :
  run E fuel (.code (.loop [2, 3, 6, 7] iR) :: k) [v0, v1, d2, d3, v4, v5, d6, d7] A = after E fuel k o := aG iB _ _ (by rw [AC]; exact h)
theorem Eb : aE Try.prog Try.f65 2 [0, 1, 4, 5, 7, 8, 9, 16] [] true ([[2, 3, 6, 7]], [[2, 3, 6, 7], [0, 1, 2, 3, 4, 5, 6, 7]]) = some Fd := by kernel_rfl
theorem at65 : Try.prog.funcs[65]? = some Try.f65 := by kernel_rfl
def iQ : MC := .seq (.region [⟨some 6, .bin .lss (.var 5) (.var 4), none⟩]) (.seq (.cond (.var 6) .skip (.exit 0)) (.seq (.seq (.block 1 (.seq (.region [⟨none, .mv (.var 5), none⟩, ⟨some 3, .mv (.tmp 0), none⟩]) (.seq (.region [⟨none, .mv (.var 1), none⟩, ⟨none, .mv (.var 0), none⟩, ⟨none, .mv (.var 3), none⟩, ⟨none, .indexSl 1 (.tmp 1) (.tmp 2), none⟩, ⟨none, .load false 1 (.tmp 3), none⟩, ⟨some 7, .call (.tmp 0) [.tmp 4], none⟩]) (.cond (.var 7) (.seq (.region [⟨none, .mv (.var 3), none⟩, ⟨some 2, .mv (.tmp 0), none⟩]) .ret) .skip)))) (.kill [2, 3, 6, 7])) (.region [⟨none, .bin .add (.var 5) (.cst (.int .i64 1)), none⟩, ⟨some 5, .mv (.tmp 0), none⟩])))
def Fc : ci := ⟨2, 8, .seq (.region [⟨some 2, .mv (.cst (.int .i64 0)), none⟩]) (.seq (.seq (.region [⟨none, .mv (.var 0), none⟩, ⟨some 4, .lenSl (.tmp 0), none⟩, ⟨some 5, .mv (.cst (.int .i64 0)), none⟩]) (.seq (.block 0 (.loop [2, 3, 6, 7] iQ)) (.kill [0, 1, 2, 3, 4, 5, 6, 7]))) (.seq (.region [⟨some 2, .mv (.cst (.int .i64 (-1))), none⟩]) .ret)), [.tmp 2]⟩
def iA : List Nat := [2, 3, 6, 7]
abbrev kG (v0 v1 v4 v5 : AV) : List AV := [v0, v1, .undef, .undef, v4, v5, .undef, .undef]
theorem AB {v0 v1 d2 d3 v4 v5 d6 d7 : AV} : clear iA [v0, v1, d2, d3, v4, v5, d6, d7] = kG v0 v1 v4 v5 := rfl
theorem z9 {E : Env} {fuel : Nat} {A : ac} {o : Out} {k : List KC} {v0 v1 d2 d3 v4 v5 d6 d7 : AV} (h : bg (evC E fuel iQ) iA fuel (kG v0 v1 v4 v5) A = some o) :
  run E fuel (.code (.loop [2, 3, 6, 7] iQ) :: k) [v0, v1, d2, d3, v4, v5, d6, d7] A = after E fuel k o := aG iA _ _ (by rw [AB]; exact h)
theorem Ea : aE Try.prog Try.f66 2 [0, 1, 4, 5, 7, 8, 9, 16] [] true ([[2, 3, 6, 7]], [[2, 3, 6, 7], [0, 1, 2, 3, 4, 5, 6, 7]]) = some Fc := by kernel_rfl
theorem at66 : Try.prog.funcs[66]? = some Try.f66 := by kernel_rfl
def Fb : ci := ⟨2, 4, .seq (.region [⟨some 2, .alloc 3 (.agg [.int .i64 0, .int .i64 0, .int .i64 0]), none⟩]) (.seq (.seq (.region [⟨none, .mv (.var 0), none⟩, ⟨none, .mv (.var 1), none⟩, ⟨none, .call (.fn 64) [.tmp 0, .tmp 1], none⟩, ⟨none, .mv (.var 0), none⟩, ⟨none, .mv (.var 1), none⟩, ⟨none, .bin .sub (.tmp 4) (.cst (.int .i64 1)), none⟩, ⟨none, .call (.fn 64) [.tmp 3, .tmp 5], none⟩, ⟨some 3, .bin .lss (.tmp 2) (.tmp 6), none⟩]) (.cond (.var 3) (.seq (.region [⟨none, .mv (.var 1), none⟩, ⟨none, .bin .sub (.tmp 0) (.cst (.int .i64 1)), none⟩, ⟨none, .mv (.var 1), none⟩, ⟨none, .build [.int .i64 0, .int .i64 0, .int .i64 0] [(0, (1, .tmp 1)), (1, (1, .tmp 2)), (2, (1, .cst (.int .i64 1)))], none⟩, ⟨none, .store 3 (.var 2) (.tmp 3), none⟩]) .ret) .skip)) (.seq (.region [⟨none, .mv (.var 1), none⟩, ⟨none, .bin .sub (.tmp 0) (.cst (.int .i64 1)), none⟩, ⟨none, .mv (.var 1), none⟩, ⟨none, .build [.int .i64 0, .int .i64 0, .int .i64 0] [(0, (1, .tmp 1)), (1, (1, .tmp 2)), (2, (1, .cst (.int .i64 0)))], none⟩, ⟨none, .store 3 (.var 2) (.tmp 3), none⟩]) .ret)), [.cell 2 true 3]⟩
theorem D9 : aE Try.prog Try.f67 2 [0, 1, 4, 12] [] true ([], []) = some Fb := by kernel_rfl
theorem at67 : Try.prog.funcs[67]? = some Try.f67 := by kernel_rfl
def FT : ci := ⟨2, 3, .seq (.region [⟨some 2, .alloc 3 (.agg [.int .i64 0, .int .i64 0, .int .i64 0]), none⟩]) (.seq (.region [⟨none, .mv (.var 1), none⟩, ⟨none, .mv (.var 1), none⟩, ⟨none, .build [.int .i64 0, .int .i64 0, .int .i64 0] [(0, (1, .tmp 0)), (1, (1, .tmp 1)), (2, (1, .cst (.int .i64 1)))], none⟩, ⟨none, .store 3 (.var 2) (.tmp 2), none⟩]) .ret), [.cell 2 true 3]⟩
theorem D8 : aE Try.prog Try.f68 2 [0, 1, 4] [] true ([], []) = some FT := by kernel_rfl
theorem at68 : Try.prog.funcs[68]? = some Try.f68 := by kernel_rfl
open Cy (GC pO cy a9 ba cf aS aZ aA)
structure bD where
 ch : List (Int × Int)
 pick : Int
 place : Int
 travel : Int
 blades : Int
def chA (x : Int × Int) : AV := .agg [.int .i64 x.1, .int .i64 x.2]
def aD (T : bD) (chv : AV) : AV := .agg [chv, .int .i64 T.pick, .int .i64 T.place, .int .i64 T.travel, .int .i64 T.blades]
def l8 (x : Int × Int) : Prop := (0 <= x.1 /\ x.1 <= 100000) /\ 0 <= x.2 /\ x.2 <= 100000
instance (x : Int × Int) : Decidable (l8 x) := inferInstanceAs (Decidable (_ /\ _))
def ez (T : bD) : Prop := (∀ x ∈ T.ch, l8 x) /\ ((0 <= T.pick /\ T.pick <= 10000) /\ (0 <= T.place /\ T.place <= 10000) /\ (0 <= T.travel /\ T.travel <= 10000)) /\ 1 <= T.ch.length /\ T.ch.length <= 4 /\ (T.blades = 1 \/ T.blades = 2)
instance (T : bD) : Decidable (ez T) := inferInstanceAs (Decidable (_ /\ _))
def M38 : aT := fun args => match args with
 | [.int .i64 n, .int .i64 hi] => some (.bool (decide (0 <= n) && decide (n <= hi)))
 | _ => none
theorem qo : aq Try.prog GC 38 M38 := by
 refine aq.of_ev (E := au GC []) (av az) rfl H4 w9 1 ?_
 intro args r h
 unfold M38 at h
 split at h
 ·rename_i n hi
  injection h with h; subst h
  refine ⟨0, ?_⟩
  have b1 : af .geq (.int .i64 n) (.int .i64 0) = some (.bool (decide (0 <= n))) := by simp [af]
  have b2 : af .leq (.int .i64 n) (.int .i64 hi) = some (.bool (decide (n <= hi))) := by simp [af]
  obtain ⟨p, hp⟩ : ∃ p, p = decide (0 <= n) := ⟨_, rfl⟩
  obtain ⟨q, hq⟩ : ∃ q, q = decide (n <= hi) := ⟨_, rfl⟩
  rw [<- hp] at b1 ⊢
  rw [<- hq] at b2 ⊢
  rw [aN _ _ rfl]
  cases p <;> simp [uT, b1, b2, -af]
 ·cases h
def yj : AV := .func (.func 38) [] []
def uX : List (FuncId × aL) := [(38, aF 4 M38)]
@[simp] theorem Gm : aB uX 38 = some (aF 4 M38) := rfl
theorem rE : ∀ f M, aB uX f = some M -> an Try.prog GC f M := ak (an.of_pure qo 4) az
def M40 : aT := fun args => evP (au GC uX) 0 yc 1 args
theorem sU : aq Try.prog GC 40 M40 := aq.of_ev (E := au GC uX) (av rE) rfl H2 wY 1 fun _ _ h => ⟨0, h⟩
theorem DA (x : Int × Int) : (!decide (l8 x)) = (!(decide (0 <= x.1) && decide (x.1 <= 100000)) || !(decide (0 <= x.2) && decide (x.2 <= 100000))) := by
 unfold l8
 by_cases h1 : 0 <= x.1 <;> by_cases h2 : x.1 <= 100000 <;> by_cases h3 : 0 <= x.2 <;> by_cases h4 : x.2 <= 100000 <;> simp [h1, h2, h3, h4]
theorem ua (x : Int × Int) : M40 [chA x, .fp [yj]] = some (.bool (!decide (l8 x))) := by
 obtain ⟨a, b⟩ := x
 rw [DA]
 have m1 : M38 [.int .i64 a, .int .i64 100000] = some (.bool (decide (0 <= a) && decide (a <= 100000))) := rfl
 have m2 : M38 [.int .i64 b, .int .i64 100000] = some (.bool (decide (0 <= b) && decide (b <= 100000))) := rfl
 obtain ⟨p, hp⟩ : ∃ p, p = (decide (0 <= a) && decide (a <= 100000)) := ⟨_, rfl⟩
 obtain ⟨q, hq⟩ : ∃ q, q = (decide (0 <= b) && decide (b <= 100000)) := ⟨_, rfl⟩
 simp only
 rw [<- hp] at m1 ⊢
 rw [<- hq] at m2 ⊢
 unfold M40
 rw [aN _ _ rfl]
 cases p <;> simp [yc, chA, yj, m1, m2, frz]
def Ar : List (FuncId × aL) := [(40, aF 4 M40)]
@[simp] theorem F8 : aB Ar 40 = some (aF 4 M40) := rfl
theorem Bo : ∀ f M, aB Ar f = some M -> an Try.prog GC f M := ak (an.of_pure sU 4) az
def M65 : aT := fun args => evP (au GC Ar) 300 Fd 1 args
theorem Dl : aq Try.prog GC 65 M65 := aq.of_ev (E := au GC Ar) (av Bo) rfl at65 Eb 1 fun _ _ h => ⟨300, h⟩
def fg (x : Int × Int) : Bool := !decide (l8 x)
def dk : AV := .func (.func 40) [] [.fp [yj]]
theorem EM {xs : List (Int × Int)} {b : AV} (hb : SlA 2 (xs.map chA) b) (hl : xs.length <= 200) : M65 [b, dk] = some (.int .i64 (cy fg xs)) := by
 have hlen := hb.len
 rw [List.length_map] at hlen
 have round : ∀ (A : ac) (i : Nat) (hi : i < xs.length), run (au GC Ar) 300 [.code iR] (kH b dk (.int .i64 (xs.length : Int)) (.int .i64 (i : Int))) A =
   if fg xs[i] = false then some (.normal (kH b dk (.int .i64 (xs.length : Int)) (.int .i64 ((i + 1 : Nat) : Int))) A) else some (.ret [b, dk, .int .i64 (i : Int), .int .i64 (i : Int), .int .i64 (xs.length : Int), .int .i64 (i : Int), .bool true, .bool true] A) := fun A i hi => by
  have he : (xs.map chA)[i]? = some (chA xs[i]) := by simp [hi]
  have x1 := hb.index (A := A) he rfl (by decide) .i64
  have ld : ae true 2 A (.fp (cellsOf (chA xs[i]))) = some (chA xs[i]) := rfl
  obtain ⟨C, hC⟩ : ∃ C, C = cellsOf (chA xs[i]) := ⟨_, rfl⟩
  rw [<- hC] at x1 ld
  have m := ua xs[i]
  have b1 := bc i xs.length .i64
  rw [decide_eq_true hi] at b1
  have b3 := aK i (by omega)
  have fz : ∀ A, frz A 4 (chA xs[i]) = chA xs[i] := fun A => rfl
  have fz2 : ∀ A, frz A 4 (.fp [yj]) = .fp [yj] := fun A => rfl
  obtain ⟨i1, hi1⟩ : ∃ i1 : Nat, i1 = i + 1 := ⟨_, rfl⟩
  rw [<- hi1] at b3 ⊢
  obtain ⟨d, hd⟩ : ∃ d, d = fg xs[i] := ⟨_, rfl⟩
  rw [show (!decide (l8 xs[i])) = d from hd.symm] at m
  rw [<- hd]
  obtain ⟨c, hc⟩ : ∃ c, c = chA xs[i] := ⟨_, rfl⟩
  rw [<- hc] at m ld fz
  cases d with
  | false => simp [iR, dk, x1, ld, m, fz, fz2, b1, b3, -frz, -af, -ab, -aj, -ae]
  | true => simp [iR, dk, x1, ld, m, fz, fz2, b1, -frz, -af, -ab, -aj, -ae]
 unfold M65
 rw [aN _ _ rfl]
 rcases bz (E := au GC Ar) (fuel := 300) (a := iR) (mask := iB) (fun i => kH b dk (.int .i64 (xs.length : Int)) (.int .i64 (i : Int))) (fun _ => []) xs.length (fun i => ¬ ∀ hi : i < xs.length, fg xs[i] = false)
  (oF := fun i => .ret [b, dk, .int .i64 (i : Int), .int .i64 (i : Int), .int .i64 (xs.length : Int), .int .i64 (i : Int), .bool true, .bool true] []) (oE := .exit 0 ((kH b dk (.int .i64 (xs.length : Int)) (.int .i64 (xs.length : Int))).set 6 (.bool false)) [])
  (fun _ => AC) (fun _ _ _ h => by cases h) (fun _ _ h => by cases h)
  (fun i hi hp => by
   rw [round [] i hi]
   exact if_pos (Classical.not_not.1 hp hi))
  (fun i hi hp => by
   rw [round [] i hi]
   exact if_neg fun h => hp fun _ => h)
  (by simp [iR]) (show xs.length < 300 by omega) with ⟨i, hi, hp, hj, lp⟩ | ⟨hp, lp⟩
 ·have lp : bg (evC (au GC Ar) 300 iR) iB 300 (kH b dk (.int .i64 (xs.length : Int)) (.int .i64 0)) [] = _ := lp
  have e : cy fg xs = (i : Int) := a9 hi (by
   cases h' : fg xs[i] with
   | true => rfl
   | false => exact absurd (fun _ => h') hp) (fun j hj' => Classical.not_not.1 (hj j hj') (by omega))
  rw [e]
  simp [Fd, hlen, Aa lp, -af, -aj]
 ·have lp : bg (evC (au GC Ar) 300 iR) iB 300 (kH b dk (.int .i64 (xs.length : Int)) (.int .i64 0)) [] = _ := lp
  have e : cy fg xs = -1 := ba fun i hi => Classical.not_not.1 (hp i hi) hi
  rw [e]
  simp [Fd, hlen, Aa lp, -af, -aj]
def Fq : List (FuncId × aL) := [(65, aF 4 M65)]
@[simp] theorem Gq : aB Fq 65 = some (aF 4 M65) := rfl
theorem Bx : ∀ f M, aB Fq f = some M -> an Try.prog GC f M := ak (an.of_pure Dl 4) az
def M39 : aT := fun args => evP (au GC Fq) 0 C4 1 args
theorem qn : aq Try.prog GC 39 M39 := aq.of_ev (E := au GC Fq) (av Bx) rfl H3 wZ 1 fun _ _ h => ⟨0, h⟩
theorem ET {xs : List (Int × Int)} {b : AV} (hb : SlA 2 (xs.map chA) b) (hl : xs.length <= 200) : M39 [b, dk] = some (.bool (xs.any fg)) := by
 have h := EM hb hl
 have b1 := pO (cy fg xs)
 rw [cf] at b1
 have f1 : ∀ A n, frz A n b = b := fun A n => hb.frz n
 have f2 : ∀ A, frz A 4 dk = dk := fun A => rfl
 obtain ⟨z, hz⟩ : ∃ z, z = cy fg xs := ⟨_, rfl⟩
 rw [<- hz] at h b1
 unfold M39
 rw [aN _ _ rfl]
 simp [C4, h, b1, f1, f2, aZ, -af, -frz]
def wy : List (FuncId × aL) := [(38, aF 4 M38), (39, aF 4 M39)]
@[simp] theorem Ho : aB wy 38 = some (aF 4 M38) := rfl
@[simp] theorem Hn : aB wy 39 = some (aF 4 M39) := rfl
theorem rL : ∀ f M, aB wy f = some M -> an Try.prog GC f M := ak (an.of_pure qo 4) (ak (an.of_pure qn 4) az)
def M16 : aT := fun args => evP (au GC wy) 0 tA 1 args
theorem sY : aq Try.prog GC 16 M16 := aq.of_ev (E := au GC wy) (av rL) rfl Ii xo 1 fun _ _ h => ⟨0, h⟩
theorem Be (T : bD) : decide (ez T) = (!(T.ch.any fg) && ((decide (0 <= T.pick) && decide (T.pick <= 10000)) && ((decide (0 <= T.place) && decide (T.place <= 10000)) && (decide (0 <= T.travel) && decide (T.travel <= 10000)))) && (decide (1 <= T.ch.length) && (decide (T.ch.length <= 4) && (decide (T.blades = 1) || decide (T.blades = 2))))) := by
 have e : (!(T.ch.any fg)) = decide (∀ x ∈ T.ch, l8 x) := by
  rw [Bool.eq_iff_iff, decide_eq_true_eq, Bool.not_eq_true', List.any_eq_false]
  unfold fg
  simp
 rw [e]
 rw [Bool.eq_iff_iff, decide_eq_true_eq]
 unfold ez
 simp only [decide_eq_true_eq, Bool.and_eq_true, Bool.or_eq_true]
 constructor
 ·rintro ⟨h1, ⟨h2, h3, h4⟩, h5, h6, h7⟩
  exact ⟨⟨h1, h2, h3, h4⟩, h5, h6, h7⟩
 ·rintro ⟨⟨h1, h2, h3, h4⟩, h5, h6, h7⟩
  exact ⟨h1, ⟨h2, h3, h4⟩, h5, h6, h7⟩
theorem A7 {T : bD} {chv : AV} (hb : SlA 2 (T.ch.map chA) chv) (hl : T.ch.length <= 200) : M16 [aD T chv] = some (.bool (decide (ez T))) := by
 obtain ⟨ch, pk, pl, tr, bl⟩ := T
 simp only at hb hl
 rw [Be]
 simp only
 have hlen := hb.len
 rw [List.length_map] at hlen
 have m := ET hb hl
 have f1 : ∀ A n, frz A n chv = chv := fun A n => hb.frz n
 have m1 : M38 [.int .i64 pk, .int .i64 10000] = some (.bool (decide (0 <= pk) && decide (pk <= 10000))) := rfl
 have m2 : M38 [.int .i64 pl, .int .i64 10000] = some (.bool (decide (0 <= pl) && decide (pl <= 10000))) := rfl
 have m3 : M38 [.int .i64 tr, .int .i64 10000] = some (.bool (decide (0 <= tr) && decide (tr <= 10000))) := rfl
 have b1 : af .geq (.int .i64 (ch.length : Int)) (.int .i64 1) = some (.bool (decide (1 <= ch.length))) := by simp [af]; omega
 have b2 : af .leq (.int .i64 (ch.length : Int)) (.int .i64 4) = some (.bool (decide (ch.length <= 4))) := by simp [af]; omega
 have b3 : af .eql (.int .i64 bl) (.int .i64 1) = some (.bool (decide (bl = 1))) := by simp [af]
 have b4 : af .eql (.int .i64 bl) (.int .i64 2) = some (.bool (decide (bl = 2))) := by simp [af]
 have fw : ∀ A : ac, A[1]? = some (.row 1 false [yj]) -> frz A 4 (.func (.func 40) [] [.ptr 1 0 0]) = dk := fun A hA => by simp [frz, hA, dk, yj]
 have ld0 : ∀ A : ac, A[0]? = some (.row 5 false [.agg [chv, .int .i64 pk, .int .i64 pl, .int .i64 tr, .int .i64 bl]]) -> ae false 1 A (.ptr 0 0 0) = some chv /\ ae false 1 A (.ptr 0 0 1) = some (.int .i64 pk) /\ ae false 1 A (.ptr 0 0 2) = some (.int .i64 pl) /\ ae false 1 A (.ptr 0 0 3) = some (.int .i64 tr) /\ ae false 1 A (.ptr 0 0 4) = some (.int .i64 bl) := fun A hA => by
  refine ⟨?_, ?_, ?_, ?_, ?_⟩ <;> simp only [ae, hA] <;> rfl
 obtain ⟨l0, l1, l2, l3, l4⟩ := ld0 [.row 5 false [.agg [chv, .int .i64 pk, .int .i64 pl, .int .i64 tr, .int .i64 bl]], .row 1 false [yj]] rfl
 have fw' := fw [.row 5 false [.agg [chv, .int .i64 pk, .int .i64 pl, .int .i64 tr, .int .i64 bl]], .row 1 false [yj]] rfl
 rw [show aD ⟨ch, pk, pl, tr, bl⟩ chv = .agg [chv, .int .i64 pk, .int .i64 pl, .int .i64 tr, .int .i64 bl] from rfl]
 unfold yj at l0 l1 l2 l3 l4 fw'
 have l5 : ae false 1 [.row 5 false [.agg [chv, .int .i64 pk, .int .i64 pl, .int .i64 tr, .int .i64 bl]], .row 1 false [.func (.func 38) [] []]] (.ptr 1 0 0) = some (.func (.func 38) [] []) := rfl
 obtain ⟨d0, h0⟩ : ∃ d, d = ch.any fg := ⟨_, rfl⟩
 obtain ⟨d1, h1⟩ : ∃ d, d = (decide (0 <= pk) && decide (pk <= 10000)) := ⟨_, rfl⟩
 obtain ⟨d2, h2⟩ : ∃ d, d = (decide (0 <= pl) && decide (pl <= 10000)) := ⟨_, rfl⟩
 obtain ⟨d3, h3⟩ : ∃ d, d = (decide (0 <= tr) && decide (tr <= 10000)) := ⟨_, rfl⟩
 obtain ⟨d4, h4⟩ : ∃ d, d = decide (1 <= ch.length) := ⟨_, rfl⟩
 obtain ⟨d5, h5⟩ : ∃ d, d = decide (ch.length <= 4) := ⟨_, rfl⟩
 obtain ⟨d6, h6⟩ : ∃ d, d = decide (bl = 1) := ⟨_, rfl⟩
 obtain ⟨d7, h7⟩ : ∃ d, d = decide (bl = 2) := ⟨_, rfl⟩
 rw [<- h0] at m ⊢
 rw [<- h1] at m1 ⊢
 rw [<- h2] at m2 ⊢
 rw [<- h3] at m3 ⊢
 rw [<- h4] at b1 ⊢
 rw [<- h5] at b2 ⊢
 rw [<- h6] at b3 ⊢
 rw [<- h7] at b4 ⊢
 unfold M16
 rw [aN _ _ rfl]
 cases d1
 ·cases d0 <;> simp [tA, m, m1, f1, fw', l0, l1, l5, aS, aZ, -frz, -af, -aj, -ae]
 cases d2
 ·cases d0 <;> simp [tA, m, m1, m2, f1, fw', l0, l1, l2, l5, aS, aZ, -frz, -af, -aj, -ae]
 cases d3
 ·cases d0 <;> simp [tA, m, m1, m2, m3, f1, fw', l0, l1, l2, l3, l5, aS, aZ, -frz, -af, -aj, -ae]
 cases d0
 rotate_left
 ·simp [tA, m, m1, m2, m3, f1, fw', l0, l1, l2, l3, l5, aS, aZ, -frz, -af, -aj, -ae]
 cases d4
 ·simp [tA, m, m1, m2, m3, b1, hlen, f1, fw', l0, l1, l2, l3, l5, aS, aZ, -frz, -af, -aj, -ae]
 cases d5
 ·simp [tA, m, m1, m2, m3, b1, b2, hlen, f1, fw', l0, l1, l2, l3, l5, aS, aZ, -frz, -af, -aj, -ae]
 cases d6 <;> simp [tA, m, m1, m2, m3, b1, b2, b3, b4, hlen, f1, fw', l0, l1, l2, l3, l4, l5, aS, aZ, -frz, -af, -aj, -ae]
theorem ce (a b : Int) : af .eql (.int .i64 a) (.int .i64 b) = some (.bool (decide (a = b))) := by simp [af]
theorem i9 (a b : Int) : af .neq (.int .i64 a) (.int .i64 b) = some (.bool (decide (a ≠ b))) := by simp [af]
theorem dj {a b : Int} (h : -9223372036854775808 <= a + b /\ a + b <= 9223372036854775807) : af .add (.int .i64 a) (.int .i64 b) = some (.int .i64 (a + b)) := by
 simp only [af]; rw [if_pos trivial, dl h]
theorem ij {a b : Int} (h : -9223372036854775808 <= a - b /\ a - b <= 9223372036854775807) : af .sub (.int .i64 a) (.int .i64 b) = some (.int .i64 (a - b)) := by
 simp only [af]; rw [if_pos trivial, dl h]
theorem lw (a b : Int) : af .leq (.int .i64 a) (.int .i64 b) = some (.bool (decide (a <= b))) := by simp [af]
theorem ed (a b : Int) : af .lss (.int .i64 a) (.int .i64 b) = some (.bool (decide (a < b))) := by simp [af]
def M64 : aT := fun args => evP (au GC []) 300 Fe 1 args
theorem zM : aq Try.prog GC 64 M64 := aq.of_ev (E := au GC []) (av az) rfl at64 Ec 1 fun _ _ h => ⟨300, h⟩
def isI (v x : Int) : Bool := decide (v = x)
theorem x6 {xs : List Int} {b : AV} (hb : SlA 1 (ag xs) b) (hl : xs.length <= 200) (v : Int) : M64 [b, .int .i64 v] = some (.int .i64 (cy (isI v) xs)) := by
 have hlen := hb.len
 rw [aA] at hlen
 have round : ∀ (A : ac) (i : Nat) (hi : i < xs.length), run (au GC []) 300 [.code iS] (kI b (.int .i64 v) (.int .i64 (xs.length : Int)) (.int .i64 (i : Int))) A =
   if isI v xs[i] = false then some (.normal (kI b (.int .i64 v) (.int .i64 (xs.length : Int)) (.int .i64 ((i + 1 : Nat) : Int))) A) else some (.ret [b, .int .i64 v, .int .i64 (i : Int), .int .i64 (i : Int), .int .i64 (xs.length : Int), .int .i64 (i : Int), .bool true, .bool true] A) := fun A i hi => by
  have x1 := hb.int (A := A) _ _ (List.getElem?_eq_getElem hi) .i64
  have m := ce v xs[i]
  have b1 := bc i xs.length .i64
  rw [decide_eq_true hi] at b1
  have b3 := aK i (by omega)
  obtain ⟨i1, hi1⟩ : ∃ i1 : Nat, i1 = i + 1 := ⟨_, rfl⟩
  rw [<- hi1] at b3 ⊢
  obtain ⟨d, hd⟩ : ∃ d, d = isI v xs[i] := ⟨_, rfl⟩
  rw [show decide (v = xs[i]) = d from hd.symm] at m
  rw [<- hd]
  cases d with
  | false => simp [iS, x1, m, b1, b3, -af, -ab, -aj]
  | true => simp [iS, x1, m, b1, -af, -ab, -aj]
 unfold M64
 rw [aN _ _ rfl]
 rcases bz (E := au GC []) (fuel := 300) (a := iS) (mask := iC) (fun i => kI b (.int .i64 v) (.int .i64 (xs.length : Int)) (.int .i64 (i : Int))) (fun _ => []) xs.length (fun i => ¬ ∀ hi : i < xs.length, isI v xs[i] = false)
  (oF := fun i => .ret [b, .int .i64 v, .int .i64 (i : Int), .int .i64 (i : Int), .int .i64 (xs.length : Int), .int .i64 (i : Int), .bool true, .bool true] []) (oE := .exit 0 ((kI b (.int .i64 v) (.int .i64 (xs.length : Int)) (.int .i64 (xs.length : Int))).set 6 (.bool false)) [])
  (fun _ => AD) (fun _ _ _ h => by cases h) (fun _ _ h => by cases h)
  (fun i hi hp => by
   rw [round [] i hi]
   exact if_pos (Classical.not_not.1 hp hi))
  (fun i hi hp => by
   rw [round [] i hi]
   exact if_neg fun h => hp fun _ => h)
  (by simp [iS]) (show xs.length < 300 by omega) with ⟨i, hi, hp, hj, lp⟩ | ⟨hp, lp⟩
 ·have lp : bg (evC (au GC []) 300 iS) iC 300 (kI b (.int .i64 v) (.int .i64 (xs.length : Int)) (.int .i64 0)) [] = _ := lp
  have e : cy (isI v) xs = (i : Int) := a9 hi (by
   cases h' : isI v xs[i] with
   | true => rfl
   | false => exact absurd (fun _ => h') hp) (fun j hj' => Classical.not_not.1 (hj j hj') (by omega))
  rw [e]
  simp [Fe, hlen, Ab lp, -af, -aj]
 ·have lp : bg (evC (au GC []) 300 iS) iC 300 (kI b (.int .i64 v) (.int .i64 (xs.length : Int)) (.int .i64 0)) [] = _ := lp
  have e : cy (isI v) xs = -1 := ba fun i hi => Classical.not_not.1 (hp i hi) hi
  rw [e]
  simp [Fe, hlen, Ab lp, -af, -aj]
def Fs : List (FuncId × aL) := [(64, aF 4 M64)]
@[simp] theorem Gs : aB Fs 64 = some (aF 4 M64) := rfl
theorem Bz : ∀ f M, aB Fs f = some M -> an Try.prog GC f M := ak (an.of_pure zM 4) az
def M35 : aT := fun args => evP (au GC Fs) 0 C5 1 args
theorem vp : aq Try.prog GC 35 M35 := aq.of_ev (E := au GC Fs) (av Bz) rfl H6 xb 1 fun _ _ h => ⟨0, h⟩
theorem CQ (v : Int) (xs : List Int) : xs.any (isI v) = decide (v ∈ xs) := by
 rw [Bool.eq_iff_iff, List.any_eq_true, decide_eq_true_eq]
 unfold isI
 constructor
 ·rintro ⟨x, hx, h⟩
  rw [of_decide_eq_true h]; exact hx
 ·exact fun h => ⟨v, h, by simp⟩
theorem EU {xs : List Int} {b : AV} (hb : SlA 1 (ag xs) b) (hl : xs.length <= 200) (v : Int) : M35 [b, .int .i64 v] = some (.bool (decide (v ∈ xs))) := by
 have h := x6 hb hl v
 have b1 := pO (cy (isI v) xs)
 rw [cf, CQ] at b1
 have f1 : ∀ A n, frz A n b = b := fun A n => hb.frz n
 obtain ⟨z, hz⟩ : ∃ z, z = cy (isI v) xs := ⟨_, rfl⟩
 rw [<- hz] at h b1
 obtain ⟨d, hd⟩ : ∃ d, d = decide (v ∈ xs) := ⟨_, rfl⟩
 rw [<- hd] at b1 ⊢
 unfold M35
 rw [aN _ _ rfl]
 simp [C5, h, b1, f1, aS, aZ, -af, -frz]
def M43 : aT := fun args => evP (au GC []) 300 yb 1 args
theorem Dq : aq Try.prog GC 43 M43 := aq.of_ev (E := au GC []) (av az) rfl HY wV 1 fun _ _ h => ⟨300, h⟩
theorem t9 {xs ys : List Int} {a b : AV} (ha : SlA 1 (ag xs) a) (hb : SlA 1 (ag ys) b) (hl : xs.length <= 200) : M43 [a, b] = some (.bool (decide (xs = ys))) := by
 have hla := ha.len
 have hlb := hb.len
 rw [aA] at hla hlb
 have b0 : af .neq (.int .i64 (xs.length : Int)) (.int .i64 (ys.length : Int)) = some (.bool (decide (xs.length ≠ ys.length))) := by
  rw [i9]
  congr 2
  exact decide_eq_decide.2 (by omega)
 by_cases h0 : xs.length ≠ ys.length
 ·rw [decide_eq_true h0] at b0
  rw [decide_eq_false (fun h => h0 (by rw [h]))]
  unfold M43
  rw [aN _ _ rfl]
  simp [yb, hla, hlb, b0, -af, -aj]
 have h0 : xs.length = ys.length := Classical.not_not.1 h0
 rw [decide_eq_false (by omega)] at b0
 have round : ∀ (A : ac) (i : Nat) (hi : i < xs.length), run (au GC []) 300 [.code eK] (fh a b (.int .i64 (xs.length : Int)) (.int .i64 (i : Int))) A =
   if xs[i] = ys[i]'(by omega) then some (.normal (fh a b (.int .i64 (xs.length : Int)) (.int .i64 ((i + 1 : Nat) : Int))) A) else some (.ret [a, b, .bool false, .int .i64 (i : Int), .undef, .int .i64 (xs.length : Int), .int .i64 (i : Int), .bool true, .bool true] A) := fun A i hi => by
  have x1 := ha.int (A := A) _ _ (List.getElem?_eq_getElem hi) .i64
  have x2 := hb.int (A := A) _ _ (List.getElem?_eq_getElem (show i < ys.length by omega)) .i64
  have m := i9 xs[i] (ys[i]'(by omega))
  have b1 := bc i xs.length .i64
  rw [decide_eq_true hi] at b1
  have b3 := aK i (by omega)
  obtain ⟨i1, hi1⟩ : ∃ i1 : Nat, i1 = i + 1 := ⟨_, rfl⟩
  rw [<- hi1] at b3 ⊢
  by_cases hd : xs[i] = ys[i]'(by omega)
  ·rw [decide_eq_false (by simpa using hd)] at m
   rw [if_pos hd]
   simp [eK, x1, x2, m, b1, b3, -af, -ab, -aj]
  ·rw [decide_eq_true (by simpa using hd)] at m
   rw [if_neg hd]
   simp [eK, x1, x2, m, b1, -af, -ab, -aj]
 unfold M43
 rw [aN _ _ rfl]
 rcases bz (E := au GC []) (fuel := 300) (a := eK) (mask := dO) (fun i => fh a b (.int .i64 (xs.length : Int)) (.int .i64 (i : Int))) (fun _ => []) xs.length (fun i => ¬ ∀ (hi : i < xs.length), xs[i] = ys[i]'(by omega))
  (oF := fun i => .ret [a, b, .bool false, .int .i64 (i : Int), .undef, .int .i64 (xs.length : Int), .int .i64 (i : Int), .bool true, .bool true] []) (oE := .exit 0 ((fh a b (.int .i64 (xs.length : Int)) (.int .i64 (xs.length : Int))).set 7 (.bool false)) [])
  (fun _ => nL) (fun _ _ _ h => by cases h) (fun _ _ h => by cases h)
  (fun i hi hp => by
   rw [round [] i hi]
   exact if_pos (Classical.not_not.1 hp hi))
  (fun i hi hp => by
   rw [round [] i hi]
   exact if_neg fun h => hp fun _ => h)
  (by simp [eK]) (show xs.length < 300 by omega) with ⟨i, hi, hp, hj, lp⟩ | ⟨hp, lp⟩
 ·have lp : bg (evC (au GC []) 300 eK) dO 300 (fh a b (.int .i64 (xs.length : Int)) (.int .i64 0)) [] = _ := lp
  rw [decide_eq_false (fun h => hp (fun _ => by subst h; rfl))]
  simp [yb, hla, hlb, b0, qK lp, -af, -aj]
 ·have lp : bg (evC (au GC []) 300 eK) dO 300 (fh a b (.int .i64 (xs.length : Int)) (.int .i64 0)) [] = _ := lp
  rw [decide_eq_true (List.ext_getElem h0 fun i h1 h2 => Classical.not_not.1 (hp i h1) h1)]
  simp [yb, hla, hlb, b0, qK lp, -af, -aj]
def H36 : aL := fun _ => cu (au GC []) 0 B8
theorem sV : an Try.prog GC 36 H36 := (cI (av az) rfl H5 xa bC.nil).y
theorem E5 (h : bb) {A : ac} {id n : Nat} {gr : Bool} {es : List AV} (hA : A[id]? = some (.row 1 gr es)) : H36 h [.sl id 0 n] A = some (.csl id 0 n, A) := by
 unfold H36
 rw [bU _ _ rfl]
 have e : dV 1 A none (.int .i64 (n : Int)) (.int .i64 (n : Int)) (.sl id 0 n) = some (.csl id 0 n) := by
  simp [dV, bK, hA, cJ, loB, hiB]
 simp [B8, e, -dV, gT]
def M44 : aT := fun args => evP (au GC []) 0 yQ 1 args
theorem vn : aq Try.prog GC 44 M44 := aq.of_ev (E := au GC []) (av az) rfl HX wU 1 fun _ _ h => ⟨0, h⟩
def cF (T : bD) : Int := if T.blades = 2 then T.pick + T.place else T.pick + T.travel + T.place
theorem EQ {T : bD} (chv : AV) (h : ez T) : M44 [aD T chv] = some (.int .i64 (cF T)) := by
 obtain ⟨_, ⟨h1, h2, h3⟩, _⟩ := h
 obtain ⟨ch, pk, pl, tr, bl⟩ := T
 simp only at h1 h2 h3
 have b0 := ce bl 2
 have b1 := dj (a := pk) (b := pl) (by omega)
 have b2 := dj (a := pk) (b := tr) (by omega)
 have b3 := dj (a := pk + tr) (b := pl) (by omega)
 rw [show aD ⟨ch, pk, pl, tr, bl⟩ chv = .agg [chv, .int .i64 pk, .int .i64 pl, .int .i64 tr, .int .i64 bl] from rfl]
 have l : ∀ A : ac, A[0]? = some (.row 5 false [.agg [chv, .int .i64 pk, .int .i64 pl, .int .i64 tr, .int .i64 bl]]) -> ae false 1 A (.ptr 0 0 1) = some (.int .i64 pk) /\ ae false 1 A (.ptr 0 0 2) = some (.int .i64 pl) /\ ae false 1 A (.ptr 0 0 3) = some (.int .i64 tr) /\ ae false 1 A (.ptr 0 0 4) = some (.int .i64 bl) := fun A hA => by
  refine ⟨?_, ?_, ?_, ?_⟩ <;> simp only [ae, hA] <;> rfl
 obtain ⟨l1, l2, l3, l4⟩ := l [.row 5 false [.agg [chv, .int .i64 pk, .int .i64 pl, .int .i64 tr, .int .i64 bl]]] rfl
 obtain ⟨s1, hs1⟩ : ∃ s, s = pk + pl := ⟨_, rfl⟩
 obtain ⟨s2, hs2⟩ : ∃ s, s = pk + tr := ⟨_, rfl⟩
 obtain ⟨s3, hs3⟩ : ∃ s, s = s2 + pl := ⟨_, rfl⟩
 rw [<- hs1] at b1
 rw [<- hs2] at b2 b3
 rw [<- hs3] at b3
 have e : cF ⟨ch, pk, pl, tr, bl⟩ = if bl = 2 then s1 else s3 := by
  unfold cF; simp only; rw [hs3, hs2, hs1]
 rw [e]
 unfold M44
 rw [aN _ _ rfl]
 by_cases hb : bl = 2
 ·rw [decide_eq_true hb] at b0
  rw [if_pos hb]
  simp [yQ, b0, b1, l1, l2, l4, -af, -ae]
 ·rw [decide_eq_false hb] at b0
  rw [if_neg hb]
  simp [yQ, b0, b2, b3, l1, l2, l3, l4, -af, -ae]
def ext (n : Nat) (one : Bool) : Nat -> List Int -> List (List Int)
 | 0, _ => []
 | k + 1, b => if b.length = n + 1 then [b] else (List.range' 1 n).flatMap fun (i : Nat) => if !decide ((i : Int) ∈ b) && (one || decide (i = b.length)) then ext n one k (b ++ [(i : Int)]) else []
def ax (T : bD) : List (List Int) := if ez T then ext T.ch.length (decide (T.blades = 1)) (T.ch.length + 1) [0] else []
theorem pT (n : Nat) (one : Bool) (hn : n <= 4) : ∀ (k : Nat) (b : List Int), (ext n one (k + 1) b).length <= 4 ^ k \/ b.length + k < n + 1
 | 0, b => by
  unfold ext
  split
  ·left; simp
  ·by_cases h : b.length + 0 < n + 1
   ·exact .inr h
   ·left
    rw [List.flatMap_eq_nil_iff.2 fun i _ => by split <;> rfl]
    simp
 | k + 1, b => by
  by_cases h : b.length + (k + 1) < n + 1
  ·exact .inr h
  left
  rw [ext]
  split
  ·have : 1 <= 4 ^ (k + 1) := Nat.one_le_pow _ _ (by omega)
   simpa using this
  ·have key : ∀ l : List Nat, (l.flatMap fun (i : Nat) => if !decide ((i : Int) ∈ b) && (one || decide (i = b.length)) then ext n one (k + 1) (b ++ [(i : Int)]) else []).length <= l.length * 4 ^ k := fun l => by
    induction l with
    | nil => simp
    | cons i l ih =>
     rw [List.flatMap_cons, List.length_append, List.length_cons, Nat.add_mul, Nat.one_mul]
     have : (if !decide ((i : Int) ∈ b) && (one || decide (i = b.length)) then ext n one (k + 1) (b ++ [(i : Int)]) else []).length <= 4 ^ k := by
      split
      ·rcases pT n one hn k (b ++ [(i : Int)]) with h1 | h1
       ·exact h1
       ·simp at h1; omega
      ·simp
     omega
   refine Nat.le_trans (key _) ?_
   rw [List.length_range', Nat.pow_succ, Nat.mul_comm]
   exact Nat.mul_le_mul_left _ hn
def gS : Ent -> Prop
 | .row _ _ (e :: _) => (∀ a b c, e ≠ .sl a b c) /\ e ≠ .nilS
 | _ => False
def f9 (A B : ac) : Prop := A.length <= B.length /\ ∀ (j : Nat) (e : Ent), A[j]? = some e -> gS e -> B[j]? = some e
theorem f9.refl (A : ac) : f9 A A := ⟨Nat.le_refl _, fun _ _ h _ => h⟩
theorem f9.trans {A B C : ac} (h : f9 A B) (k : f9 B C) : f9 A C := ⟨Nat.le_trans h.1 k.1, fun j e h1 h2 => k.2 j e (h.2 j e h1 h2) h2⟩
theorem f9.app (A : ac) (X : ac) : f9 A (A ++ X) := ⟨by simp, fun j e h _ => by
 have := (List.getElem?_eq_some_iff.1 h).1
 rw [List.getElem?_append_left this]; exact h⟩
theorem fK {l : List Int} (h : l ≠ []) (s : Nat) (g : Bool) : gS (.row s g (ag l)) := by
 cases l with
 | nil => exact absurd rfl h
 | cons x r => simp [gS, ag]
theorem gU (s : Nat) (g : Bool) (a b c : Nat) (r : List AV) : ¬ gS (.row s g (.sl a b c :: r)) := fun h => h.1 a b c rfl
def pE (x : Nat × List Int) : AV := .sl x.1 0 x.2.length
def CW (A : ac) (op : Nat) (v : AV) (pl : List (Nat × List Int)) : Prop :=
 (∀ x ∈ pl, x.2 ≠ [] /\ A[x.1]? = some (.row 1 false (ag x.2))) /\ ((v = .nilS /\ pl = []) \/ ∃ id gr, v = .sl id 0 pl.length /\ id ≠ op /\ pl ≠ [] /\ A[id]? = some (.row 1 gr (pl.map pE)))
def jw (A : ac) (op : Nat) (ll : List (List Int)) : Prop := ∃ v pl, pl.map (·.2) = ll /\ A[op]? = some (.row 1 false [v]) /\ CW A op v pl
theorem jw.app {A : ac} {op : Nat} {ll : List (List Int)} (h : jw A op ll) (X : ac) : jw (A ++ X) op ll := by
 obtain ⟨v, pl, h1, h2, h3, h4⟩ := h
 have st := (f9.app A X).2
 have hk : ∀ (j : Nat) (e : Ent), A[j]? = some e -> (A ++ X)[j]? = some e := fun j e h => by
  rw [List.getElem?_append_left (List.getElem?_eq_some_iff.1 h).1]; exact h
 refine ⟨v, pl, h1, hk _ _ h2, fun x hx => ⟨(h3 x hx).1, hk _ _ (h3 x hx).2⟩, ?_⟩
 rcases h4 with h4 | ⟨id, gr, h4, h5, h6, h7⟩
 ·exact .inl h4
 ·exact .inr ⟨id, gr, h4, h5, h6, hk _ _ h7⟩
theorem iw {A : ac} {op : Nat} {v : AV} (h : A[op]? = some (.row 1 false [v])) (hv : v = .nilS \/ ∃ a b c, v = .sl a b c) : ae false 1 A (.ptr op 0 0) = some v := by
 rcases hv with rfl | ⟨a, b, c, rfl⟩ <;> simp [h]
theorem CW.form {A : ac} {op : Nat} {v : AV} {pl : List (Nat × List Int)} (h : CW A op v pl) : v = .nilS \/ ∃ a b c, v = .sl a b c := by
 rcases h.2 with h | ⟨id, gr, h, _⟩
 ·exact .inl h.1
 ·exact .inr ⟨_, _, _, h⟩
theorem jw.add {A : ac} {op : Nat} {ll : List (List Int)} (h : jw A op ll) {l : List Int} (hl : l ≠ []) (hb : ll.length <= 100000) {r y : Nat} (hr : A[r]? = some (.row 1 false (ag l))) (hy : A[y]? = some (.row 1 false [.sl r 0 l.length])) (hyo : y ≠ op) :
  ∃ v id n A3, A[op]? = some (.row 1 false [v]) /\ (v = .nilS \/ ∃ a b c, v = .sl a b c) /\ aH 1 24 A v (.sl y 0 1) = some (.sl id 0 n, A3) /\ A3[op]? = some (.row 1 false [v]) /\
   jw (A3.set op (.row 1 false [.sl id 0 n])) op (ll ++ [l]) /\ f9 A (A3.set op (.row 1 false [.sl id 0 n])) := by
 obtain ⟨v, pl, h1, h2, h3⟩ := h
 have hf := h3.form
 obtain ⟨h3, h4⟩ := h3
 have hsrc : aU 1 A (.sl y 0 1) = some [.sl r 0 l.length] := by simp [aU, hy]
 have hop : op < A.length := (List.getElem?_eq_some_iff.1 h2).1
 have hnp : ¬ gS (.row 1 false [v]) := by
  rcases hf with rfl | ⟨a, b, c, rfl⟩
  ·exact fun h => h.2 rfl
  ·exact gU _ _ _ _ _ _
 have hne : ∀ j (m : List Int), m ≠ [] -> A[j]? = some (.row 1 false (ag m)) -> j ≠ op := fun j m hm hj e => by
  subst e
  rw [h2] at hj
  injection hj with hj
  exact hnp (hj ▸ fK hm 1 false)
 have hll : pl.length = ll.length := by rw [<- h1]; simp
 rcases h4 with ⟨rfl, rfl⟩ | ⟨id, gr, rfl, hid, hpl, hrow⟩
 ·have ho : (A ++ [Ent.row 1 false [AV.sl r 0 l.length]])[op]? = some (.row 1 false [.nilS]) := by rw [List.getElem?_append_left hop]; exact h2
  refine ⟨.nilS, A.length, 1, A ++ [.row 1 false [.sl r 0 l.length]], h2, .inl rfl, ?_, ho, ?_, ?_⟩
  ·unfold aH; rw [hsrc]; simp
  ·have hset : ∀ j, j ≠ op -> ((A ++ [Ent.row 1 false [AV.sl r 0 l.length]]).set op (.row 1 false [.sl A.length 0 1]))[j]? = (A ++ [Ent.row 1 false [AV.sl r 0 l.length]])[j]? := fun j hj => List.getElem?_set_ne (fun e => hj e.symm)
   refine ⟨.sl A.length 0 1, [(r, l)], by rw [<- h1]; rfl, by rw [List.getElem?_set_self (by simp; omega)], fun x hx => ?_, .inr ⟨A.length, false, rfl, by omega, by simp, ?_⟩⟩
   ·rw [List.mem_singleton] at hx
    subst hx
    refine ⟨hl, ?_⟩
    rw [hset _ (hne _ _ hl hr), List.getElem?_append_left (List.getElem?_eq_some_iff.1 hr).1]
    exact hr
   ·rw [hset _ (by omega)]
    simp [pE]
  ·refine ⟨by simp, fun j e hj he => ?_⟩
   have : j ≠ op := fun e' => by
    subst e'; rw [h2] at hj; injection hj with hj; exact hnp (hj ▸ he)
   rw [List.getElem?_set_ne (fun e' => this e'.symm), List.getElem?_append_left (List.getElem?_eq_some_iff.1 hj).1]
   exact hj
 ·have hidl : id < A.length := (List.getElem?_eq_some_iff.1 hrow).1
  have hlen : 0 < pl.length := List.length_pos_iff.2 hpl
  have hnp2 : ¬ gS (.row 1 gr (pl.map pE)) := by
   cases pl with
   | nil => exact absurd rfl hpl
   | cons x r => exact gU _ _ _ _ _ _
  have hnid : ∀ j (m : List Int), m ≠ [] -> A[j]? = some (.row 1 false (ag m)) -> j ≠ id := fun j m hm hj e => by
   subst e
   rw [hrow] at hj
   injection hj with hj
   exact hnp2 (hj ▸ fK hm 1 false)
  refine ⟨.sl id 0 pl.length, id, pl.length + 1, A.set id (.row 1 true (pl.map pE ++ [.sl r 0 l.length])), h2, .inr ⟨_, _, _, rfl⟩, ?_, ?_, ?_, ?_⟩
  ·have hz : pl.length ≠ 0 := by omega
   have hb2 : (pl.length + 1) * 24 <= 140737488355328 := by omega
   unfold aH; rw [hsrc]; simp [hrow, hz, hb2]
  ·rw [List.getElem?_set_ne hid]; exact h2
  ·have hset : ∀ j, j ≠ op -> j ≠ id -> ((A.set id (Ent.row 1 true (pl.map pE ++ [AV.sl r 0 l.length]))).set op (.row 1 false [.sl id 0 (pl.length + 1)]))[j]? = A[j]? := fun j hj hj2 => by
    rw [List.getElem?_set_ne (fun e => hj e.symm), List.getElem?_set_ne (fun e => hj2 e.symm)]
   refine ⟨.sl id 0 (pl.length + 1), pl ++ [(r, l)], by rw [<- h1]; simp, by rw [List.getElem?_set_self (by simpa using hop)], fun x hx => ?_, .inr ⟨id, true, by simp, hid, by simp, ?_⟩⟩
   ·rcases List.mem_append.1 hx with hx | hx
    ·have := h3 x hx
     exact ⟨this.1, by rw [hset _ (hne _ _ this.1 this.2) (hnid _ _ this.1 this.2)]; exact this.2⟩
    ·rw [List.mem_singleton] at hx
     subst hx
     exact ⟨hl, by rw [hset _ (hne _ _ hl hr) (hnid _ _ hl hr)]; exact hr⟩
   ·rw [List.getElem?_set_ne (fun e => hid e.symm), List.getElem?_set_self hidl, List.map_append]
    rfl
  ·refine ⟨by simp, fun j e hj he => ?_⟩
   have n1 : j ≠ op := fun e' => by
    subst e'; rw [h2] at hj; injection hj with hj; exact hnp (hj ▸ he)
   have n2 : j ≠ id := fun e' => by
    subst e'; rw [hrow] at hj; injection hj with hj; exact hnp2 (hj ▸ he)
   rw [List.getElem?_set_ne (fun e => n1 e.symm), List.getElem?_set_ne (fun e => n2 e.symm)]
   exact hj
def kT (np op cp ep : Nat) : AV := .func (.func 34) [] [.ptr np 0 0, .ptr op 0 0, .ptr cp 0 0, .ptr ep 0 0]
structure X34 (A : ac) (np op cp ep n : Nat) (T : bD) (chv : AV) : Prop where
 hn : A[np]? = some (.row 1 false [.int .i64 (n : Int)])
 hc : A[cp]? = some (.row 5 false [aD T chv])
 he : A[ep]? = some (.row 1 false [kT np op cp ep])
theorem X34.step {A B : ac} {np op cp ep n : Nat} {T : bD} {chv : AV} (h : X34 A np op cp ep n T chv) (s : f9 A B) : X34 B np op cp ep n T chv :=
 ⟨s.2 _ _ h.hn (by simp [gS]), s.2 _ _ h.hc (by simp [gS, aD]), s.2 _ _ h.he (by simp [gS, kT])⟩
def sj : List (FuncId × aL) := [(35, aF 4 M35), (36, H36)]
def H34 : Nat -> aL
 | 0 => fun h => cu (eS GC sj h) 40 yd
 | k + 1 => fun h => cu (eS GC ((34, H34 k) :: sj) h) 40 yd
theorem s8 : ∀ f M, aB sj f = some M -> an Try.prog GC f M := ak (an.of_pure vp 4) (ak sV az)
theorem mL : ∀ k, an Try.prog GC 34 (H34 k)
 | 0 => dF s8 FE tW
 | k + 1 => dF (ak (mL k) s8) FE tW
theorem iK {A : ac} {id : Nat} {g : Bool} {b : List Int} (h : A[id]? = some (.row 1 g (ag b))) (n : Nat) : frz A (n + 1) (.sl id 0 b.length) = .fs 1 (ag b) := by
 have e : ((ag b).drop 0).take b.length = ag b := by
  rw [List.drop_zero, <- aA b, List.take_length]
 have hm : ∀ l : List Int, (ag l).map (frz A n) = ag l := fun l => by
  unfold ag
  rw [List.map_map]
  exact List.map_congr_left fun x _ => aS A n .i64 x
 simp only [frz, h]
 rw [e, hm]
theorem z5 (fs : List (FuncId × aL)) (h : bb) {A : ac} {np op cp ep n id : Nat} {T : bD} {chv : AV} (hX : X34 A np op cp ep n T chv) {ll : List (List Int)} (ho : jw A op ll) {b : List Int} (hb : A[id]? = some (.row 1 false (ag b))) (hlen : b.length = n + 1) (hn4 : n <= 4) (hll : ll.length <= 100000) :
  ∃ B, cu (eS GC fs h) 40 yd [.sl id 0 b.length, .ptr np 0 0, .ptr op 0 0, .ptr cp 0 0, .ptr ep 0 0] A = some (.tup [], B) /\ jw B op (ll ++ [b]) /\ f9 A B := by
 have hbne : b ≠ [] := fun e => by rw [e] at hlen; simp at hlen
 have l0 : ae false 1 A (.ptr np 0 0) = some (.int .i64 (n : Int)) := by simp [hX.hn]
 have b1 := aK n (by omega)
 have b2 : af .eql (.int .i64 (b.length : Int)) (.int .i64 ((n + 1 : Nat) : Int)) = some (.bool true) := by rw [ce, decide_eq_true (by omega)]
 have e1 : bT 1 8 (.int .i64 0) A (.int .i64 ((n + 1 : Nat) : Int)) (.int .i64 ((n + 1 : Nat) : Int)) = some (.sl A.length 0 b.length, A ++ [.row 1 false (List.replicate b.length (.int .i64 0))]) := by
  rw [hlen]
  simp only [bT]
  rw [if_pos ⟨by omega, by omega, by omega, by omega, rfl, rfl, by omega⟩]
  simp
 have e2 : ly 1 (A ++ [.row 1 false (List.replicate b.length (.int .i64 0))]) (.sl A.length 0 b.length) (.sl id 0 b.length) = some (.int .i64 (b.length : Int), A ++ [.row 1 false (ag b)]) := by
  have hs : aU 1 (A ++ [Ent.row 1 false (List.replicate b.length (AV.int .i64 0))]) (.sl id 0 b.length) = some (ag b) := by
   rw [mK (gr := false) (es := ag b) (by rw [List.getElem?_append_left (List.getElem?_eq_some_iff.1 hb).1]; exact hb)]
   rw [List.drop_zero, <- aA b, List.take_length]
  simp only [ly, hs]
  rw [List.getElem?_concat_length]
  simp only
  rw [if_pos ⟨trivial, by omega, trivial⟩, aA, Nat.min_self]
  congr 2
  rw [List.set_append_right _ _ (Nat.le_refl _), Nat.sub_self]
  simp only [List.set_cons_zero, List.take_zero, List.nil_append, Nat.zero_add]
  rw [<- aA b, List.take_length, List.drop_of_length_le (by simp), List.append_nil]
 obtain ⟨A1, hA1⟩ : ∃ X, X = A ++ [Ent.row 1 false (ag b)] := ⟨_, rfl⟩
 have hl1 : A1.length = A.length + 1 := by rw [hA1]; simp
 have e3 : aC 1 [.sl A.length 0 b.length] A1 = some (.sl (A.length + 1) 0 1, A1 ++ [.row 1 false [.sl A.length 0 b.length]]) := by
  simp [aC, hl1]
 have hop : op < A.length := by obtain ⟨v, pl, _, h2, _⟩ := ho; exact (List.getElem?_eq_some_iff.1 h2).1
 have ho2 : jw (A1 ++ [.row 1 false [.sl A.length 0 b.length]]) op ll := by rw [hA1]; exact (ho.app _).app _
 obtain ⟨v, id2, n2, A3, k1, k2, k3, k4, k5, k6⟩ := ho2.add hbne hll (r := A.length) (y := A.length + 1) (by rw [hA1]; simp) (by rw [hA1]; simp) (by omega)
 have l1 : ae false 1 A1 (.ptr op 0 0) = some v := iw (by rw [<- k1, List.getElem?_append_left (by omega)]) k2
 have e5 : aw 1 A3 (.ptr op 0 0) (.sl id2 0 n2) = some (A3.set op (.row 1 false [.sl id2 0 n2])) := by
  rcases k2 with rfl | ⟨_, _, _, rfl⟩ <;> simp [k4]
 obtain ⟨A2, hA2⟩ : ∃ X, X = A1 ++ [Ent.row 1 false [.sl A.length 0 b.length]] := ⟨_, rfl⟩
 obtain ⟨B, hB⟩ : ∃ X, X = A3.set op (.row 1 false [.sl id2 0 n2]) := ⟨_, rfl⟩
 obtain ⟨A0, hA0⟩ : ∃ X, X = A ++ [Ent.row 1 false (List.replicate b.length (AV.int .i64 0))] := ⟨_, rfl⟩
 have hst : f9 A A2 := by rw [hA2, hA1, List.append_assoc]; exact f9.app _ _
 rw [<- hA2] at e3 k3 k6
 rw [<- hB] at e5 k5 k6
 rw [<- hA0] at e1 e2
 rw [<- hA1] at e2
 refine ⟨B, ?_, k5, hst.trans k6⟩
 rw [bU _ _ rfl]
 obtain ⟨n1, hn1⟩ : ∃ x, x = n + 1 := ⟨_, rfl⟩
 rw [<- hn1] at b1 b2 e1
 obtain ⟨bl, hbl⟩ : ∃ x, x = b.length := ⟨_, rfl⟩
 rw [<- hbl] at b2 e1 e2 e3 ⊢
 obtain ⟨r1, hr1⟩ : ∃ x, x = A.length := ⟨_, rfl⟩
 rw [<- hr1] at e1 e2 e3 k3
 obtain ⟨r2, hr2⟩ : ∃ x, x = r1 + 1 := ⟨_, rfl⟩
 rw [<- hr2] at e3 k3
 simp [yd, l0, l1, b1, b2, e1, e2, e3, k3, e5, -af, -ae, -aw, -bT, -aC]
theorem sH {A : ac} {id : Nat} {g : Bool} {b : List Int} (h : A[id]? = some (.row 1 g (ag b))) (hb : b.length <= 1000) (x : Int) : dr 1 8 A (.csl id 0 b.length) (.fs 1 [.int .i64 x]) = some (.sl A.length 0 (b.length + 1), A ++ [.row 1 false (ag (b ++ [x]))]) := by
 have e : ((ag b).drop 0).take b.length = ag b := by
  rw [List.drop_zero, <- aA b, List.take_length]
 have hb2 : (b.length + 1) * 8 <= 140737488355328 := by omega
 simp only [dr, eX, h, e]
 rw [if_pos ⟨trivial, by omega, by omega, by simp, by simpa using hb2⟩]
 simp [ag]
theorem BN {h : bb} {fs : List (FuncId × aL)} {H : aL} (hH : aB fs 34 = some H) (h35 : aB fs 35 = some (aF 4 M35)) (h36 : aB fs 36 = some H36) {A : ac} {np op cp ep n id : Nat} {T : bD} {chv : AV} (hX : X34 A np op cp ep n T chv) {b : List Int} (hb : A[id]? = some (.row 1 false (ag b))) (hbl : b.length <= 100) {i : Nat} (hi : i <= n) (hn4 : n <= 4) {B : ac}
  (hr : (!decide ((i : Int) ∈ b) && (decide (T.blades = 1) || decide (i = b.length))) = true -> H h [.sl A.length 0 (b.length + 1), .ptr np 0 0, .ptr op 0 0, .ptr cp 0 0, .ptr ep 0 0] (A ++ [.row 1 false (ag (b ++ [(i : Int)]))]) = some (.tup [], B))
  (hr0 : (!decide ((i : Int) ∈ b) && (decide (T.blades = 1) || decide (i = b.length))) = false -> B = A) (hkeep : B[ep]? = A[ep]?) :
  run (eS GC fs h) 40 [.code gY] (mH (.sl id 0 b.length) (.ptr np 0 0) (.ptr cp 0 0) (.ptr ep 0 0) (.int .i64 (i : Int))) A = some (.normal (mH (.sl id 0 b.length) (.ptr np 0 0) (.ptr cp 0 0) (.ptr ep 0 0) (.int .i64 ((i + 1 : Nat) : Int))) B) := by
 obtain ⟨ch, pk, pl, tr, bd⟩ := T
 have l0 : ae false 1 A (.ptr np 0 0) = some (.int .i64 (n : Int)) := by simp [hX.hn]
 have hc : A[cp]? = some (.row 5 false [.agg [chv, .int .i64 pk, .int .i64 pl, .int .i64 tr, .int .i64 bd]]) := hX.hc
 have l1 : ae false 1 A (.ptr cp 0 4) = some (.int .i64 bd) := by simp [hc]
 have l2 : ae false 1 A (.ptr ep 0 0) = some (kT np op cp ep) := by simp [hX.he, kT]
 have b0 : af .leq (.int .i64 (i : Int)) (.int .i64 (n : Int)) = some (.bool true) := by rw [lw, decide_eq_true (by omega)]
 have b3 := aK i (by omega)
 have f1 := iK hb 3
 have f2 : ∀ A, frz A 4 (.int .i64 (i : Int)) = .int .i64 (i : Int) := fun A => aS A 4 .i64 i
 have m := EU (xs := b) (b := .fs 1 (ag b)) (.inr rfl) (by omega) (i : Int)
 have b1 : af .eql (.int .i64 bd) (.int .i64 1) = some (.bool (decide (bd = 1))) := ce _ _
 have b2 : af .eql (.int .i64 (i : Int)) (.int .i64 (b.length : Int)) = some (.bool (decide (i = b.length))) := by
  rw [ce]; congr 2; exact decide_eq_decide.2 (by omega)
 have c1 := E5 h (n := b.length) hb
 have c2 := sH hb (by omega) (i : Int)
 have ne1 : ¬ ep = A.length := by have := (List.getElem?_eq_some_iff.1 hX.he).1; omega
 have ne2 : ¬ ep = id := fun e => by
  have h1 := hX.he
  rw [e, hb] at h1
  injection h1 with h1
  injection h1 with _ _ h1
  cases b with
  | nil => cases h1
  | cons x r => injection h1 with h1; cases h1
 simp only at hr hr0
 obtain ⟨i1, hi1⟩ : ∃ i1 : Nat, i1 = i + 1 := ⟨_, rfl⟩
 rw [<- hi1] at b3 ⊢
 obtain ⟨d1, h1⟩ : ∃ d, d = decide ((i : Int) ∈ b) := ⟨_, rfl⟩
 rw [<- h1] at m hr hr0
 obtain ⟨d2, h2⟩ : ∃ d, d = decide (bd = 1) := ⟨_, rfl⟩
 rw [<- h2] at b1 hr hr0
 obtain ⟨d3, h3⟩ : ∃ d, d = decide (i = b.length) := ⟨_, rfl⟩
 rw [<- h3] at b2 hr hr0
 obtain ⟨A1, hA1⟩ : ∃ X, X = A ++ [Ent.row 1 false (ag (b ++ [(i : Int)]))] := ⟨_, rfl⟩
 have k1 : A1[ep]? = A[ep]? := by rw [hA1, List.getElem?_append_left (List.getElem?_eq_some_iff.1 hX.he).1]
 rw [<- hA1] at c2 hr
 obtain ⟨r, hrr⟩ : ∃ x, x = A.length := ⟨_, rfl⟩
 rw [<- hrr] at c2 hr
 obtain ⟨bl, hbl⟩ : ∃ x, x = b.length := ⟨_, rfl⟩
 rw [<- hbl] at b2 c1 c2 f1 hr ⊢
 obtain ⟨bl1, hbl1⟩ : ∃ x, x = bl + 1 := ⟨_, rfl⟩
 rw [<- hbl1] at c2 hr
 obtain ⟨F, hF⟩ : ∃ x, x = AV.fs 1 (ag b) := ⟨_, rfl⟩
 rw [<- hF] at m f1
 cases d1 with
 | true =>
  have := hr0 rfl; subst this
  cases d2 <;> cases d3 <;> simp [gY, l0, b0, b3, f1, f2, h35, m, -frz, -af, -ae]
 | false =>
  cases d2 with
  | true =>
   have hr := hr rfl
   simp [gY, l0, l1, l2, b0, b1, b3, f1, f2, h35, h36, hH, m, hc, c1, c2, hr, kT, ne1, ne2, -frz, -af, -ae]
  | false =>
   cases d3 with
   | true =>
    have hr := hr rfl
    simp [gY, l0, l1, l2, b0, b1, b2, b3, f1, f2, h35, h36, hH, m, hc, c1, c2, hr, kT, ne1, ne2, -frz, -af, -ae]
   | false =>
    have := hr0 rfl; subst this
    simp [gY, l0, l1, b0, b1, b2, b3, f1, f2, h35, m, hc, -frz, -af, -ae]
def fE (n : Nat) (one : Bool) (k : Nat) (b : List Int) (i : Nat) : List (List Int) := if !decide ((i : Int) ∈ b) && (one || decide (i = b.length)) then ext n one k (b ++ [(i : Int)]) else []
theorem I8 (h : bb) {np op cp ep n : Nat} {T : bD} {chv : AV} (hn4 : n <= 4) (d : Nat) : ∀ (k : Nat) {A : ac} {ll : List (List Int)} {id : Nat} {b : List Int}, b.length + k = n + 1 -> 1 <= b.length -> X34 A np op cp ep n T chv -> jw A op ll -> A[id]? = some (.row 1 false (ag b)) -> ll.length + 4 ^ k <= 100000 ->
  ∃ B, H34 (d + k) h [.sl id 0 b.length, .ptr np 0 0, .ptr op 0 0, .ptr cp 0 0, .ptr ep 0 0] A = some (.tup [], B) /\ jw B op (ll ++ ext n (decide (T.blades = 1)) (k + 1) b) /\ f9 A B
 | 0, A, ll, id, b, hk, hb1, hX, ho, hb, hll => by
  have e : ext n (decide (T.blades = 1)) (0 + 1) b = [b] := by unfold ext; rw [if_pos (by omega)]
  rw [e]
  cases d with
  | zero => exact z5 _ h hX ho hb (by omega) hn4 (by omega)
  | succ d => exact z5 _ h hX ho hb (by omega) hn4 (by omega)
 | k + 1, A, ll, id, b, hk, hb1, hX, ho, hb, hll => by
  have hbne : b ≠ [] := fun e => by rw [e] at hb1; simp at hb1
  have e : ext n (decide (T.blades = 1)) (k + 1 + 1) b = (List.range' 1 n).flatMap (fE n (decide (T.blades = 1)) (k + 1) b) := by
   rw [ext, if_neg (by omega)]; rfl
  rw [e]
  have loop : ∀ (c i : Nat) (A : ac) (ll : List (List Int)) (m : Nat), i + c = n + 1 -> X34 A np op cp ep n T chv -> jw A op ll -> A[id]? = some (.row 1 false (ag b)) -> ll.length + c * 4 ^ k <= 100000 -> c < m ->
    ∃ B, bg (evC (eS GC ((34, H34 (d + k)) :: sj) h) 40 gY) jL m (mH (.sl id 0 b.length) (.ptr np 0 0) (.ptr cp 0 0) (.ptr ep 0 0) (.int .i64 (i : Int))) A = some (.exit 0 ((mH (.sl id 0 b.length) (.ptr np 0 0) (.ptr cp 0 0) (.ptr ep 0 0) (.int .i64 ((n + 1 : Nat) : Int))).set 8 (.bool false)) B) /\
     jw B op (ll ++ (List.range' i c).flatMap (fE n (decide (T.blades = 1)) (k + 1) b)) /\ f9 A B := by
   intro c
   induction c with
   | zero =>
    intro i A ll m hi hX ho hb hll hm
    obtain ⟨m, rfl⟩ : ∃ j, m = j + 1 := ⟨m - 1, by omega⟩
    refine ⟨A, ?_, by simpa using ho, f9.refl _⟩
    have l0 : ae false 1 A (.ptr np 0 0) = some (.int .i64 (n : Int)) := by simp [hX.hn]
    have b0 : af .leq (.int .i64 ((n + 1 : Nat) : Int)) (.int .i64 (n : Int)) = some (.bool false) := by rw [lw, decide_eq_false (by omega)]
    obtain rfl : i = n + 1 := by omega
    obtain ⟨i1, hi1⟩ : ∃ i1 : Nat, i1 = n + 1 := ⟨_, rfl⟩
    rw [<- hi1] at b0 ⊢
    rw [aQ, xx]
    simp [gY, l0, b0, -af, -ae]
   | succ c ihc =>
    intro i A ll m hi hX ho hb hll hm
    obtain ⟨m, rfl⟩ : ∃ j, m = j + 1 := ⟨m - 1, by omega⟩
    rw [Nat.add_mul, Nat.one_mul] at hll
    have hrow : ∀ (j : Nat) (e : Ent), A[j]? = some e -> gS e -> (A ++ [Ent.row 1 false (ag (b ++ [(i : Int)]))])[j]? = some e := (f9.app A _).2
    have hst := f9.app A [Ent.row 1 false (ag (b ++ [(i : Int)]))]
    obtain ⟨B, hB1, hB2, hB3, hB4⟩ : ∃ B, ((!decide ((i : Int) ∈ b) && (decide (T.blades = 1) || decide (i = b.length))) = true -> H34 (d + k) h [.sl A.length 0 (b.length + 1), .ptr np 0 0, .ptr op 0 0, .ptr cp 0 0, .ptr ep 0 0] (A ++ [.row 1 false (ag (b ++ [(i : Int)]))]) = some (.tup [], B)) /\
      ((!decide ((i : Int) ∈ b) && (decide (T.blades = 1) || decide (i = b.length))) = false -> B = A) /\ jw B op (ll ++ fE n (decide (T.blades = 1)) (k + 1) b i) /\ f9 A B := by
     by_cases hd : (!decide ((i : Int) ∈ b) && (decide (T.blades = 1) || decide (i = b.length))) = true
     ·obtain ⟨B, h1, h2, h3⟩ := I8 h hn4 d k (A := A ++ [.row 1 false (ag (b ++ [(i : Int)]))]) (ll := ll) (id := A.length) (b := b ++ [(i : Int)]) (by simp; omega) (by simp) (hX.step hst) (ho.app _) (by simp) (by omega)
      rw [List.length_append, List.length_singleton] at h1
      refine ⟨B, fun _ => h1, fun e => (by rw [hd] at e; cases e), ?_, hst.trans h3⟩
      unfold fE
      rw [if_pos hd]; exact h2
     ·refine ⟨A, fun e => absurd e hd, fun _ => rfl, ?_, f9.refl _⟩
      unfold fE
      rw [if_neg hd, List.append_nil]; exact ho
    have hX2 := hX.step hB4
    have hb2 := hB4.2 _ _ hb (fK hbne 1 false)
    have hr := BN (fs := (34, H34 (d + k)) :: sj) (h := h) rfl rfl rfl hX hb (by omega) (i := i) (by omega) hn4 hB1 hB2 (by rw [hX2.he, hX.he])
    have hfl : (fE n (decide (T.blades = 1)) (k + 1) b i).length <= 4 ^ k := by
     unfold fE
     split
     ·rcases pT n (decide (T.blades = 1)) hn4 k (b ++ [(i : Int)]) with h1 | h1
      ·exact h1
      ·simp at h1; omega
     ·simp
    obtain ⟨C, c1, c2, c3⟩ := ihc (i + 1) B _ m (by omega) hX2 hB3 hb2 (by rw [List.length_append]; omega) (by omega)
    refine ⟨C, ?_, ?_, hB4.trans c3⟩
    ·rw [aQ, xx, hr]
     exact c1
    ·rw [List.range'_succ, List.flatMap_cons, <- List.append_assoc]
     exact c2
  have hp : n * 4 ^ k <= 4 ^ (k + 1) := by
   rw [Nat.pow_succ, Nat.mul_comm]
   exact Nat.mul_le_mul_left _ hn4
  obtain ⟨B, h1, h2, h3⟩ := loop n 1 A ll 40 (by omega) hX ho hb (by omega) (by omega)
  refine ⟨B, ?_, h2, h3⟩
  have l0 : ae false 1 A (.ptr np 0 0) = some (.int .i64 (n : Int)) := by simp [hX.hn]
  have b1 := aK n (by omega)
  have b2 : af .eql (.int .i64 (b.length : Int)) (.int .i64 ((n + 1 : Nat) : Int)) = some (.bool false) := by rw [ce, decide_eq_false (by omega)]
  obtain ⟨n1, hn1⟩ : ∃ x, x = n + 1 := ⟨_, rfl⟩
  rw [<- hn1] at b1 b2 h1
  rw [show H34 (d + (k + 1)) = fun h => cu (eS GC ((34, H34 (d + k)) :: sj) h) 40 yd from rfl]
  simp only
  rw [bU _ _ rfl]
  have h1 : bg (evC (eS GC ((34, H34 (d + k)) :: sj) h) 40 gY) jL 40 (mH (.sl id 0 b.length) (.ptr np 0 0) (.ptr cp 0 0) (.ptr ep 0 0) (.int .i64 1)) A = _ := h1
  simp [yd, l0, b1, b2, DQ h1, -af, -ae]
def eY (ll : List (List Int)) : AV := slA 1 (ll.map fun l => slA 1 (ag l))
theorem zP {l : List Int} (h : l ≠ []) : slA 1 (ag l) = .fs 1 (ag l) := by
 cases l with
 | nil => exact absurd rfl h
 | cons x r => rfl
theorem CW.frz {A : ac} {op : Nat} {v : AV} {pl : List (Nat × List Int)} (h : CW A op v pl) (k : Nat) : Proofs.Ytemklhljjaniaaa.frz A (k + 3) v = eY (pl.map (·.2)) := by
 obtain ⟨h1, h2⟩ := h
 rcases h2 with ⟨rfl, rfl⟩ | ⟨id, gr, rfl, _, hne, hr⟩
 ·rfl
 ·have e : ((pl.map pE).drop 0).take pl.length = pl.map pE := by
   rw [List.drop_zero]
   conv => lhs; rw [show pl.length = (pl.map pE).length by simp]
   rw [List.take_length]
  have hm : (pl.map pE).map (Proofs.Ytemklhljjaniaaa.frz A (k + 2)) = (pl.map (·.2)).map fun l => slA 1 (ag l) := by
   rw [List.map_map, List.map_map]
   refine List.map_congr_left fun x hx => ?_
   obtain ⟨n1, n2⟩ := h1 x hx
   show Proofs.Ytemklhljjaniaaa.frz A (k + 1 + 1) (.sl x.1 0 x.2.length) = _
   rw [iK n2]
   exact (zP n1).symm
  rw [show k + 3 = (k + 2) + 1 from rfl]
  simp only [Proofs.Ytemklhljjaniaaa.frz, hr]
  rw [e, hm]
  unfold eY
  cases pl with
  | nil => exact absurd rfl hne
  | cons x r => rfl
theorem fV {A : ac} {id : Nat} {g : Bool} {b : List Int} (h : A[id]? = some (.row 1 g (ag b))) (n : Nat) : aY A (n + 2) (.sl id 0 b.length) = true := by
 simp only [aY, h, List.drop_zero, List.all_eq_true]
 intro x hx
 obtain ⟨y, _, rfl⟩ := List.mem_map.1 (List.mem_of_mem_take hx)
 rfl
theorem CW.fresh {A : ac} {op : Nat} {v : AV} {pl : List (Nat × List Int)} (h : CW A op v pl) (k : Nat) : aY A (k + 4) v = true := by
 obtain ⟨h1, h2⟩ := h
 rcases h2 with ⟨rfl, rfl⟩ | ⟨id, gr, rfl, _, hne, hr⟩
 ·rfl
 ·rw [show k + 4 = (k + 3) + 1 from rfl]
  simp only [aY, hr, List.drop_zero]
  rw [List.all_eq_true]
  intro y hy
  obtain ⟨x, hx, rfl⟩ := List.mem_map.1 (List.mem_of_mem_take hy)
  obtain ⟨n1, n2⟩ := h1 x hx
  exact fV n2 (k + 1)
def wz : List (FuncId × aL) := [(16, aF 4 M16), (34, H34 4)]
@[simp] theorem HC : aB wz 16 = some (aF 4 M16) := rfl
@[simp] theorem Hx : aB wz 34 = some (H34 4) := rfl
theorem rN : ∀ f M, aB wz f = some M -> an Try.prog GC f M := ak (an.of_pure sY 4) (ak (mL 4) az)
def M14 : aT := fun args => evF (au GC wz) 0 yg 4 args
theorem qs : bk Try.prog GC 14 M14 := bk.of_ev (E := au GC wz) (av rN) rfl Ik xq 4 fun _ _ h => ⟨0, h⟩
theorem cO {T : bD} {chv : AV} (h : ∀ A n, frz A n chv = chv) (A : ac) (n : Nat) : frz A (n + 1) (aD T chv) = aD T chv := by
 simp [aD, frz, h, aS]
theorem eV {T : bD} {chv : AV} (h : ∀ n, be n chv = true) (n : Nat) : be (n + 1) (aD T chv) = true := by
 simp [aD, be, h]
theorem SlA.noRef {e : Nat} {xs : List AV} {a : AV} (h : SlA e xs a) (n : Nat) : be n a = true := by
 rcases h with ⟨rfl, _⟩ | rfl <;> cases n <;> rfl
theorem ud {T : bD} {chv : AV} (hb : SlA 2 (T.ch.map chA) chv) (hl : T.ch.length <= 200) : M14 [aD T chv] = some (eY (ax T)) := by
 have m := A7 hb hl
 have hlen := hb.len
 rw [List.length_map] at hlen
 have ft := fun A => cO (T := T) (fun A n => hb.frz (A := A) n) A 3
 have nr := eV (T := T) (fun n => hb.noRef n) 3
 unfold M14 ax
 by_cases hv : ez T
 ·rw [if_pos hv]
  rw [decide_eq_true hv] at m
  have hn4 := hv.2.2.2.1
  obtain ⟨A0, hA0⟩ : ∃ X : ac, X = [.row 5 false [aD T chv], .row 1 false [.int .i64 (T.ch.length : Int)], .row 1 false [.nilS], .row 1 false [kT 1 2 0 3], .row 1 false [.int .i64 0]] := ⟨_, rfl⟩
  have hX : X34 A0 1 2 0 3 T.ch.length T chv := by rw [hA0]; exact ⟨rfl, rfl, rfl⟩
  have ho : jw A0 2 [] := ⟨.nilS, [], rfl, by rw [hA0]; rfl, fun _ h => by simp at h, .inl ⟨rfl, rfl⟩⟩
  have hp : 4 ^ T.ch.length <= 4 ^ 4 := Nat.pow_le_pow_right (by omega) hn4
  obtain ⟨B, h1, ⟨v, pl, h2, h3, h4⟩, h5⟩ := I8 (fun _ _ _ => none) (d := 4 - T.ch.length) hn4 T.ch.length (A := A0) (ll := []) (id := 4) (b := [0]) (by simp; omega) (by simp) hX ho (by rw [hA0]; rfl) (by simp; omega)
  rw [show 4 - T.ch.length + T.ch.length = 4 by omega] at h1
  have lv := iw h3 h4.form
  have hfz := h4.frz 1
  have hfr := h4.fresh 0
  rw [h2, List.nil_append] at hfz
  have h1 : H34 4 (fun _ _ _ => none) [.sl 4 0 1, .ptr 1 0 0, .ptr 2 0 0, .ptr 0 0 0, .ptr 3 0 0] A0 = some (.tup [], B) := h1
  rw [cU _ _ rfl]
  obtain ⟨ch, pk, pl2, tr, bd⟩ := T
  simp only at hlen h1 hA0 m ft hfz
  rw [show ∀ c, aD ⟨ch, pk, pl2, tr, bd⟩ c = .agg [c, .int .i64 pk, .int .i64 pl2, .int .i64 tr, .int .i64 bd] from fun _ => rfl] at hA0 ft m
  rw [show ∀ c, aD ⟨ch, pk, pl2, tr, bd⟩ c = .agg [c, .int .i64 pk, .int .i64 pl2, .int .i64 tr, .int .i64 bd] from fun _ => rfl]
  have lt : ae true 5 [Ent.row 5 false [.agg [chv, .int .i64 pk, .int .i64 pl2, .int .i64 tr, .int .i64 bd]]] (.ptr 0 0 0) = some (.agg [chv, .int .i64 pk, .int .i64 pl2, .int .i64 tr, .int .i64 bd]) := rfl
  have le : ∀ k, ae false 1 [Ent.row 5 false [.agg [chv, .int .i64 pk, .int .i64 pl2, .int .i64 tr, .int .i64 bd]], .row 1 false [.int .i64 k], .row 1 false [.nilS], .row 1 false [.func (.func 34) [] [.ptr 1 0 0, .ptr 2 0 0, .ptr 0 0 0, .ptr 3 0 0]]] (.ptr 3 0 0) = some (.func (.func 34) [] [.ptr 1 0 0, .ptr 2 0 0, .ptr 0 0 0, .ptr 3 0 0]) := fun k => rfl
  have lc : ae false 1 [Ent.row 5 false [.agg [chv, .int .i64 pk, .int .i64 pl2, .int .i64 tr, .int .i64 bd]]] (.ptr 0 0 0) = some chv := rfl
  obtain ⟨k, hk⟩ : ∃ k, k = (ch.length : Int) := ⟨_, rfl⟩
  rw [<- hk] at hlen hA0
  obtain ⟨R, hR⟩ : ∃ R, R = eY (ext ch.length (decide (bd = 1)) (ch.length + 1) [0]) := ⟨_, rfl⟩
  rw [<- hR] at hfz ⊢
  unfold kT at hA0
  rw [hA0] at h1
  simp [yg, m, ft, hlen, h1, lv, hfz, hfr, lc, lt, le, -frz, -aj, -ae]
 ·rw [if_neg hv]
  rw [decide_eq_false hv] at m
  rw [cU _ _ rfl]
  obtain ⟨ch, pk, pl2, tr, bd⟩ := T
  rw [show ∀ c, aD ⟨ch, pk, pl2, tr, bd⟩ c = .agg [c, .int .i64 pk, .int .i64 pl2, .int .i64 tr, .int .i64 bd] from fun _ => rfl] at ft m
  rw [show ∀ c, aD ⟨ch, pk, pl2, tr, bd⟩ c = .agg [c, .int .i64 pk, .int .i64 pl2, .int .i64 tr, .int .i64 bd] from fun _ => rfl]
  simp [yg, m, ft, aY, -frz]
  rfl
def Fo : List (FuncId × aL) := [(43, aF 4 M43)]
@[simp] theorem Gk : aB Fo 43 = some (aF 4 M43) := rfl
theorem Bv : ∀ f M, aB Fo f = some M -> an Try.prog GC f M := ak (an.of_pure Dq 4) az
def M42 : aT := fun args => evP (au GC Fo) 0 B7 1 args
theorem vo : aq Try.prog GC 42 M42 := aq.of_ev (E := au GC Fo) (av Bv) rfl HZ wW 1 fun _ _ h => ⟨0, h⟩
theorem ER {xs ys : List Int} {a b : AV} (ha : SlA 1 (ag xs) a) (hb : SlA 1 (ag ys) b) (hl : xs.length <= 200) : M42 [a, .fp [b]] = some (.bool (decide (xs = ys))) := by
 have m := t9 ha hb hl
 have f1 : ∀ A n, frz A n a = a := fun A n => ha.frz n
 have f2 : ∀ A n, frz A n b = b := fun A n => hb.frz n
 have l1 : ∀ A, ae false 1 A (.fp [b]) = some b := fun A => rfl
 obtain ⟨d, hd⟩ : ∃ d, d = decide (xs = ys) := ⟨_, rfl⟩
 rw [<- hd] at m ⊢
 unfold M42
 rw [aN _ _ rfl]
 simp [B7, m, f1, f2, l1, aZ, -frz, -ae]
def Aq : List (FuncId × aL) := [(42, aF 4 M42)]
@[simp] theorem F7 : aB Aq 42 = some (aF 4 M42) := rfl
theorem Bm : ∀ f M, aB Aq f = some M -> an Try.prog GC f M := ak (an.of_pure vo 4) az
def M66 : aT := fun args => evP (au GC Aq) 300 Fc 1 args
theorem Dk : aq Try.prog GC 66 M66 := aq.of_ev (E := au GC Aq) (av Bm) rfl at66 Ea 1 fun _ _ h => ⟨300, h⟩
def isO (o l : List Int) : Bool := decide (l = o)
def fnO (ov : AV) : AV := .func (.func 42) [] [.fp [ov]]
theorem EL {ll : List (List Int)} {o : List Int} {ov : AV} (ho : SlA 1 (ag o) ov) (hl : ll.length <= 256) (hl2 : ∀ l ∈ ll, l.length <= 200) : M66 [eY ll, fnO ov] = some (.int .i64 (cy (isO o) ll)) := by
 have hb := aI 1 (ll.map fun l => slA 1 (ag l))
 rw [show slA 1 (ll.map fun l => slA 1 (ag l)) = eY ll from rfl] at hb
 obtain ⟨b, hbv⟩ : ∃ b, b = eY ll := ⟨_, rfl⟩
 rw [<- hbv] at hb ⊢
 have hlen := hb.len
 rw [List.length_map] at hlen
 have round : ∀ (A : ac) (i : Nat) (hi : i < ll.length), run (au GC Aq) 300 [.code iQ] (kG b (fnO ov) (.int .i64 (ll.length : Int)) (.int .i64 (i : Int))) A =
   if isO o ll[i] = false then some (.normal (kG b (fnO ov) (.int .i64 (ll.length : Int)) (.int .i64 ((i + 1 : Nat) : Int))) A) else some (.ret [b, fnO ov, .int .i64 (i : Int), .int .i64 (i : Int), .int .i64 (ll.length : Int), .int .i64 (i : Int), .bool true, .bool true] A) := fun A i hi => by
  have he : (ll.map fun l => slA 1 (ag l))[i]? = some (slA 1 (ag ll[i])) := by simp [hi]
  have hs := aI 1 (ag ll[i])
  have x1 := hb.index1 (A := A) he (by rcases hs with ⟨h, _⟩ | h <;> rw [h] <;> rfl) (by rcases hs with ⟨h, _⟩ | h <;> rw [h] <;> rfl) .i64
  have ld : ae false 1 A (.fp [slA 1 (ag ll[i])]) = some (slA 1 (ag ll[i])) := by rcases hs with ⟨h, _⟩ | h <;> rw [h] <;> rfl
  have m := ER hs ho (hl2 _ (List.getElem_mem hi))
  have b1 := bc i ll.length .i64
  rw [decide_eq_true hi] at b1
  have b3 := aK i (by omega)
  have fz : ∀ A, frz A 4 (slA 1 (ag ll[i])) = slA 1 (ag ll[i]) := fun A => hs.frz 4
  have fz2 : ∀ A, frz A 4 (.fp [ov]) = .fp [ov] := fun A => rfl
  obtain ⟨i1, hi1⟩ : ∃ i1 : Nat, i1 = i + 1 := ⟨_, rfl⟩
  rw [<- hi1] at b3 ⊢
  obtain ⟨d, hd⟩ : ∃ d, d = isO o ll[i] := ⟨_, rfl⟩
  rw [show decide (ll[i] = o) = d from hd.symm] at m
  rw [<- hd]
  obtain ⟨c, hc⟩ : ∃ c, c = slA 1 (ag ll[i]) := ⟨_, rfl⟩
  rw [<- hc] at m ld fz x1
  cases d with
  | false => simp [iQ, fnO, x1, ld, m, fz, fz2, b1, b3, -frz, -af, -ab, -aj, -ae]
  | true => simp [iQ, fnO, x1, ld, m, fz, fz2, b1, -frz, -af, -ab, -aj, -ae]
 unfold M66
 rw [aN _ _ rfl]
 rcases bz (E := au GC Aq) (fuel := 300) (a := iQ) (mask := iA) (fun i => kG b (fnO ov) (.int .i64 (ll.length : Int)) (.int .i64 (i : Int))) (fun _ => []) ll.length (fun i => ¬ ∀ hi : i < ll.length, isO o ll[i] = false)
  (oF := fun i => .ret [b, fnO ov, .int .i64 (i : Int), .int .i64 (i : Int), .int .i64 (ll.length : Int), .int .i64 (i : Int), .bool true, .bool true] []) (oE := .exit 0 ((kG b (fnO ov) (.int .i64 (ll.length : Int)) (.int .i64 (ll.length : Int))).set 6 (.bool false)) [])
  (fun _ => AB) (fun _ _ _ h => by cases h) (fun _ _ h => by cases h)
  (fun i hi hp => by
   rw [round [] i hi]
   exact if_pos (Classical.not_not.1 hp hi))
  (fun i hi hp => by
   rw [round [] i hi]
   exact if_neg fun h => hp fun _ => h)
  (by simp [iQ]) (show ll.length < 300 by omega) with ⟨i, hi, hp, hj, lp⟩ | ⟨hp, lp⟩
 ·have lp : bg (evC (au GC Aq) 300 iQ) iA 300 (kG b (fnO ov) (.int .i64 (ll.length : Int)) (.int .i64 0)) [] = _ := lp
  have e : cy (isO o) ll = (i : Int) := a9 hi (by
   cases h' : isO o ll[i] with
   | true => rfl
   | false => exact absurd (fun _ => h') hp) (fun j hj' => Classical.not_not.1 (hj j hj') (by omega))
  rw [e]
  simp [Fc, hlen, z9 lp, -af, -aj]
 ·have lp : bg (evC (au GC Aq) 300 iQ) iA 300 (kG b (fnO ov) (.int .i64 (ll.length : Int)) (.int .i64 0)) [] = _ := lp
  have e : cy (isO o) ll = -1 := ba fun i hi => Classical.not_not.1 (hp i hi) hi
  rw [e]
  simp [Fc, hlen, z9 lp, -af, -aj]
def Fp : List (FuncId × aL) := [(66, aF 4 M66)]
@[simp] theorem Gl : aB Fp 66 = some (aF 4 M66) := rfl
theorem Bw : ∀ f M, aB Fp f = some M -> an Try.prog GC f M := ak (an.of_pure Dk 4) az
def M41 : aT := fun args => evP (au GC Fp) 0 C3 1 args
theorem sS : aq Try.prog GC 41 M41 := aq.of_ev (E := au GC Fp) (av Bw) rfl H0 wX 1 fun _ _ h => ⟨0, h⟩
theorem CP (o : List Int) (ll : List (List Int)) : ll.any (isO o) = decide (o ∈ ll) := by
 rw [Bool.eq_iff_iff, List.any_eq_true, decide_eq_true_eq]
 unfold isO
 constructor
 ·rintro ⟨x, hx, h⟩
  rw [<- of_decide_eq_true h]; exact hx
 ·exact fun h => ⟨o, h, by simp⟩
theorem ES {ll : List (List Int)} {o : List Int} {ov : AV} (ho : SlA 1 (ag o) ov) (hl : ll.length <= 256) (hl2 : ∀ l ∈ ll, l.length <= 200) : M41 [eY ll, fnO ov] = some (.bool (decide (o ∈ ll))) := by
 have h := EL ho hl hl2
 have b1 := pO (cy (isO o) ll)
 rw [cf, CP] at b1
 have f1 : ∀ A n, frz A n (eY ll) = eY ll := fun A n => (aI 1 _).frz n
 have f2 : ∀ A, frz A 4 (fnO ov) = fnO ov := fun A => rfl
 obtain ⟨z, hz⟩ : ∃ z, z = cy (isO o) ll := ⟨_, rfl⟩
 rw [<- hz] at h b1
 obtain ⟨d, hd⟩ : ∃ d, d = decide (o ∈ ll) := ⟨_, rfl⟩
 rw [<- hd] at b1 ⊢
 obtain ⟨b, hbv⟩ : ∃ b, b = eY ll := ⟨_, rfl⟩
 rw [<- hbv] at h f1 ⊢
 unfold M41
 rw [aN _ _ rfl]
 simp [C3, h, b1, f1, f2, aZ, -af, -frz]
open Cy (aW bM aX a8 okA)
section
variable {A : ac} {es : List AV} {k : Nat}
theorem gM (_hk : es.length = k) {j : Nat} (hj : j < k) : aa j (A ++ [.row k false [.agg es]]) (.ptr A.length 0 0) = some (.ptr A.length 0 j) := by
 simp [aa, hj]
theorem gD (_hk : es.length = k) {j : Nat} {x : AV} (hx : es[j]? = some x) : ae false 1 (A ++ [.row k false [.agg es]]) (.ptr A.length 0 j) = some x := by
 simp [ae, a0, hx]
theorem rC (_hk : es.length = k) (_hk1 : k ≠ 1) : ae true k (A ++ [.row k false [.agg es]]) (.ptr A.length 0 0) = some (.agg es) := by
 simp [ae, dD]
theorem sP (hk : es.length = k) (hk1 : 1 < k) {j : Nat} (hj : j < k) {x : AV} (hs : x.solid = true) (hc : cellsOf x = [x]) : aw 1 (A ++ [.row k false [.agg es]]) (.ptr A.length 0 j) x = some (A ++ [.row k false [.agg (es.set j x)]]) := by
 have e : es.take j ++ [x] ++ es.drop (j + 1) = es.set j x := by
  rw [List.set_eq_take_append_cons_drop, if_pos (by omega)]; simp
 have e1 : aJ (.agg es) k j x = some (.agg (es.set j x)) := by
  unfold aJ
  rw [hc, if_neg (by simp; omega)]
  simp only [List.length_singleton]
  rw [if_pos ⟨hk, by omega⟩, e]
 simp only [aw, List.getElem?_concat_length, List.getElem?_cons_zero]
 rw [if_pos ⟨trivial, hs, by rw [hc]; rfl, by omega⟩, e1]
 simp
end
@[simp] theorem IV (A : ac) (x : AV) : ae false 1 A (.fp [x]) = some x := rfl
@[simp] theorem IT (A : ac) (x y : AV) (r : List AV) : ae true (r.length + 2) A (.fp (x :: y :: r)) = some (.agg (x :: y :: r)) := by simp [ae]
@[simp] theorem IU (A : ac) (x y : AV) : ae true 2 A (.fp [x, y]) = some (.agg [x, y]) := rfl
def M46 : aT := fun args => evP (au GC []) 0 B6 4 args
theorem vk : aq Try.prog GC 46 M46 := aq.of_ev (E := au GC []) (av az) rfl HV wS 4 fun _ _ h => ⟨0, h⟩
def Cw : AV := .agg [.nilF, .func (.func 67) [] [], .func (.func 68) [] []]
theorem x7 : M46 [] = some Cw := by
 unfold M46
 rw [aN _ _ rfl]
 simp [B6, Cw]
def Fk : List (FuncId × aL) := [(64, aF 4 M64)]
@[simp] theorem F6 : aB Fk 64 = some (aF 4 M64) := rfl
theorem Bl : ∀ f M, aB Fk f = some M -> an Try.prog GC f M := ak (an.of_pure zM 4) az
def M67 : aT := fun args => evP (au GC Fk) 0 Fb 4 args
theorem Dj : aq Try.prog GC 67 M67 := aq.of_ev (E := au GC Fk) (av Bl) rfl at67 D9 4 fun _ _ h => ⟨0, h⟩
def lkA (a b c : Int) : AV := .agg [.int .i64 a, .int .i64 b, .int .i64 c]
theorem EK {o : List Int} {ov : AV} (ho : SlA 1 (ag o) ov) (hl : o.length <= 200) {j : Int} (hj : -1000 <= j /\ j <= 1000) : M67 [ov, .int .i64 j] = some (lkA (j - 1) j (if cy (isI j) o < cy (isI (j - 1)) o then 1 else 0)) := by
 have m1 := x6 ho hl j
 have m2 := x6 ho hl (j - 1)
 have f1 : ∀ A n, frz A n ov = ov := fun A n => ho.frz n
 have b1 := ij (a := j) (b := 1) (by omega)
 have b2 := ed (cy (isI j) o) (cy (isI (j - 1)) o)
 obtain ⟨j1, hj1⟩ : ∃ x, x = j - 1 := ⟨_, rfl⟩
 rw [<- hj1] at m2 b1 b2 ⊢
 obtain ⟨x, hx⟩ : ∃ x, x = cy (isI j) o := ⟨_, rfl⟩
 obtain ⟨y, hy⟩ : ∃ x, x = cy (isI j1) o := ⟨_, rfl⟩
 rw [<- hx] at m1 b2 ⊢
 rw [<- hy] at m2 b2 ⊢
 unfold M67
 rw [aN _ _ rfl]
 by_cases h : x < y
 ·rw [decide_eq_true h] at b2
  rw [if_pos h]
  simp [Fb, m1, m2, f1, b1, b2, lkA, aS, -af, -frz]
  simp [frz]
 ·rw [decide_eq_false h] at b2
  rw [if_neg h]
  simp [Fb, m1, m2, f1, b1, b2, lkA, aS, -af, -frz]
  simp [frz]
def M68 : aT := fun args => evP (au GC []) 0 FT 4 args
theorem Di : aq Try.prog GC 68 M68 := aq.of_ev (E := au GC []) (av az) rfl at68 D8 4 fun _ _ h => ⟨0, h⟩
theorem EJ (ov : AV) (j : Int) : M68 [ov, .int .i64 j] = some (lkA j j 1) := by
 unfold M68
 rw [aN _ _ rfl]
 simp [FT, lkA]
def H45 : aL := fun _ => cu (au GC []) 0 yP
theorem vl : an Try.prog GC 45 H45 := (cI (av az) rfl HW wT bC.nil).y
def GAt (A : ac) (g : Nat) (l : List aW) : Prop := ∃ v, A[g]? = some (.row 1 false [v]) /\ ((v = .nilS /\ l = []) \/ ∃ id gr, v = .sl id 0 l.length /\ l ≠ [] /\ g < id /\ A[id]? = some (.row 4 gr (l.map bM)))
theorem GAt.app {A : ac} {g : Nat} {l : List aW} (h : GAt A g l) (X : ac) : GAt (A ++ X) g l := by
 obtain ⟨v, h1, h2⟩ := h
 have hk : ∀ (j : Nat) (e : Ent), A[j]? = some e -> (A ++ X)[j]? = some e := fun j e h => by
  rw [List.getElem?_append_left (List.getElem?_eq_some_iff.1 h).1]; exact h
 refine ⟨v, hk _ _ h1, ?_⟩
 rcases h2 with h2 | ⟨id, gr, e1, e2, e3, e4⟩
 ·exact .inl h2
 ·exact .inr ⟨id, gr, e1, e2, e3, hk _ _ e4⟩
theorem Ba (h : bb) {A : ac} {g : Nat} {l : List aW} (hg : GAt A g l) {xs : List aW} (hx : xs ≠ []) (hb : l.length + xs.length <= 1000) :
  ∃ B, H45 h [.ptr g 0 0, .fs 4 (xs.map bM)] A = some (.tup [], B) /\ GAt B g (l ++ xs) /\ A.length <= B.length /\ ∀ j, j < g -> B[j]? = A[j]? := by
 obtain ⟨v, h1, h2⟩ := hg
 have hgl := (List.getElem?_eq_some_iff.1 h1).1
 have hxl : 0 < xs.length := List.length_pos_iff.2 hx
 have hxm : xs.map bM ≠ [] := fun e => hx (List.map_eq_nil_iff.1 e)
 rcases h2 with ⟨rfl, rfl⟩ | ⟨id, gr, rfl, hl, hid, hr⟩
 ·have e1 : aH 4 32 A .nilS (.fs 4 (xs.map bM)) = some (.sl A.length 0 xs.length, A ++ [.row 4 false (xs.map bM)]) := by
   simp only [aH, eX, List.length_map]
   rw [if_neg (by omega), if_pos ⟨by omega, by omega, by simp at hb; omega⟩]
  have l1 : ae false 1 A (.ptr g 0 0) = some .nilS := iw h1 (.inl rfl)
  have h1' : (A ++ [Ent.row 4 false (xs.map bM)])[g]? = some (.row 1 false [.nilS]) := by rw [List.getElem?_append_left hgl]; exact h1
  obtain ⟨A1, hA1⟩ : ∃ X, X = A ++ [Ent.row 4 false (xs.map bM)] := ⟨_, rfl⟩
  have s1 : aw 1 A1 (.ptr g 0 0) (.sl A.length 0 xs.length) = some (A1.set g (.row 1 false [.sl A.length 0 xs.length])) := by
   rw [<- hA1] at h1'
   simp [h1']
  refine ⟨A1.set g (.row 1 false [.sl A.length 0 xs.length]), ?_, ⟨.sl A.length 0 xs.length, by rw [hA1, List.getElem?_set_self (by simp; omega)], .inr ⟨A.length, false, rfl, hx, hgl, ?_⟩⟩, by rw [hA1]; simp, fun j hj => ?_⟩
  ·rw [<- hA1] at e1
   unfold H45
   rw [bU _ _ rfl]
   simp [yP, l1, e1, s1, -ae, -aw]
  ·rw [hA1, List.getElem?_set_ne (by omega)]
   simp
  ·rw [hA1, List.getElem?_set_ne (by omega), List.getElem?_append_left (by omega)]
 ·have hlz : l.length ≠ 0 := fun e => hl (List.length_eq_zero_iff.1 e)
  have hidl := (List.getElem?_eq_some_iff.1 hr).1
  have e1 : aH 4 32 A (.sl id 0 l.length) (.fs 4 (xs.map bM)) = some (.sl id 0 (l.length + xs.length), A.set id (.row 4 true (l.map bM ++ xs.map bM))) := by
   simp only [aH, eX, List.length_map, hr]
   rw [if_pos ⟨trivial, by omega, by omega, by omega⟩, if_pos ⟨trivial, trivial, hlz⟩]
  have l1 : ae false 1 A (.ptr g 0 0) = some (.sl id 0 l.length) := iw h1 (.inr ⟨_, _, _, rfl⟩)
  obtain ⟨A1, hA1⟩ : ∃ X, X = A.set id (Ent.row 4 true (l.map bM ++ xs.map bM)) := ⟨_, rfl⟩
  have h1' : A1[g]? = some (.row 1 false [.sl id 0 l.length]) := by rw [hA1, List.getElem?_set_ne (by omega)]; exact h1
  have s1 : aw 1 A1 (.ptr g 0 0) (.sl id 0 (l.length + xs.length)) = some (A1.set g (.row 1 false [.sl id 0 (l.length + xs.length)])) := by
   simp [h1']
  refine ⟨A1.set g (.row 1 false [.sl id 0 (l.length + xs.length)]), ?_, ⟨.sl id 0 (l.length + xs.length), by rw [hA1, List.getElem?_set_self (by simpa using hgl)], .inr ⟨id, true, by simp, by simp [hl], hid, ?_⟩⟩, by rw [hA1]; simp, fun j hj => ?_⟩
  ·rw [<- hA1] at e1
   unfold H45
   rw [bU _ _ rfl]
   simp [yP, l1, e1, s1, -ae, -aw]
  ·rw [hA1, List.getElem?_set_ne (by omega), List.getElem?_set_self hidl]
   simp
  ·rw [hA1, List.getElem?_set_ne (by omega), List.getElem?_set_ne (by omega)]
theorem GAt.frz {A : ac} {g : Nat} {l : List aW} (h : GAt A g l) : ∃ v, ae false 1 A (.ptr g 0 0) = some v /\ (∀ k, Proofs.Ytemklhljjaniaaa.frz A (k + 3) v = slA 4 (l.map bM)) /\ ∀ k, aY A (k + 3) v = true := by
 obtain ⟨v, h1, h2⟩ := h
 rcases h2 with ⟨rfl, rfl⟩ | ⟨id, gr, rfl, hl, hid, hr⟩
 ·exact ⟨.nilS, iw h1 (.inl rfl), fun k => rfl, fun k => rfl⟩
 ·have e : ((l.map bM).drop 0).take l.length = l.map bM := by
   rw [List.drop_zero]
   conv => lhs; rw [show l.length = (l.map bM).length by simp]
   rw [List.take_length]
  refine ⟨_, iw h1 (.inr ⟨_, _, _, rfl⟩), fun k => ?_, fun k => ?_⟩
  ·have hm : (l.map bM).map (Proofs.Ytemklhljjaniaaa.frz A (k + 2)) = l.map bM := by
    rw [List.map_map]
    exact List.map_congr_left fun x _ => by simp [bM, Proofs.Ytemklhljjaniaaa.frz]
   rw [show k + 3 = (k + 2) + 1 from rfl]
   simp only [Proofs.Ytemklhljjaniaaa.frz, hr]
   rw [e, hm]
   cases l with
   | nil => exact absurd rfl hl
   | cons x r => rfl
  ·rw [show k + 3 = (k + 2) + 1 from rfl]
   simp only [aY, hr]
   rw [e, List.all_eq_true]
   intro y hy
   obtain ⟨x, _, rfl⟩ := List.mem_map.1 hy
   simp [bM, aY]
def mX (o : List Int) (i : Nat) : Int := if i + 1 < o.length then o.getD (i + 1) 0 else 0
def qd (T : bD) (o : List Int) (i : Nat) : aW :=
 ⟨o.getD i 0, mX o i, cF T + (if T.blades = 2 \/ mX o i ≠ o.getD i 0 + 1 then T.travel else 0), if i + 1 < o.length then 0 else 1⟩
def lkT (T : bD) (o : List Int) (j : Int) : Int × Int × Int := if T.blades = 2 then (j, j, 1) else (j - 1, j, if cy (isI j) o < cy (isI (j - 1)) o then 1 else 0)
def oh (T : bD) (o : List Int) (i : Nat) : List aW :=
 [⟨(lkT T o (i + 1)).1, (lkT T o (i + 1)).2.1, cF T + (T.ch.getD i (0, 0)).1, (lkT T o (i + 1)).2.2⟩,
  ⟨(lkT T o (i + 1)).2.1, (lkT T o (i + 1)).1, -(cF T + (T.ch.getD i (0, 0)).1 + (T.ch.getD i (0, 0)).2), -(lkT T o (i + 1)).2.2⟩]
def aR (T : bD) (o : List Int) : List aW := (List.range o.length).map (qd T o) ++ (List.range T.ch.length).flatMap (oh T o)
def ri (T : bD) (o : List Int) : Option (List aW) := if o ∈ ax T then some (aR T o) else none
theorem wF (n : Nat) (one : Bool) : ∀ (k : Nat) (b l : List Int), l ∈ ext n one k b -> l.length = n + 1 /\ ∃ r, l = b ++ r /\ (∀ x ∈ r, 1 <= x /\ x <= n) /\ (b.Nodup -> l.Nodup)
 | 0, b, l, h => by simp [ext] at h
 | k + 1, b, l, h => by
  unfold ext at h
  split at h
  ·rename_i hb
   simp only [List.mem_singleton] at h
   subst h
   exact ⟨hb, [], by simp, by simp, id⟩
  ·rw [List.mem_flatMap] at h
   obtain ⟨i, hi, h⟩ := h
   rw [List.mem_range'_1] at hi
   split at h
   ·rename_i hc
    obtain ⟨h1, r, rfl, h3, h4⟩ := wF n one k _ _ h
    simp only [Bool.and_eq_true, Bool.not_eq_true', decide_eq_false_iff_not] at hc
    refine ⟨h1, (i : Int) :: r, by simp, fun x hx => ?_, fun hn => h4 ?_⟩
    ·rcases List.mem_cons.1 hx with rfl | hx
     ·omega
     ·exact h3 x hx
    ·rw [List.nodup_append]
     refine ⟨hn, by simp, fun a ha b hb e => ?_⟩
     rw [List.mem_singleton] at hb
     subst hb; subst e
     exact hc.1 ha
   ·cases h
theorem bo {T : bD} {o : List Int} (h : o ∈ ax T) : ez T /\ o.length = T.ch.length + 1 /\ (∃ r, o = 0 :: r /\ ∀ x ∈ r, 1 <= x /\ x <= T.ch.length) /\ o.Nodup := by
 unfold ax at h
 split at h
 ·rename_i hv
  obtain ⟨h1, r, h2, h3, h4⟩ := wF _ _ _ _ _ h
  exact ⟨hv, h1, ⟨r, h2, h3⟩, h4 (by simp)⟩
 ·cases h
theorem fL {T : bD} {o : List Int} (h : o ∈ ax T) : ∀ x ∈ o, 0 <= x /\ x <= T.ch.length := by
 obtain ⟨_, _, ⟨r, rfl, h2⟩, _⟩ := bo h
 intro x hx
 rcases List.mem_cons.1 hx with rfl | hx
 ·omega
 ·have := h2 x hx; omega
theorem eh (T : bD) : (ax T).length <= 256 := by
 unfold ax
 split
 ·rename_i hv
  have hn := hv.2.2.2.1
  rcases pT T.ch.length (decide (T.blades = 1)) hn T.ch.length [0] with h | h
  ·exact Nat.le_trans h (Nat.le_trans (Nat.pow_le_pow_right (by omega) hn) (by omega))
  ·simp at h; omega
 ·simp
theorem jB {T : bD} (h : ez T) : 0 <= cF T /\ cF T <= 30000 := by
 obtain ⟨_, ⟨h1, h2, h3⟩, _⟩ := h
 unfold cF
 split <;> omega
theorem qR {a : Int} (h : -9223372036854775807 <= a /\ a <= 9223372036854775807) : pU .neg (.int .i64 a) = some (.int .i64 (-a)) := by
 simp only [pU]
 rw [show (0 : Int) - a = -a by omega, dl (by unfold inI; omega)]
def mq : List (FuncId × aL) := [(14, bA 4 M14), (41, aF 4 M41), (44, aF 4 M44), (46, aF 4 M46), (67, aF 4 M67), (68, aF 4 M68), (45, H45)]
@[simp] theorem Hm : aB mq 14 = some (bA 4 M14) := rfl
@[simp] theorem Hh : aB mq 41 = some (aF 4 M41) := rfl
@[simp] theorem Hg : aB mq 44 = some (aF 4 M44) := rfl
@[simp] theorem He : aB mq 46 = some (aF 4 M46) := rfl
@[simp] theorem Hd : aB mq 67 = some (aF 4 M67) := rfl
@[simp] theorem Hc : aB mq 68 = some (aF 4 M68) := rfl
@[simp] theorem Hf : aB mq 45 = some H45 := rfl
theorem rK : ∀ f M, aB mq f = some M -> an Try.prog GC f M := ak (an.of_pureF qs 4) (ak (an.of_pure sS 4) (ak (an.of_pure vn 4) (ak (an.of_pure vk 4) (ak (an.of_pure Dj 4) (ak (an.of_pure Di 4) (ak vl az))))))
structure I19 (A : ac) (T : bD) (chv ov : AV) (l : List aW) : Prop where
 t : A[0]? = some (.row 5 false [aD T chv])
 o : A[1]? = some (.row 1 false [ov])
 g : GAt A 2 l
theorem yF {T : bD} {chv ov : AV} {o : List Int} (hO : o ∈ ax T) (ho : SlA 1 (ag o) ov) {A : ac} {l : List aW} (hI : I19 A T chv ov l) (hl : l.length <= 100) {i : Nat} (hi : i < o.length) :
  ∃ B, run (au GC mq) 300 [.code fU] (mJ (.ptr 0 0 0) (.ptr 1 0 0) (.int .i64 (cF T)) (.ptr 2 0 0) ov (.int .i64 (o.length : Int)) (.int .i64 (i : Int))) A =
   some (.normal (mJ (.ptr 0 0 0) (.ptr 1 0 0) (.int .i64 (cF T)) (.ptr 2 0 0) ov (.int .i64 (o.length : Int)) (.int .i64 ((i + 1 : Nat) : Int))) B) /\ I19 B T chv ov (l ++ [qd T o i]) := by
 obtain ⟨hv, hol, _, _⟩ := bo hO
 have hbd := fL hO
 have hw := jB hv
 have hch := hv.2.2.2.1
 have htr := hv.2.1.2.2
 obtain ⟨ht, h1, hg⟩ := hI
 have ht0 := (List.getElem?_eq_some_iff.1 ht).1
 have h10 := (List.getElem?_eq_some_iff.1 h1).1
 have hlen := ho.len
 rw [aA] at hlen
 have x1 := fun A => ho.int (A := A) _ _ (List.getElem?_eq_getElem hi) .i64
 have ho1 : o[i] = o.getD i 0 := by rw [List.getD_eq_getElem?_getD, List.getElem?_eq_getElem hi]; rfl
 have hb1 := hbd o[i] (List.getElem_mem hi)
 obtain ⟨t0, htt⟩ : ∃ t, t = o.getD i 0 := ⟨_, rfl⟩
 rw [ho1, <- htt] at x1 hb1
 obtain ⟨w, hww⟩ : ∃ w, w = cF T := ⟨_, rfl⟩
 have ov0 : ∀ X, ae false 1 (A ++ X) (.ptr 1 0 0) = some ov := fun X => by
  have h : (A ++ X)[1]? = some (.row 1 false [ov]) := by rw [List.getElem?_append_left h10]; exact h1
  rcases ho with ⟨rfl, _⟩ | rfl <;> simp [h]
 obtain ⟨ch, pk, pl, tr, bd⟩ := T
 have ht : A[0]? = some (.row 5 false [.agg [chv, .int .i64 pk, .int .i64 pl, .int .i64 tr, .int .i64 bd]]) := ht
 have tl : ∀ X, (A ++ X)[0]? = some (.row 5 false [.agg [chv, .int .i64 pk, .int .i64 pl, .int .i64 tr, .int .i64 bd]]) := fun X => by rw [List.getElem?_append_left ht0]; exact ht
 have t3 : ∀ X, aa 3 (A ++ X) (.ptr 0 0 0) = some (.ptr 0 0 3) := fun X => by simp [aa, tl X]
 have t4 : ∀ X, aa 4 (A ++ X) (.ptr 0 0 0) = some (.ptr 0 0 4) := fun X => by simp [aa, tl X]
 have l3 : ∀ X, ae false 1 (A ++ X) (.ptr 0 0 3) = some (.int .i64 tr) := fun X => by simp [ae, tl X, a0]
 have l4 : ∀ X, ae false 1 (A ++ X) (.ptr 0 0 4) = some (.int .i64 bd) := fun X => by simp [ae, tl X, a0]
 have a1 : ∀ a b c d, aa 1 (A ++ [.row 4 false [.agg [a, b, c, d]]]) (.ptr A.length 0 0) = some (.ptr A.length 0 1) := fun a b c d => gM (es := [a, b, c, d]) (k := 4) rfl (by omega)
 have a2 : ∀ a b c d, aa 2 (A ++ [.row 4 false [.agg [a, b, c, d]]]) (.ptr A.length 0 0) = some (.ptr A.length 0 2) := fun a b c d => gM (es := [a, b, c, d]) (k := 4) rfl (by omega)
 have a3 : ∀ a b c d, aa 3 (A ++ [.row 4 false [.agg [a, b, c, d]]]) (.ptr A.length 0 0) = some (.ptr A.length 0 3) := fun a b c d => gM (es := [a, b, c, d]) (k := 4) rfl (by omega)
 have r1 : ∀ a b c d, ae false 1 (A ++ [.row 4 false [.agg [a, b, c, d]]]) (.ptr A.length 0 1) = some b := fun a b c d => gD (es := [a, b, c, d]) (k := 4) rfl rfl
 have r2 : ∀ a b c d, ae false 1 (A ++ [.row 4 false [.agg [a, b, c, d]]]) (.ptr A.length 0 2) = some c := fun a b c d => gD (es := [a, b, c, d]) (k := 4) rfl rfl
 have r4 : ∀ a b c d, ae true 4 (A ++ [.row 4 false [.agg [a, b, c, d]]]) (.ptr A.length 0 0) = some (.agg [a, b, c, d]) := fun a b c d => rC (es := [a, b, c, d]) (k := 4) rfl (by omega)
 have s1 : ∀ a b c d z, aw 1 (A ++ [.row 4 false [.agg [a, b, c, d]]]) (.ptr A.length 0 1) (.int .i64 z) = some (A ++ [.row 4 false [.agg [a, .int .i64 z, c, d]]]) := fun a b c d z => sP (es := [a, b, c, d]) (k := 4) rfl (by omega) (by omega) rfl rfl
 have s2 : ∀ a b c d z, aw 1 (A ++ [.row 4 false [.agg [a, b, c, d]]]) (.ptr A.length 0 2) (.int .i64 z) = some (A ++ [.row 4 false [.agg [a, b, .int .i64 z, d]]]) := fun a b c d z => sP (es := [a, b, c, d]) (k := 4) rfl (by omega) (by omega) rfl rfl
 have s3 : ∀ a b c d z, aw 1 (A ++ [.row 4 false [.agg [a, b, c, d]]]) (.ptr A.length 0 3) (.int .i64 z) = some (A ++ [.row 4 false [.agg [a, b, c, .int .i64 z]]]) := fun a b c d z => sP (es := [a, b, c, d]) (k := 4) rfl (by omega) (by omega) rfl rfl
 have sA : ∀ a b c d x y z u, aw 4 (A ++ [.row 4 false [.agg [a, b, c, d]]]) (.ptr A.length 0 0) (.agg [.int .i64 x, .int .i64 y, .int .i64 z, .int .i64 u]) = some (A ++ [.row 4 false [.agg [.int .i64 x, .int .i64 y, .int .i64 z, .int .i64 u]]]) := fun a b c d x y z u => by simp [aw, aJ]
 have b0 := bc i o.length .i64
 rw [decide_eq_true hi] at b0
 have b1 := aK i (by omega)
 have b2 := bc (i + 1) o.length .i64
 have b3 : af .eql (.int .i64 bd) (.int .i64 2) = some (.bool (decide (bd = 2))) := ce _ _
 have b4 : af .add (.int .i64 t0) (.int .i64 1) = some (.int .i64 (t0 + 1)) := dj (by simp only at hch hb1; omega)
 have b6 : af .add (.int .i64 w) (.int .i64 tr) = some (.int .i64 (w + tr)) := dj (by simp only at htr; omega)
 obtain ⟨nx, hnx⟩ : ∃ x, x = mX o i := ⟨_, rfl⟩
 have b5 : af .neq (.int .i64 nx) (.int .i64 (t0 + 1)) = some (.bool (decide (nx ≠ t0 + 1))) := i9 _ _
 obtain ⟨ar, har⟩ : ∃ a, a = qd ⟨ch, pk, pl, tr, bd⟩ o i := ⟨_, rfl⟩
 have hae : ar = ⟨t0, nx, w + (if bd = 2 \/ nx ≠ t0 + 1 then tr else 0), if i + 1 < o.length then 0 else 1⟩ := by
  rw [har, hnx, htt, hww]; rfl
 have hgX := hg.app [.row 4 false [bM ar]]
 obtain ⟨B, k1, k2, k3, k4⟩ := Ba (fun _ _ _ => none) hgX (xs := [ar]) (by simp) (by simp; omega)
 refine ⟨B, ?_, ⟨by rw [k4 0 (by omega), List.getElem?_append_left ht0]; exact ht, by rw [k4 1 (by omega), List.getElem?_append_left h10]; exact h1, by rw [<- har]; exact k2⟩⟩
 rw [<- hww]
 have k1 : H45 (fun _ _ _ => none) [.ptr 2 0 0, .fs 4 [bM ar]] (A ++ [.row 4 false [bM ar]]) = some (.tup [], B) := k1
 rw [show bM ar = .agg [.int .i64 t0, .int .i64 nx, .int .i64 (w + (if bd = 2 \/ nx ≠ t0 + 1 then tr else 0)), .int .i64 (if i + 1 < o.length then 0 else 1)] by rw [hae]; rfl] at k1
 have hsl : ∀ x y z u : Int, br 4 [.agg [.int .i64 x, .int .i64 y, .int .i64 z, .int .i64 u]] = some (.fs 4 [.agg [.int .i64 x, .int .i64 y, .int .i64 z, .int .i64 u]]) := fun x y z u => rfl
 obtain ⟨N, hN⟩ : ∃ n, n = A.length := ⟨_, rfl⟩
 obtain ⟨i1, hi1⟩ : ∃ n, n = i + 1 := ⟨_, rfl⟩
 have x2 : i1 < o.length -> ∀ A, ab 1 A ov (.int .i64 (i1 : Int)) = some (.fp [.int .i64 nx]) := fun h A => by
  have e : o[i1]? = some nx := by rw [hnx, mX, if_pos (by omega), <- hi1, List.getD_eq_getElem?_getD, List.getElem?_eq_getElem h]; rfl
  exact ho.int (A := A) _ _ e .i64
 have hnx0 : ¬ i1 < o.length -> nx = 0 := fun h => by rw [hnx, mX, if_neg (by omega)]
 have bx : ∀ z, aV 4 (.agg [.int .i64 z, .int .i64 z, .int .i64 z, .int .i64 z]) A = some (.ptr N 0 0, A ++ [.row 4 false [.agg [.int .i64 z, .int .i64 z, .int .i64 z, .int .i64 z]]]) := fun z => by rw [hN]; rfl
 rw [<- hi1] at b1 b2 k1 ⊢
 rw [<- hN] at a1 a2 a3 r1 r2 r4 s1 s2 s3 sA
 obtain ⟨t1, ht1⟩ : ∃ x, x = t0 + 1 := ⟨_, rfl⟩
 rw [<- ht1] at b4 b5 k1
 obtain ⟨w1, hw1⟩ : ∃ x, x = w + tr := ⟨_, rfl⟩
 rw [<- hw1] at b6
 by_cases hc : i1 < o.length
 ·rw [decide_eq_true hc] at b2
  have x2 := x2 hc
  rw [if_pos hc] at k1
  by_cases hd : bd = 2
  ·rw [decide_eq_true hd] at b3
   rw [if_pos (.inl hd), <- hw1] at k1
   simp [fU, b0, b1, b2, b3, b6, x1, x2, ov0, hlen, t3, t4, l3, l4, a1, a2, a3, r2, r4, s1, s2, s3, sA, bx, hsl, k1, -af, -ae, -aw, -aa, -ab, -aj, -br, -aV]
  ·rw [decide_eq_false hd] at b3
   by_cases he : nx ≠ t1
   ·rw [decide_eq_true he] at b5
    rw [if_pos (.inr he), <- hw1] at k1
    simp [fU, b0, b1, b2, b3, b4, b5, b6, x1, x2, ov0, hlen, t3, t4, l3, l4, a1, a2, a3, r1, r2, r4, s1, s2, s3, sA, bx, hsl, k1, -af, -ae, -aw, -aa, -ab, -aj, -br, -aV]
   ·rw [decide_eq_false he] at b5
    rw [if_neg (fun h => h.elim hd he), Int.add_zero] at k1
    simp [fU, b0, b1, b2, b3, b4, b5, x1, x2, ov0, hlen, t4, l4, a1, a3, r1, r4, s1, s3, sA, bx, hsl, k1, -af, -ae, -aw, -aa, -ab, -aj, -br, -aV]
 ·rw [decide_eq_false hc] at b2
  have hnx0 := hnx0 hc
  rw [if_neg hc] at k1
  subst hnx0
  by_cases hd : bd = 2
  ·rw [decide_eq_true hd] at b3
   rw [if_pos (.inl hd), <- hw1] at k1
   simp [fU, b0, b1, b2, b3, b6, x1, ov0, hlen, t3, t4, l3, l4, a2, r2, r4, s2, sA, bx, hsl, k1, -af, -ae, -aw, -aa, -ab, -aj, -br, -aV]
  ·rw [decide_eq_false hd] at b3
   by_cases he : (0 : Int) ≠ t1
   ·rw [decide_eq_true he] at b5
    rw [if_pos (.inr he), <- hw1] at k1
    simp [fU, b0, b1, b2, b3, b4, b5, b6, x1, ov0, hlen, t3, t4, l3, l4, a1, a2, r1, r2, r4, s2, sA, bx, hsl, k1, -af, -ae, -aw, -aa, -ab, -aj, -br, -aV]
   ·rw [decide_eq_false he] at b5
    rw [if_neg (fun h => h.elim hd he), Int.add_zero] at k1
    simp [fU, b0, b1, b2, b3, b4, b5, x1, ov0, hlen, t4, l4, a1, r1, r4, sA, bx, hsl, k1, -af, -ae, -aw, -aa, -ab, -aj, -br, -aV]
def fnL (T : bD) : AV := if T.blades = 2 then .func (.func 68) [] [] else .func (.func 67) [] []
theorem zq {T : bD} (_hv : ez T) {o : List Int} {ov : AV} (ho : SlA 1 (ag o) ov) (hl : o.length <= 200) (j : Int) (hj : -1000 <= j /\ j <= 1000) (A : ac) : (au GC mq).call (fnL T) [ov, .int .i64 j] A = some (lkA (lkT T o j).1 (lkT T o j).2.1 (lkT T o j).2.2, A) := by
 have f1 : ∀ n, frz A n ov = ov := fun n => ho.frz n
 unfold fnL lkT
 split
 ·have m := EJ ov j
  simp [m, f1, lkA, aS, -frz]
 ·have m := EK ho hl hj
  simp [m, f1, lkA, aS, -frz]
theorem z0 (T : bD) (o : List Int) (j : Int) : (lkT T o j).2.2 = 0 \/ (lkT T o j).2.2 = 1 := by
 unfold lkT
 split
 ·exact .inr rfl
 ·simp only
  split
  ·exact .inr rfl
  ·exact .inl rfl
theorem yE {T : bD} {chv ov : AV} {o : List Int} (hO : o ∈ ax T) (hcv : SlA 2 (T.ch.map chA) chv) (ho : SlA 1 (ag o) ov) {A : ac} {l : List aW} (hI : I19 A T chv ov l) (hl : l.length <= 100) {i : Nat} (hi : i < T.ch.length) :
  ∃ B, run (au GC mq) 300 [.code kW] (mI (.ptr 1 0 0) (.int .i64 (cF T)) (.ptr 2 0 0) (fnL T) chv (.int .i64 (T.ch.length : Int)) (.int .i64 (i : Int))) A =
   some (.normal (mI (.ptr 1 0 0) (.int .i64 (cF T)) (.ptr 2 0 0) (fnL T) chv (.int .i64 (T.ch.length : Int)) (.int .i64 ((i + 1 : Nat) : Int))) B) /\ I19 B T chv ov (l ++ oh T o i) := by
 obtain ⟨hv, hol, _, _⟩ := bo hO
 have hw := jB hv
 have hch := hv.2.2.2.1
 obtain ⟨ht, h1, hg⟩ := hI
 have ht0 := (List.getElem?_eq_some_iff.1 ht).1
 have h10 := (List.getElem?_eq_some_iff.1 h1).1
 have hx0 : T.ch.getD i (0, 0) = T.ch[i] := by rw [List.getD_eq_getElem?_getD, List.getElem?_eq_getElem hi]; rfl
 have hxv := hv.1 _ (List.getElem_mem hi)
 have x1 : ∀ A, ab 2 A chv (.int .i64 (i : Int)) = some (.fp [.int .i64 (T.ch.getD i (0, 0)).1, .int .i64 (T.ch.getD i (0, 0)).2]) := fun A => by
  rw [hx0]
  exact hcv.index (A := A) (x := chA T.ch[i]) (by simp [hi]) rfl (by omega) .i64
 have cl := zq hv ho (by omega) ((i : Int) + 1) (by omega)
 have lb := z0 T o ((i : Int) + 1)
 have ha : oh T o i = oh T o i := rfl
 conv at ha => rhs; unfold oh
 rw [ha]
 obtain ⟨⟨k1, k2, k3⟩, hk⟩ : ∃ k, k = lkT T o ((i : Int) + 1) := ⟨_, rfl⟩
 rw [<- hk] at cl lb ⊢
 obtain ⟨⟨tm, sy⟩, hx⟩ : ∃ x, x = T.ch.getD i (0, 0) := ⟨_, rfl⟩
 rw [hx0] at hx
 rw [<- hx] at hxv
 rw [hx0, <- hx] at x1
 rw [hx0, <- hx]
 simp only [l8] at cl lb x1 hxv ⊢
 obtain ⟨w, hww⟩ : ∃ w, w = cF T := ⟨_, rfl⟩
 rw [<- hww] at hw ⊢
 have ov0 : ∀ X, ae false 1 (A ++ X) (.ptr 1 0 0) = some ov := fun X => by
  have h : (A ++ X)[1]? = some (.row 1 false [ov]) := by rw [List.getElem?_append_left h10]; exact h1
  rcases ho with ⟨rfl, _⟩ | rfl <;> simp [h]
 have b0 := bc i T.ch.length .i64
 rw [decide_eq_true hi] at b0
 have b1 := aK i (by omega)
 have b2 : af .add (.int .i64 (i : Int)) (.int .i64 1) = some (.int .i64 ((i : Int) + 1)) := dj (by omega)
 have b3 : af .add (.int .i64 w) (.int .i64 tm) = some (.int .i64 (w + tm)) := dj (by omega)
 have b4 : af .add (.int .i64 (w + tm)) (.int .i64 sy) = some (.int .i64 (w + tm + sy)) := dj (by omega)
 have b5 : pU .neg (.int .i64 (w + tm + sy)) = some (.int .i64 (-(w + tm + sy))) := qR (by omega)
 have b6 : pU .neg (.int .i64 k3) = some (.int .i64 (-k3)) := qR (by omega)
 obtain ⟨A1, hA1⟩ : ∃ X, X = A ++ [Ent.row 2 false [.agg [.int .i64 tm, .int .i64 sy]]] := ⟨_, rfl⟩
 have ov1 : ae false 1 A1 (.ptr 1 0 0) = some ov := by rw [hA1]; exact ov0 _
 have bx : aV 2 (.agg [.int .i64 0, .int .i64 0]) A = some (.ptr A.length 0 0, A ++ [.row 2 false [.agg [.int .i64 0, .int .i64 0]]]) := rfl
 have s0 : aw 2 (A ++ [.row 2 false [.agg [.int .i64 0, .int .i64 0]]]) (.ptr A.length 0 0) (.agg [.int .i64 tm, .int .i64 sy]) = some A1 := by simp [aw, aJ, hA1]
 have bx1 : aV 3 (.agg [.int .i64 0, .int .i64 0, .int .i64 0]) A1 = some (.ptr A1.length 0 0, A1 ++ [.row 3 false [.agg [.int .i64 0, .int .i64 0, .int .i64 0]]]) := rfl
 have s1 : aw 3 (A1 ++ [.row 3 false [.agg [.int .i64 0, .int .i64 0, .int .i64 0]]]) (.ptr A1.length 0 0) (lkA k1 k2 k3) = some (A1 ++ [.row 3 false [lkA k1 k2 k3]]) := by simp [aw, aJ, lkA]
 have hA1n : ∀ X, (A1 ++ X)[A.length]? = some (Ent.row 2 false [.agg [.int .i64 tm, .int .i64 sy]]) := fun X => by rw [List.getElem?_append_left (by rw [hA1]; simp), hA1]; simp
 have f0 : ∀ X, aa 0 (A1 ++ X) (.ptr A.length 0 0) = some (.ptr A.length 0 0) := fun X => by simp [aa, hA1n X]
 have f1 : ∀ X, aa 1 (A1 ++ X) (.ptr A.length 0 0) = some (.ptr A.length 0 1) := fun X => by simp [aa, hA1n X]
 have e0 : ∀ X, ae false 1 (A1 ++ X) (.ptr A.length 0 0) = some (.int .i64 tm) := fun X => by simp [ae, hA1n X, a0]
 have e1 : ∀ X, ae false 1 (A1 ++ X) (.ptr A.length 0 1) = some (.int .i64 sy) := fun X => by simp [ae, hA1n X, a0]
 have g0 : aa 0 (A1 ++ [.row 3 false [lkA k1 k2 k3]]) (.ptr A1.length 0 0) = some (.ptr A1.length 0 0) := gM (es := [.int .i64 k1, .int .i64 k2, .int .i64 k3]) (k := 3) rfl (by omega)
 have g1 : aa 1 (A1 ++ [.row 3 false [lkA k1 k2 k3]]) (.ptr A1.length 0 0) = some (.ptr A1.length 0 1) := gM (es := [.int .i64 k1, .int .i64 k2, .int .i64 k3]) (k := 3) rfl (by omega)
 have g2 : aa 2 (A1 ++ [.row 3 false [lkA k1 k2 k3]]) (.ptr A1.length 0 0) = some (.ptr A1.length 0 2) := gM (es := [.int .i64 k1, .int .i64 k2, .int .i64 k3]) (k := 3) rfl (by omega)
 have d0 : ae false 1 (A1 ++ [.row 3 false [lkA k1 k2 k3]]) (.ptr A1.length 0 0) = some (.int .i64 k1) := gD (es := [.int .i64 k1, .int .i64 k2, .int .i64 k3]) (k := 3) rfl rfl
 have d1 : ae false 1 (A1 ++ [.row 3 false [lkA k1 k2 k3]]) (.ptr A1.length 0 1) = some (.int .i64 k2) := gD (es := [.int .i64 k1, .int .i64 k2, .int .i64 k3]) (k := 3) rfl rfl
 have d2 : ae false 1 (A1 ++ [.row 3 false [lkA k1 k2 k3]]) (.ptr A1.length 0 2) = some (.int .i64 k3) := gD (es := [.int .i64 k1, .int .i64 k2, .int .i64 k3]) (k := 3) rfl rfl
 have hgX : GAt (A1 ++ [.row 3 false [lkA k1 k2 k3]]) 2 l := by rw [hA1]; exact (hg.app _).app _
 obtain ⟨B, q1, q2, q3, q4⟩ := Ba (fun _ _ _ => none) hgX (xs := [⟨k1, k2, w + tm, k3⟩, ⟨k2, k1, -(w + tm + sy), -k3⟩]) (by simp) (by simp; omega)
 have hA10 : ∀ j, j < A.length -> (A1 ++ [Ent.row 3 false [lkA k1 k2 k3]])[j]? = A[j]? := fun j hj => by
  rw [hA1, List.append_assoc, List.getElem?_append_left hj]
 refine ⟨B, ?_, ⟨by rw [q4 0 (by omega), hA10 0 ht0]; exact ht, by rw [q4 1 (by omega), hA10 1 h10]; exact h1, q2⟩⟩
 obtain ⟨w1, hw1⟩ : ∃ x, x = w + tm := ⟨_, rfl⟩
 rw [<- hw1] at b3 b4 b5 q1
 obtain ⟨w2, hw2⟩ : ∃ x, x = w1 + sy := ⟨_, rfl⟩
 rw [<- hw2] at b4 b5 q1
 obtain ⟨w3, hw3⟩ : ∃ x, x = -w2 := ⟨_, rfl⟩
 rw [<- hw3] at b5 q1
 obtain ⟨k4, hk4⟩ : ∃ x, x = -k3 := ⟨_, rfl⟩
 rw [<- hk4] at b6 q1
 have q1 : H45 (fun _ _ _ => none) [.ptr 2 0 0, .fs 4 [.agg [.int .i64 k1, .int .i64 k2, .int .i64 w1, .int .i64 k3], .agg [.int .i64 k2, .int .i64 k1, .int .i64 w3, .int .i64 k4]]] (A1 ++ [.row 3 false [lkA k1 k2 k3]]) = some (.tup [], B) := q1
 have hsl : br 4 [.agg [.int .i64 k1, .int .i64 k2, .int .i64 w1, .int .i64 k3], .agg [.int .i64 k2, .int .i64 k1, .int .i64 w3, .int .i64 k4]] = some (.fs 4 [.agg [.int .i64 k1, .int .i64 k2, .int .i64 w1, .int .i64 k3], .agg [.int .i64 k2, .int .i64 k1, .int .i64 w3, .int .i64 k4]]) := rfl
 have cl := cl A1
 obtain ⟨j1, hj1⟩ : ∃ x, x = (i : Int) + 1 := ⟨_, rfl⟩
 rw [<- hj1] at b2 cl
 obtain ⟨i1, hi1⟩ : ∃ n, n = i + 1 := ⟨_, rfl⟩
 have hj2 : j1 = (i1 : Int) := by omega
 subst hj2
 rw [<- hi1] at b1 ⊢
 obtain ⟨F, hF⟩ : ∃ F, F = fnL T := ⟨_, rfl⟩
 rw [<- hF] at cl ⊢
 obtain ⟨L, hL⟩ : ∃ L, L = lkA k1 k2 k3 := ⟨_, rfl⟩
 rw [<- hL] at cl s1 g0 g1 g2 d0 d1 d2 q1
 simp [kW, b0, b1, b3, b4, b5, b6, x1, ov1, bx, s0, bx1, s1, f0, f1, e0, e1, g0, g1, g2, d0, d1, d2, hsl, cl, q1, -af, -ae, -aw, -aa, -ab, -br, -aV, -pU]
def M19 : aT := fun args => evF (au GC mq) 300 yf 4 args
theorem qq : bk Try.prog GC 19 M19 := bk.of_ev (E := au GC mq) (av rK) rfl Ig xm 4 fun _ _ h => ⟨300, h⟩
def zx (r : Option (List aW)) : AV := .tup [slA 4 ((r.getD []).map bM), .int .i64 (if r.isSome then 0 else 130)]
theorem rj (T : bD) (o : List Int) (i : Nat) : ((List.range (i + 1)).map (qd T o)) = (List.range i).map (qd T o) ++ [qd T o i] := by
 rw [List.range_succ, List.map_append]; rfl
theorem nY (T : bD) (o : List Int) (i : Nat) : ((List.range (i + 1)).flatMap (oh T o)) = (List.range i).flatMap (oh T o) ++ oh T o i := by
 rw [List.range_succ, List.flatMap_append]; simp
theorem nX (T : bD) (o : List Int) (i : Nat) : ((List.range i).flatMap (oh T o)).length = 2 * i := by
 induction i with
 | zero => rfl
 | succ i ih => rw [nY, List.length_append, ih]; rfl
theorem Cm {T : bD} {chv ov : AV} {o : List Int} (hO : o ∈ ax T) (ho : SlA 1 (ag o) ov) : ∀ (c i : Nat) (A : ac) (m : Nat), i + c = o.length -> I19 A T chv ov ((List.range i).map (qd T o)) -> c < m ->
  ∃ B, bg (evC (au GC mq) 300 fU) jP m (mJ (.ptr 0 0 0) (.ptr 1 0 0) (.int .i64 (cF T)) (.ptr 2 0 0) ov (.int .i64 (o.length : Int)) (.int .i64 (i : Int))) A =
   some (.exit 0 ((mJ (.ptr 0 0 0) (.ptr 1 0 0) (.int .i64 (cF T)) (.ptr 2 0 0) ov (.int .i64 (o.length : Int)) (.int .i64 (o.length : Int))).set 19 (.bool false)) B) /\ I19 B T chv ov ((List.range o.length).map (qd T o)) := by
 obtain ⟨hv, hol, _, _⟩ := bo hO
 have hn4 := hv.2.2.2.1
 intro c
 induction c with
 | zero =>
  intro i A m hi hI hm
  obtain ⟨m, rfl⟩ : ∃ j, m = j + 1 := ⟨m - 1, by omega⟩
  obtain rfl : i = o.length := by omega
  refine ⟨A, ?_, hI⟩
  have b0 := bc o.length o.length .i64
  rw [decide_eq_false (by omega)] at b0
  rw [aQ, xI]
  simp [fU, b0, -af]
 | succ c ih =>
  intro i A m hi hI hm
  obtain ⟨m, rfl⟩ : ∃ j, m = j + 1 := ⟨m - 1, by omega⟩
  obtain ⟨B, h1, h2⟩ := yF hO ho hI (by simp; omega) (i := i) (by omega)
  rw [<- rj] at h2
  obtain ⟨C, h3, h4⟩ := ih (i + 1) B m (by omega) h2 (by omega)
  refine ⟨C, ?_, h4⟩
  rw [aQ, xI, h1]
  exact h3
theorem Cl {T : bD} {chv ov : AV} {o : List Int} (hO : o ∈ ax T) (hcv : SlA 2 (T.ch.map chA) chv) (ho : SlA 1 (ag o) ov) {l0 : List aW} (hl0 : l0.length <= 50) : ∀ (c i : Nat) (A : ac) (m : Nat), i + c = T.ch.length -> I19 A T chv ov (l0 ++ (List.range i).flatMap (oh T o)) -> c < m ->
  ∃ B, bg (evC (au GC mq) 300 kW) jO m (mI (.ptr 1 0 0) (.int .i64 (cF T)) (.ptr 2 0 0) (fnL T) chv (.int .i64 (T.ch.length : Int)) (.int .i64 (i : Int))) A =
   some (.exit 2 ((mI (.ptr 1 0 0) (.int .i64 (cF T)) (.ptr 2 0 0) (fnL T) chv (.int .i64 (T.ch.length : Int)) (.int .i64 (T.ch.length : Int))).set 25 (.bool false)) B) /\ I19 B T chv ov (l0 ++ (List.range T.ch.length).flatMap (oh T o)) := by
 obtain ⟨hv, hol, _, _⟩ := bo hO
 have hn4 := hv.2.2.2.1
 intro c
 induction c with
 | zero =>
  intro i A m hi hI hm
  obtain ⟨m, rfl⟩ : ∃ j, m = j + 1 := ⟨m - 1, by omega⟩
  obtain rfl : i = T.ch.length := by omega
  refine ⟨A, ?_, hI⟩
  have b0 := bc T.ch.length T.ch.length .i64
  rw [decide_eq_false (by omega)] at b0
  rw [aQ, xH]
  simp [kW, b0, -af]
 | succ c ih =>
  intro i A m hi hI hm
  obtain ⟨m, rfl⟩ : ∃ j, m = j + 1 := ⟨m - 1, by omega⟩
  obtain ⟨B, h1, h2⟩ := yE hO hcv ho hI (by rw [List.length_append, nX]; omega) (i := i) (by omega)
  rw [List.append_assoc, <- nY] at h2
  obtain ⟨C, h3, h4⟩ := ih (i + 1) B m (by omega) h2 (by omega)
  refine ⟨C, ?_, h4⟩
  rw [aQ, xH, h1]
  exact h3
theorem uc {T : bD} {chv ov : AV} {o : List Int} (hcv : SlA 2 (T.ch.map chA) chv) (hl : T.ch.length <= 200) (ho : SlA 1 (ag o) ov) : M19 [aD T chv, ov] = some (zx (ri T o)) := by
 have m14 := ud hcv hl
 have m41 := ES ho (ll := ax T)
 have ft := fun A => cO (T := T) (fun A n => hcv.frz (A := A) n) A 3
 have fo : ∀ A n, frz A n ov = ov := fun A n => ho.frz n
 have fO : ∀ A, frz A 4 (eY (ax T)) = eY (ax T) := fun A => (aI 1 _).frz 4
 have nO : be 4 (eY (ax T)) = true := (aI 1 _).noRef 4
 have lt : ∀ X, ae true 5 (.row 5 false [aD T chv] :: X) (.ptr 0 0 0) = some (aD T chv) := fun X => rfl
 have lo : ∀ a X, ae false 1 (a :: .row 1 false [ov] :: X) (.ptr 1 0 0) = some ov := fun a X => by
  rcases ho with ⟨rfl, _⟩ | rfl <;> simp
 have fF : frz [.row 5 false [aD T chv], .row 1 false [ov]] 4 (.func (.func 42) [] [.ptr 1 0 0]) = fnO ov := by
  have : cellsOf ov = [ov] := by rcases ho with ⟨rfl, _⟩ | rfl <;> rfl
  have hs : ov.solid = true := by rcases ho with ⟨rfl, _⟩ | rfl <;> rfl
  simp [frz, this, fo, fnO, hs, -cellsOf, -AV.solid]
 have bx0 : aV 5 (aD T chv) [] = some (.ptr 0 0 0, [.row 5 false [aD T chv]]) := rfl
 have bx1 : aV 1 ov [.row 5 false [aD T chv]] = some (.ptr 1 0 0, [.row 5 false [aD T chv], .row 1 false [ov]]) := by
  rcases ho with ⟨rfl, _⟩ | rfl <;> rfl
 have bx2 : ∀ t : AV, aV 1 .nilS [.row 5 false [t], .row 1 false [ov]] = some (.ptr 2 0 0, [.row 5 false [t], .row 1 false [ov], .row 1 false [.nilS]]) := fun t => rfl
 unfold M19 ri
 rw [cU _ _ rfl]
 by_cases hO : o ∈ ax T
 ·obtain ⟨hv, hol, _, _⟩ := bo hO
  have hn4 := hv.2.2.2.1
  have m41 := m41 (Nat.le_trans (eh T) (by omega)) (fun l hl => by have := (bo hl).2.1; omega)
  rw [decide_eq_true hO] at m41
  rw [if_pos hO]
  have m44 := EQ chv hv
  have l4 : ∀ X, aa 4 (.row 5 false [aD T chv] :: X) (.ptr 0 0 0) = some (.ptr 0 0 4) := fun X => rfl
  have e0 : ∀ X, aa 0 (.row 5 false [aD T chv] :: X) (.ptr 0 0 0) = some (.ptr 0 0 0) := fun X => rfl
  obtain ⟨B1, h1, h2⟩ := Cm hO ho (chv := chv) o.length 0 [.row 5 false [aD T chv], .row 1 false [ov], .row 1 false [.nilS]] 300 (by omega) ⟨rfl, rfl, ⟨.nilS, rfl, .inl ⟨rfl, rfl⟩⟩⟩ (by omega)
  have hB1 : ∀ {x}, B1[0]? = x -> B1[0]? = x := id
  have l4b : aa 4 B1 (.ptr 0 0 0) = some (.ptr 0 0 4) := by simp [aa, h2.t]
  have l4c : ae false 1 B1 (.ptr 0 0 4) = some (.int .i64 T.blades) := by simp [ae, h2.t, aD, a0]
  have l0b : aa 0 B1 (.ptr 0 0 0) = some (.ptr 0 0 0) := by simp [aa, h2.t]
  have l0c : ae false 1 B1 (.ptr 0 0 0) = some chv := by simp [ae, h2.t, aD, a0]
  have iv : f6 false 3 1 Cw (.int .i64 T.blades) = some (fnL T) := by
   rcases hv.2.2.2.2 with h | h <;> rw [h] <;> unfold fnL <;> rw [h] <;> rfl
  have hlen := hcv.len
  rw [List.length_map] at hlen
  have hlo := ho.len
  rw [aA] at hlo
  have h2' : I19 B1 T chv ov ((List.range o.length).map (qd T o) ++ (List.range 0).flatMap (oh T o)) := by simpa using h2
  obtain ⟨B2, h3, h4⟩ := Cl hO hcv ho (l0 := (List.range o.length).map (qd T o)) (by simp; omega) T.ch.length 0 B1 300 (by omega) h2' (by omega)
  obtain ⟨v, g1, g2, g3⟩ := h4.g.frz
  have g2 := g2 0
  have g3 := g3 0
  obtain ⟨R, hR⟩ : ∃ R, R = slA 4 ((aR T o).map bM) := ⟨_, rfl⟩
  rw [show (List.range o.length).map (qd T o) ++ (List.range T.ch.length).flatMap (oh T o) = aR T o from rfl, <- hR] at g2
  have hRR : zx (some (aR T o)) = .tup [R, .int .i64 0] := by rw [hR]; rfl
  rw [hRR]
  have h1 : bg (evC (au GC mq) 300 fU) jP 300 (mJ (.ptr 0 0 0) (.ptr 1 0 0) (.int .i64 (cF T)) (.ptr 2 0 0) ov (.int .i64 (o.length : Int)) (.int .i64 0)) [.row 5 false [aD T chv], .row 1 false [ov], .row 1 false [.nilS]] = _ := h1
  have h3 : bg (evC (au GC mq) 300 kW) jO 300 (mI (.ptr 1 0 0) (.int .i64 (cF T)) (.ptr 2 0 0) (fnL T) chv (.int .i64 (T.ch.length : Int)) (.int .i64 0)) B1 = _ := h3
  obtain ⟨t, htt⟩ : ∃ t, t = aD T chv := ⟨_, rfl⟩
  obtain ⟨F, hF⟩ : ∃ F, F = fnL T := ⟨_, rfl⟩
  obtain ⟨Q, hQ⟩ : ∃ F, F = eY (ax T) := ⟨_, rfl⟩
  obtain ⟨w, hw⟩ : ∃ F, F = cF T := ⟨_, rfl⟩
  rw [<- htt] at m14 ft lt fF bx0 bx1 m44 h1 ⊢
  rw [<- hF] at iv h3
  rw [<- hQ] at m14 m41 fO nO
  rw [<- hw] at m44 h1 h3
  have cb : ∀ x : AV, (cellsOf x).length = (cellsOf x).length := fun _ => rfl
  have ct : (cellsOf t).length = 5 := by rw [htt]; rfl
  have co : (cellsOf ov).length = 1 := by rcases ho with ⟨rfl, _⟩ | rfl <;> rfl
  have fT : frz B2 4 (.tup [v, .int .i64 0]) = .tup [R, .int .i64 0] := by
   rw [<- g2]; rfl
  have rT : aY B2 4 (.tup [v, .int .i64 0]) = true := by
   have g3 : aY B2 3 v = true := g3
   simp [aY, g3]
  simp [yf, bx0, bx1, bx2, fT, rT, ct, co, lt, lo, m14, m41, m44, ft, fO, nO, fF, DS h1, DR h3, l4b, l4c, l0b, l0c, iv, hlen, hlo, x7, g1, -aV, -ae, -aa, -aj, -frz, -cellsOf]
 ·have hll : (ax T).length <= 256 := eh T
  have m41 := m41 hll (fun l hl => by have := bo hl; have := this.1.2.2.2.1; omega)
  rw [decide_eq_false hO] at m41
  rw [if_neg hO]
  obtain ⟨t, htt⟩ : ∃ t, t = aD T chv := ⟨_, rfl⟩
  obtain ⟨Q, hQ⟩ : ∃ F, F = eY (ax T) := ⟨_, rfl⟩
  rw [<- htt] at m14 ft lt fF bx0 bx1 ⊢
  rw [<- hQ] at m14 m41 fO nO
  have ct : (cellsOf t).length = 5 := by rw [htt]; rfl
  have co : (cellsOf ov).length = 1 := by rcases ho with ⟨rfl, _⟩ | rfl <;> rfl
  have fT : ∀ A, frz A 4 (.tup [.nilS, .int .i64 130]) = .tup [.nilS, .int .i64 130] := fun A => rfl
  have rT : ∀ A, aY A 4 (.tup [.nilS, .int .i64 130]) = true := fun A => rfl
  simp [yf, bx0, bx1, fT, rT, ct, co, lt, m14, m41, ft, fO, nO, fF, -aV, -ae, -aa, -aj, -frz, -cellsOf]
  rfl
end Go.Proofs.Ytemklhljjaniaaa
