import Derived.Test.YtemklhljjaniaaaU06
import Derived.Test.YtemklhljjaniaaaU05
import Derived.Test.YtemklhljjaniaaaChecked
import Derived.KernelRfl
import Derived.Test.YtemklhljjaniaaaU03
set_option maxRecDepth 100000
set_option maxHeartbeats 4000000
noncomputable section
namespace Go.Proofs.Ytemklhljjaniaaa
open Go
open Cy (GC aW bM aX a8 okA smM smT lvM lvT bY ck a6 aS aZ aA cy)
def uH : List (FuncId × aL) := [(29, aF 4 M29), (47, aF 4 M47), (48, aF 4 M48)]
@[simp] theorem Ha : aB uH 29 = some (aF 4 M29) := rfl
@[simp] theorem G7 : aB uH 47 = some (aF 4 M47) := rfl
@[simp] theorem G6 : aB uH 48 = some (aF 4 M48) := rfl
theorem pC : ∀ f M, aB uH f = some M -> an Try.prog GC f M := ak (an.of_pure vt 4) (ak (an.of_pure vj 4) (ak (an.of_pure Dp 4) az))
def G20 (A : ac) (T : bD) (chv v : AV) (l : List aW) : Prop :=
 A[0]? = some (.row 5 false [aD T chv]) /\ ((v = .nilS /\ l = []) \/ ∃ id gr, v = .sl id 0 l.length /\ l ≠ [] /\ 0 < id /\ A[id]? = some (.row 4 gr (l.map bM)))
theorem G20.app {A : ac} {T : bD} {chv v : AV} {l : List aW} (h : G20 A T chv v l) (X : ac) : G20 (A ++ X) T chv v l := by
 have hk : ∀ (j : Nat) (e : Ent), A[j]? = some e -> (A ++ X)[j]? = some e := fun j e h => by
  rw [List.getElem?_append_left (List.getElem?_eq_some_iff.1 h).1]; exact h
 refine ⟨hk _ _ h.1, ?_⟩
 rcases h.2 with h2 | ⟨id, gr, e1, e2, e3, e4⟩
 ·exact .inl h2
 ·exact .inr ⟨id, gr, e1, e2, e3, hk _ _ e4⟩
theorem G20.add {A : ac} {T : bD} {chv v : AV} {l : List aW} (h : G20 A T chv v l) {xs : List aW} (hx : xs ≠ []) (hb : l.length + xs.length <= 1000) : ∃ v' B, aH 4 32 A v (.fs 4 (xs.map bM)) = some (v', B) /\ G20 B T chv v' (l ++ xs) := by
 have hxl : 0 < xs.length := List.length_pos_iff.2 hx
 have h0 := (List.getElem?_eq_some_iff.1 h.1).1
 rcases h.2 with ⟨rfl, rfl⟩ | ⟨id, gr, rfl, hl, hid, hr⟩
 ·refine ⟨.sl A.length 0 xs.length, A ++ [.row 4 false (xs.map bM)], ?_, ?_, .inr ⟨A.length, false, rfl, hx, h0, by simp⟩⟩
  ·simp only [aH, eX, List.length_map]
   rw [if_neg (by omega), if_pos ⟨by omega, by omega, by simp at hb; omega⟩]
  ·rw [List.getElem?_append_left h0]; exact h.1
 ·have hlz : l.length ≠ 0 := fun e => hl (List.length_eq_zero_iff.1 e)
  have hidl := (List.getElem?_eq_some_iff.1 hr).1
  refine ⟨.sl id 0 (l.length + xs.length), A.set id (.row 4 true (l.map bM ++ xs.map bM)), ?_, ?_, .inr ⟨id, true, by simp, by simp [hl], hid, ?_⟩⟩
  ·simp only [aH, eX, List.length_map, hr]
   rw [if_pos ⟨trivial, by omega, by omega, by omega⟩, if_pos ⟨trivial, trivial, hlz⟩]
  ·rw [List.getElem?_set_ne (by omega)]; exact h.1
  ·rw [List.getElem?_set_self hidl]; simp
theorem G20.frz {A : ac} {T : bD} {chv v : AV} {l : List aW} (h : G20 A T chv v l) : (∀ k, Proofs.Ytemklhljjaniaaa.frz A (k + 3) v = slA 4 (l.map bM)) /\ ∀ k, aY A (k + 3) v = true := by
 rcases h.2 with ⟨rfl, rfl⟩ | ⟨id, gr, rfl, hl, hid, hr⟩
 ·exact ⟨fun k => rfl, fun k => rfl⟩
 ·have e : ((l.map bM).drop 0).take l.length = l.map bM := by
   rw [List.drop_zero]
   conv => lhs; rw [show l.length = (l.map bM).length by simp]
   rw [List.take_length]
  refine ⟨fun k => ?_, fun k => ?_⟩
  ·have hm : (l.map bM).map (Proofs.Ytemklhljjaniaaa.frz A (k + 2)) = l.map bM := by
    rw [List.map_map]
    exact List.map_congr_left fun x _ => by simp [bM, Proofs.Ytemklhljjaniaaa.frz]
   rw [show k + 3 = (k + 2) + 1 from rfl]
   simp only [Proofs.Ytemklhljjaniaaa.frz, hr]
   rw [e, hm]
   cases l with
   | nil => exact absurd rfl hl
   | cons x r => rfl
  ·rw [show k + 3 = (k + 2) + 1 from rfl]
   simp only [aY, hr]
   rw [e, List.all_eq_true]
   intro y hy
   obtain ⟨x, _, rfl⟩ := List.mem_map.1 hy
   simp [bM, aY]
theorem lY {T : bD} {chv ov : AV} {o : List Int} (hO : o ∈ ax T) (ho : SlA 1 (ag o) ov) {A : ac} {v : AV} {l : List aW} (hI : G20 A T chv v l) (hl : l.length <= 100) {i : Nat} (hi : i < o.length) :
  ∃ v' B, run (au GC uH) 300 [.code c9] (eI ov (.ptr 0 0 0) (.int .i64 (cF T)) v (.int .i64 (i : Int))) A =
   some (.normal (eI ov (.ptr 0 0 0) (.int .i64 (cF T)) v' (.int .i64 ((i + 1 : Nat) : Int))) B) /\ G20 B T chv v' (l ++ [qd T o i]) := by
 obtain ⟨hv, hol, _, _⟩ := bo hO
 have hbd := fL hO
 have hw := jB hv
 have hch := hv.2.2.2.1
 have htr := hv.2.1.2.2
 have ht := hI.1
 have ht0 := (List.getElem?_eq_some_iff.1 ht).1
 have hlen := ho.len
 rw [aA] at hlen
 have x1 := fun A => ho.int (A := A) _ _ (List.getElem?_eq_getElem hi) .i64
 have ho1 : o[i] = o.getD i 0 := by rw [List.getD_eq_getElem?_getD, List.getElem?_eq_getElem hi]; rfl
 have hb1 := hbd o[i] (List.getElem_mem hi)
 obtain ⟨t0, htt⟩ : ∃ t, t = o.getD i 0 := ⟨_, rfl⟩
 rw [ho1, <- htt] at x1 hb1
 obtain ⟨w, hww⟩ : ∃ w, w = cF T := ⟨_, rfl⟩
 obtain ⟨ch, pk, pl, tr, bd⟩ := T
 have ht : A[0]? = some (.row 5 false [.agg [chv, .int .i64 pk, .int .i64 pl, .int .i64 tr, .int .i64 bd]]) := ht
 have tl : ∀ X, (A ++ X)[0]? = some (.row 5 false [.agg [chv, .int .i64 pk, .int .i64 pl, .int .i64 tr, .int .i64 bd]]) := fun X => by rw [List.getElem?_append_left ht0]; exact ht
 have t3 : ∀ X, aa 3 (A ++ X) (.ptr 0 0 0) = some (.ptr 0 0 3) := fun X => by simp [aa, tl X]
 have t4 : ∀ X, aa 4 (A ++ X) (.ptr 0 0 0) = some (.ptr 0 0 4) := fun X => by simp [aa, tl X]
 have l3 : ∀ X, ae false 1 (A ++ X) (.ptr 0 0 3) = some (.int .i64 tr) := fun X => by simp [ae, tl X, a0]
 have l4 : ∀ X, ae false 1 (A ++ X) (.ptr 0 0 4) = some (.int .i64 bd) := fun X => by simp [ae, tl X, a0]
 have a2 : ∀ a b c d, aa 2 (A ++ [.row 4 false [.agg [a, b, c, d]]]) (.ptr A.length 0 0) = some (.ptr A.length 0 2) := fun a b c d => gM (es := [a, b, c, d]) (k := 4) rfl (by omega)
 have r2 : ∀ a b c d, ae false 1 (A ++ [.row 4 false [.agg [a, b, c, d]]]) (.ptr A.length 0 2) = some c := fun a b c d => gD (es := [a, b, c, d]) (k := 4) rfl rfl
 have r4 : ∀ a b c d, ae true 4 (A ++ [.row 4 false [.agg [a, b, c, d]]]) (.ptr A.length 0 0) = some (.agg [a, b, c, d]) := fun a b c d => rC (es := [a, b, c, d]) (k := 4) rfl (by omega)
 have s2 : ∀ a b c d z, aw 1 (A ++ [.row 4 false [.agg [a, b, c, d]]]) (.ptr A.length 0 2) (.int .i64 z) = some (A ++ [.row 4 false [.agg [a, b, .int .i64 z, d]]]) := fun a b c d z => sP (es := [a, b, c, d]) (k := 4) rfl (by omega) (by omega) rfl rfl
 have sA : ∀ a b c d x y z u, aw 4 (A ++ [.row 4 false [.agg [a, b, c, d]]]) (.ptr A.length 0 0) (.agg [.int .i64 x, .int .i64 y, .int .i64 z, .int .i64 u]) = some (A ++ [.row 4 false [.agg [.int .i64 x, .int .i64 y, .int .i64 z, .int .i64 u]]]) := fun a b c d x y z u => by simp [aw, aJ]
 have b0 := bc i o.length .i64
 rw [decide_eq_true hi] at b0
 have b1 := aK i (by omega)
 have b2 := bc (i + 1) o.length .i64
 have b3 : af .eql (.int .i64 bd) (.int .i64 2) = some (.bool (decide (bd = 2))) := ce _ _
 have b4 : af .add (.int .i64 t0) (.int .i64 1) = some (.int .i64 (t0 + 1)) := dj (by simp only at hch hb1; omega)
 have b6 : af .add (.int .i64 w) (.int .i64 tr) = some (.int .i64 (w + tr)) := dj (by simp only at htr; omega)
 obtain ⟨nx, hnx⟩ : ∃ x, x = mX o i := ⟨_, rfl⟩
 have b5 : af .neq (.int .i64 nx) (.int .i64 (t0 + 1)) = some (.bool (decide (nx ≠ t0 + 1))) := i9 _ _
 obtain ⟨ar, har⟩ : ∃ a, a = qd ⟨ch, pk, pl, tr, bd⟩ o i := ⟨_, rfl⟩
 have hae : ar = ⟨t0, nx, w + (if bd = 2 \/ nx ≠ t0 + 1 then tr else 0), if i + 1 < o.length then 0 else 1⟩ := by
  rw [har, hnx, htt, hww]; rfl
 obtain ⟨v', B, k1, k2⟩ := (hI.app [.row 4 false [bM ar]]).add (xs := [ar]) (by simp) (by simp; omega)
 refine ⟨v', B, ?_, by rw [<- har]; exact k2⟩
 rw [<- hww]
 have k1 : aH 4 32 (A ++ [.row 4 false [bM ar]]) v (.fs 4 [bM ar]) = some (v', B) := k1
 rw [show bM ar = .agg [.int .i64 t0, .int .i64 nx, .int .i64 (w + (if bd = 2 \/ nx ≠ t0 + 1 then tr else 0)), .int .i64 (if i + 1 < o.length then 0 else 1)] by rw [hae]; rfl] at k1
 have hsl : ∀ x y z u : Int, br 4 [.agg [.int .i64 x, .int .i64 y, .int .i64 z, .int .i64 u]] = some (.fs 4 [.agg [.int .i64 x, .int .i64 y, .int .i64 z, .int .i64 u]]) := fun x y z u => rfl
 obtain ⟨N, hN⟩ : ∃ n, n = A.length := ⟨_, rfl⟩
 obtain ⟨i1, hi1⟩ : ∃ n, n = i + 1 := ⟨_, rfl⟩
 have x2 : i1 < o.length -> ∀ A, ab 1 A ov (.int .i64 (i1 : Int)) = some (.fp [.int .i64 nx]) := fun h A => by
  have e : o[i1]? = some nx := by rw [hnx, mX, if_pos (by omega), <- hi1, List.getD_eq_getElem?_getD, List.getElem?_eq_getElem h]; rfl
  exact ho.int (A := A) _ _ e .i64
 have hnx0 : ¬ i1 < o.length -> nx = 0 := fun h => by rw [hnx, mX, if_neg (by omega)]
 have bx : ∀ z, aV 4 (.agg [.int .i64 z, .int .i64 z, .int .i64 z, .int .i64 z]) A = some (.ptr N 0 0, A ++ [.row 4 false [.agg [.int .i64 z, .int .i64 z, .int .i64 z, .int .i64 z]]]) := fun z => by rw [hN]; rfl
 rw [<- hi1] at b1 b2 k1 ⊢
 rw [<- hN] at a2 r2 r4 s2 sA
 obtain ⟨t1, ht1⟩ : ∃ x, x = t0 + 1 := ⟨_, rfl⟩
 rw [<- ht1] at b4 b5 k1
 obtain ⟨w1, hw1⟩ : ∃ x, x = w + tr := ⟨_, rfl⟩
 rw [<- hw1] at b6
 by_cases hc : i1 < o.length
 ·rw [decide_eq_true hc] at b2
  have x2 := x2 hc
  rw [if_pos hc] at k1
  by_cases hd : bd = 2
  ·rw [decide_eq_true hd] at b3
   rw [if_pos (.inl hd), <- hw1] at k1
   simp [c9, b0, b1, b2, b3, b6, x1, x2, hlen, t3, t4, l3, l4, a2, r2, r4, s2, sA, bx, hsl, k1, -af, -ae, -aw, -aa, -ab, -aj, -br, -aV]
  ·rw [decide_eq_false hd] at b3
   by_cases he : nx ≠ t1
   ·rw [decide_eq_true he] at b5
    rw [if_pos (.inr he), <- hw1] at k1
    simp [c9, b0, b1, b2, b3, b4, b5, b6, x1, x2, hlen, t3, t4, l3, l4, a2, r2, r4, s2, sA, bx, hsl, k1, -af, -ae, -aw, -aa, -ab, -aj, -br, -aV]
   ·rw [decide_eq_false he] at b5
    rw [if_neg (fun h => h.elim hd he), Int.add_zero] at k1
    simp [c9, b0, b1, b2, b3, b4, b5, x1, x2, hlen, t4, l4, r4, sA, bx, hsl, k1, -af, -ae, -aw, -aa, -ab, -aj, -br, -aV]
 ·rw [decide_eq_false hc] at b2
  rw [if_neg hc] at k1
  have hnx0 := hnx0 hc
  rw [hnx0] at b5 k1
  by_cases hd : bd = 2
  ·rw [decide_eq_true hd] at b3
   rw [if_pos (.inl hd), <- hw1] at k1
   simp [c9, b0, b1, b2, b3, b6, x1, hlen, t3, t4, l3, l4, a2, r2, r4, s2, sA, bx, hsl, k1, -af, -ae, -aw, -aa, -ab, -aj, -br, -aV]
  ·rw [decide_eq_false hd] at b3
   by_cases he : (0 : Int) ≠ t1
   ·rw [decide_eq_true he] at b5
    rw [if_pos (.inr he), <- hw1] at k1
    simp [c9, b0, b1, b2, b3, b4, b5, b6, x1, hlen, t3, t4, l3, l4, a2, r2, r4, s2, sA, bx, hsl, k1, -af, -ae, -aw, -aa, -ab, -aj, -br, -aV]
   ·rw [decide_eq_false he] at b5
    rw [if_neg (fun h => h.elim hd he), Int.add_zero] at k1
    simp [c9, b0, b1, b2, b3, b4, b5, x1, hlen, t4, l4, r4, sA, bx, hsl, k1, -af, -ae, -aw, -aa, -ab, -aj, -br, -aV]
theorem lX {T : bD} {chv ov : AV} {o : List Int} (hO : o ∈ ax T) (hcv : SlA 2 (T.ch.map chA) chv) (ho : SlA 1 (ag o) ov) {A : ac} {v : AV} {l : List aW} (hI : G20 A T chv v l) (hl : l.length <= 100) {i : Nat} (hi : i < T.ch.length) :
  ∃ v' B, run (au GC uH) 300 [.code dq] (eH ov (.ptr 0 0 0) (.int .i64 (cF T)) v (.int .i64 ((i + 1 : Nat) : Int))) A =
   some (.normal (eH ov (.ptr 0 0 0) (.int .i64 (cF T)) v' (.int .i64 ((i + 1 + 1 : Nat) : Int))) B) /\ G20 B T chv v' (l ++ oh T o i) := by
 obtain ⟨hv, hol, _, _⟩ := bo hO
 have hw := jB hv
 have hch := hv.2.2.2.1
 have ht := hI.1
 have ht0 := (List.getElem?_eq_some_iff.1 ht).1
 have hlen := hcv.len
 rw [List.length_map] at hlen
 have hx0 : T.ch.getD i (0, 0) = T.ch[i] := by rw [List.getD_eq_getElem?_getD, List.getElem?_eq_getElem hi]; rfl
 have hxv := hv.1 _ (List.getElem_mem hi)
 have x1 : ∀ A, ab 2 A chv (.int .i64 (i : Int)) = some (.fp [.int .i64 (T.ch.getD i (0, 0)).1, .int .i64 (T.ch.getD i (0, 0)).2]) := fun A => by
  rw [hx0]
  exact hcv.index (A := A) (x := chA T.ch[i]) (by simp [hi]) rfl (by omega) .i64
 have m1 := t8 ho (by omega) ((i + 1 : Nat) : Int)
 have m2 := t8 ho (by omega) (i : Int)
 have fo : ∀ A n, frz A n ov = ov := fun A n => ho.frz n
 have fi : ∀ (A : ac) (z : Int), frz A 4 (.int .i64 z) = .int .i64 z := fun A z => aS A 4 .i64 z
 have b7 := ed (cy (isI ((i + 1 : Nat) : Int)) o) (cy (isI (i : Int)) o)
 obtain ⟨X, hX⟩ : ∃ x, x = cy (isI ((i + 1 : Nat) : Int)) o := ⟨_, rfl⟩
 obtain ⟨Y, hY⟩ : ∃ x, x = cy (isI (i : Int)) o := ⟨_, rfl⟩
 have hk : lkT T o ((i : Int) + 1) = if T.blades = 2 then (((i + 1 : Nat) : Int), ((i + 1 : Nat) : Int), 1) else ((i : Int), ((i + 1 : Nat) : Int), if X < Y then 1 else 0) := by
  unfold lkT
  rw [show (i : Int) + 1 - 1 = (i : Int) by omega, show (i : Int) + 1 = ((i + 1 : Nat) : Int) by omega, hX, hY]
 rw [<- hX] at m1 b7
 rw [<- hY] at m2 b7
 obtain ⟨⟨tm, sy⟩, hx⟩ : ∃ x, x = T.ch.getD i (0, 0) := ⟨_, rfl⟩
 have ha : oh T o i = [⟨(lkT T o (i + 1)).1, (lkT T o (i + 1)).2.1, cF T + tm, (lkT T o (i + 1)).2.2⟩, ⟨(lkT T o (i + 1)).2.1, (lkT T o (i + 1)).1, -(cF T + tm + sy), -(lkT T o (i + 1)).2.2⟩] := by
  unfold oh; rw [<- hx]
 rw [hx0] at hx
 rw [<- hx] at hxv
 rw [hx0, <- hx] at x1
 simp only [l8] at x1 hxv
 obtain ⟨w, hww⟩ : ∃ w, w = cF T := ⟨_, rfl⟩
 rw [<- hww] at hw ha ⊢
 have b0 : af .leq (.int .i64 ((i + 1 : Nat) : Int)) (.int .i64 (T.ch.length : Int)) = some (.bool true) := by rw [lw, decide_eq_true (by omega)]
 have b1 := aK (i + 1) (by omega)
 have b2 : af .sub (.int .i64 ((i + 1 : Nat) : Int)) (.int .i64 1) = some (.int .i64 (i : Int)) := by rw [ij (by omega)]; congr 2; omega
 have b3 : af .add (.int .i64 w) (.int .i64 tm) = some (.int .i64 (w + tm)) := dj (by omega)
 have b4 : af .add (.int .i64 (w + tm)) (.int .i64 sy) = some (.int .i64 (w + tm + sy)) := dj (by omega)
 have b5 : pU .neg (.int .i64 (w + tm + sy)) = some (.int .i64 (-(w + tm + sy))) := qR (by omega)
 have n1 : pU .neg (.int .i64 1) = some (.int .i64 (-1)) := qR (by omega)
 have n0 : pU .neg (.int .i64 0) = some (.int .i64 0) := qR (a := 0) (by omega)
 have b8 : af .eql (.int .i64 T.blades) (.int .i64 2) = some (.bool (decide (T.blades = 2))) := ce _ _
 have bx : aV 2 (.agg [.int .i64 0, .int .i64 0]) A = some (.ptr A.length 0 0, A ++ [.row 2 false [.agg [.int .i64 0, .int .i64 0]]]) := rfl
 obtain ⟨A1, hA1⟩ : ∃ X, X = A ++ [Ent.row 2 false [.agg [.int .i64 tm, .int .i64 sy]]] := ⟨_, rfl⟩
 have s0 : aw 2 (A ++ [.row 2 false [.agg [.int .i64 0, .int .i64 0]]]) (.ptr A.length 0 0) (.agg [.int .i64 tm, .int .i64 sy]) = some A1 := by simp [aw, aJ, hA1]
 have f0 : aa 0 A1 (.ptr A.length 0 0) = some (.ptr A.length 0 0) := by rw [hA1]; exact gM (es := [.int .i64 tm, .int .i64 sy]) (k := 2) rfl (by omega)
 have f1 : aa 1 A1 (.ptr A.length 0 0) = some (.ptr A.length 0 1) := by rw [hA1]; exact gM (es := [.int .i64 tm, .int .i64 sy]) (k := 2) rfl (by omega)
 have e0 : ae false 1 A1 (.ptr A.length 0 0) = some (.int .i64 tm) := by rw [hA1]; exact gD (es := [.int .i64 tm, .int .i64 sy]) (k := 2) rfl rfl
 have e1 : ae false 1 A1 (.ptr A.length 0 1) = some (.int .i64 sy) := by rw [hA1]; exact gD (es := [.int .i64 tm, .int .i64 sy]) (k := 2) rfl rfl
 have tl : ∀ X, (A ++ X)[0]? = some (.row 5 false [aD T chv]) := fun X => by rw [List.getElem?_append_left ht0]; exact ht
 have t0 : aa 0 A (.ptr 0 0 0) = some (.ptr 0 0 0) := by simp [aa, ht]
 have l0 : ae false 1 A (.ptr 0 0 0) = some chv := by simp [ae, ht, aD, a0]
 have t4 : aa 4 A1 (.ptr 0 0 0) = some (.ptr 0 0 4) := by rw [hA1]; simp only [aa, tl]; rfl
 have l4 : ae false 1 A1 (.ptr 0 0 4) = some (.int .i64 T.blades) := by rw [hA1]; simp only [ae, tl]; simp [aD, a0]
 obtain ⟨v', B, q1, q2⟩ := (hI.app [Ent.row 2 false [.agg [.int .i64 tm, .int .i64 sy]]]).add (xs := oh T o i) (by rw [ha]; simp) (by rw [ha]; simp; omega)
 refine ⟨v', B, ?_, q2⟩
 rw [<- hA1, ha, hk] at q1
 obtain ⟨N, hN⟩ : ∃ n, n = A.length := ⟨_, rfl⟩
 rw [<- hN] at bx s0 f0 f1 e0 e1
 obtain ⟨w1, hw1⟩ : ∃ x, x = w + tm := ⟨_, rfl⟩
 rw [<- hw1] at b3 b4 b5 q1
 obtain ⟨w2, hw2⟩ : ∃ x, x = w1 + sy := ⟨_, rfl⟩
 rw [<- hw2] at b4 b5 q1
 obtain ⟨w3, hw3⟩ : ∃ x, x = -w2 := ⟨_, rfl⟩
 rw [<- hw3] at b5 q1
 obtain ⟨i2, hi2⟩ : ∃ n, n = i + 1 + 1 := ⟨_, rfl⟩
 rw [<- hi2] at b1 ⊢
 obtain ⟨i1, hi1⟩ : ∃ n, n = i + 1 := ⟨_, rfl⟩
 rw [<- hi1] at b0 b1 b2 m1 q1 ⊢
 have hsl : ∀ x y z u x' y' z' u' : Int, br 4 [.agg [.int .i64 x, .int .i64 y, .int .i64 z, .int .i64 u], .agg [.int .i64 x', .int .i64 y', .int .i64 z', .int .i64 u']] = some (.fs 4 [.agg [.int .i64 x, .int .i64 y, .int .i64 z, .int .i64 u], .agg [.int .i64 x', .int .i64 y', .int .i64 z', .int .i64 u']]) := fun _ _ _ _ _ _ _ _ => rfl
 by_cases hd : T.blades = 2
 ·rw [decide_eq_true hd] at b8
  rw [if_pos hd] at q1
  have q1 : aH 4 32 A1 v (.fs 4 [.agg [.int .i64 (i1 : Int), .int .i64 (i1 : Int), .int .i64 w1, .int .i64 1], .agg [.int .i64 (i1 : Int), .int .i64 (i1 : Int), .int .i64 w3, .int .i64 (-1)]]) = some (v', B) := q1
  simp [dq, b0, b1, b2, b3, b4, b5, b8, n1, x1, hlen, bx, s0, f0, f1, e0, e1, t0, l0, t4, l4, hsl, q1, -af, -ae, -aw, -aa, -ab, -aj, -br, -aV, -pU]
 ·rw [decide_eq_false hd] at b8
  rw [if_neg hd] at q1
  by_cases he : X < Y
  ·rw [decide_eq_true he] at b7
   rw [if_pos he] at q1
   have q1 : aH 4 32 A1 v (.fs 4 [.agg [.int .i64 (i : Int), .int .i64 (i1 : Int), .int .i64 w1, .int .i64 1], .agg [.int .i64 (i1 : Int), .int .i64 (i : Int), .int .i64 w3, .int .i64 (-1)]]) = some (v', B) := q1
   simp [dq, b0, b1, b2, b3, b4, b5, b7, b8, n1, m1, m2, fo, fi, x1, hlen, bx, s0, f0, f1, e0, e1, t0, l0, t4, l4, hsl, q1, -af, -ae, -aw, -aa, -ab, -aj, -br, -aV, -pU, -frz]
  ·rw [decide_eq_false he] at b7
   rw [if_neg he] at q1
   have q1 : aH 4 32 A1 v (.fs 4 [.agg [.int .i64 (i : Int), .int .i64 (i1 : Int), .int .i64 w1, .int .i64 0], .agg [.int .i64 (i1 : Int), .int .i64 (i : Int), .int .i64 w3, .int .i64 0]]) = some (v', B) := q1
   simp [dq, b0, b1, b2, b3, b4, b5, b7, b8, n0, m1, m2, fo, fi, x1, hlen, bx, s0, f0, f1, e0, e1, t0, l0, t4, l4, hsl, q1, -af, -ae, -aw, -aa, -ab, -aj, -br, -aV, -pU, -frz]
theorem Ck {T : bD} {chv ov : AV} {o : List Int} (hO : o ∈ ax T) (ho : SlA 1 (ag o) ov) : ∀ (c i : Nat) (v : AV) (A : ac) (m : Nat), i + c = o.length -> G20 A T chv v ((List.range i).map (qd T o)) -> c < m ->
  ∃ v' B, bg (evC (au GC uH) 300 c9) dy m (eI ov (.ptr 0 0 0) (.int .i64 (cF T)) v (.int .i64 (i : Int))) A =
   some (.exit 0 ((eI ov (.ptr 0 0 0) (.int .i64 (cF T)) v' (.int .i64 (o.length : Int))).set 16 (.bool false)) B) /\ G20 B T chv v' ((List.range o.length).map (qd T o)) := by
 obtain ⟨hv, hol, _, _⟩ := bo hO
 have hn4 := hv.2.2.2.1
 have hlen := ho.len
 rw [aA] at hlen
 intro c
 induction c with
 | zero =>
  intro i v A m hi hI hm
  obtain ⟨m, rfl⟩ : ∃ j, m = j + 1 := ⟨m - 1, by omega⟩
  obtain rfl : i = o.length := by omega
  refine ⟨v, A, ?_, hI⟩
  have b0 := bc o.length o.length .i64
  rw [decide_eq_false (by omega)] at b0
  rw [aQ, pi]
  simp [c9, b0, hlen, -af, -aj]
 | succ c ih =>
  intro i v A m hi hI hm
  obtain ⟨m, rfl⟩ : ∃ j, m = j + 1 := ⟨m - 1, by omega⟩
  obtain ⟨v1, B, h1, h2⟩ := lY hO ho hI (by simp; omega) (i := i) (by omega)
  rw [<- rj] at h2
  obtain ⟨v2, C, h3, h4⟩ := ih (i + 1) v1 B m (by omega) h2 (by omega)
  refine ⟨v2, C, ?_, h4⟩
  rw [aQ, pi, h1]
  exact h3
theorem Cj {T : bD} {chv ov : AV} {o : List Int} (hO : o ∈ ax T) (hcv : SlA 2 (T.ch.map chA) chv) (ho : SlA 1 (ag o) ov) {l0 : List aW} (hl0 : l0.length <= 50) : ∀ (c i : Nat) (v : AV) (A : ac) (m : Nat), i + c = T.ch.length -> G20 A T chv v (l0 ++ (List.range i).flatMap (oh T o)) -> c < m ->
  ∃ v' B, bg (evC (au GC uH) 300 dq) dx m (eH ov (.ptr 0 0 0) (.int .i64 (cF T)) v (.int .i64 ((i + 1 : Nat) : Int))) A =
   some (.exit 2 ((eH ov (.ptr 0 0 0) (.int .i64 (cF T)) v' (.int .i64 ((T.ch.length + 1 : Nat) : Int))).set 19 (.bool false)) B) /\ G20 B T chv v' (l0 ++ (List.range T.ch.length).flatMap (oh T o)) := by
 obtain ⟨hv, hol, _, _⟩ := bo hO
 have hn4 := hv.2.2.2.1
 have hlen := hcv.len
 rw [List.length_map] at hlen
 intro c
 induction c with
 | zero =>
  intro i v A m hi hI hm
  obtain ⟨m, rfl⟩ : ∃ j, m = j + 1 := ⟨m - 1, by omega⟩
  obtain rfl : i = T.ch.length := by omega
  refine ⟨v, A, ?_, hI⟩
  have t0 : aa 0 A (.ptr 0 0 0) = some (.ptr 0 0 0) := by simp [aa, hI.1]
  have l0 : ae false 1 A (.ptr 0 0 0) = some chv := by simp [ae, hI.1, aD, a0]
  have b0 : af .leq (.int .i64 ((T.ch.length + 1 : Nat) : Int)) (.int .i64 (T.ch.length : Int)) = some (.bool false) := by rw [lw, decide_eq_false (by omega)]
  obtain ⟨i1, hi1⟩ : ∃ n, n = T.ch.length + 1 := ⟨_, rfl⟩
  rw [<- hi1] at b0 ⊢
  rw [aQ, ph]
  simp [dq, b0, t0, l0, hlen, -af, -ae, -aa, -aj]
 | succ c ih =>
  intro i v A m hi hI hm
  obtain ⟨m, rfl⟩ : ∃ j, m = j + 1 := ⟨m - 1, by omega⟩
  obtain ⟨v1, B, h1, h2⟩ := lX hO hcv ho hI (by rw [List.length_append, nX]; omega) (i := i) (by omega)
  rw [List.append_assoc, <- nY] at h2
  obtain ⟨v2, C, h3, h4⟩ := ih (i + 1) v1 B m (by omega) h2 (by omega)
  refine ⟨v2, C, ?_, h4⟩
  rw [aQ, ph, h1]
  exact h3
def M20 : aT := fun args => evF (au GC uH) 300 vW 4 args
theorem sX : bk Try.prog GC 20 M20 := bk.of_ev (E := au GC uH) (av pC) rfl If xk 4 fun _ _ h => ⟨300, h⟩
theorem x9 {T : bD} {chv ov : AV} {o : List Int} (hcv : SlA 2 (T.ch.map chA) chv) (hl : T.ch.length <= 200) (ho : SlA 1 (ag o) ov) (hol : o.length <= 200) (hoi : ∀ z ∈ o, inI z) : M20 [aD T chv, ov] = some (zx (ri T o)) := by
 have m47 := EP hcv hl ho hol hoi
 have ft := fun A => cO (T := T) (fun A n => hcv.frz (A := A) n) A 3
 have fo : ∀ A n, frz A n ov = ov := fun A n => ho.frz n
 have lt : ∀ X, ae true 5 (.row 5 false [aD T chv] :: X) (.ptr 0 0 0) = some (aD T chv) := fun X => rfl
 have bx0 : aV 5 (aD T chv) [] = some (.ptr 0 0 0, [.row 5 false [aD T chv]]) := rfl
 unfold M20 ri
 rw [cU _ _ rfl]
 by_cases hO : o ∈ ax T
 ·obtain ⟨hv, hol2, _, _⟩ := bo hO
  have hn4 := hv.2.2.2.1
  rw [decide_eq_true hO] at m47
  rw [if_pos hO]
  have m29 := x8 chv hv
  obtain ⟨v1, B1, h1, h2⟩ := Ck hO ho (chv := chv) o.length 0 .nilS [.row 5 false [aD T chv]] 300 (by omega) ⟨rfl, .inl ⟨rfl, rfl⟩⟩ (by omega)
  have h2' : G20 B1 T chv v1 ((List.range o.length).map (qd T o) ++ (List.range 0).flatMap (oh T o)) := by simpa using h2
  obtain ⟨v2, B2, h3, h4⟩ := Cj hO hcv ho (l0 := (List.range o.length).map (qd T o)) (by simp; omega) T.ch.length 0 v1 B1 300 (by omega) h2' (by omega)
  obtain ⟨g2, g3⟩ := h4.frz
  have g2 := g2 0
  have g3 := g3 0
  obtain ⟨R, hR⟩ : ∃ R, R = slA 4 ((aR T o).map bM) := ⟨_, rfl⟩
  rw [show (List.range o.length).map (qd T o) ++ (List.range T.ch.length).flatMap (oh T o) = aR T o from rfl, <- hR] at g2
  have hRR : zx (some (aR T o)) = .tup [R, .int .i64 0] := by rw [hR]; rfl
  rw [hRR]
  have h1 : bg (evC (au GC uH) 300 c9) dy 300 (eI ov (.ptr 0 0 0) (.int .i64 (cF T)) .nilS (.int .i64 0)) [.row 5 false [aD T chv]] = _ := h1
  have h3 : bg (evC (au GC uH) 300 dq) dx 300 (eH ov (.ptr 0 0 0) (.int .i64 (cF T)) v1 (.int .i64 1)) B1 = _ := h3
  obtain ⟨t, htt⟩ : ∃ t, t = aD T chv := ⟨_, rfl⟩
  obtain ⟨w, hw⟩ : ∃ F, F = cF T := ⟨_, rfl⟩
  rw [<- htt] at m47 ft lt bx0 m29 h1 ⊢
  rw [<- hw] at m29 h1 h3
  have ct : (cellsOf t).length = 5 := by rw [htt]; rfl
  have fT : frz B2 4 (.tup [v2, .int .i64 0]) = .tup [R, .int .i64 0] := by
   rw [<- g2]; rfl
  have rT : aY B2 4 (.tup [v2, .int .i64 0]) = true := by
   have g3 : aY B2 3 v2 = true := g3
   simp [aY, g3]
  simp [vW, bx0, fT, rT, ct, lt, m47, m29, ft, fo, qL h1, tL h3, -aV, -ae, -aa, -aj, -frz, -cellsOf]
 ·rw [decide_eq_false hO] at m47
  rw [if_neg hO]
  obtain ⟨t, htt⟩ : ∃ t, t = aD T chv := ⟨_, rfl⟩
  rw [<- htt] at m47 ft lt bx0 ⊢
  have ct : (cellsOf t).length = 5 := by rw [htt]; rfl
  have fT : ∀ A, frz A 4 (.tup [.nilS, .int .i64 130]) = .tup [.nilS, .int .i64 130] := fun A => rfl
  have rT : ∀ A, aY A 4 (.tup [.nilS, .int .i64 130]) = true := fun A => rfl
  simp [vW, bx0, fT, rT, ct, lt, m47, ft, fo, -aV, -ae, -aa, -aj, -frz, -cellsOf]
  rfl
namespace Cy
def c9 : MC := .seq (.seq (.region [⟨none, .mv (.var 6), none⟩, ⟨none, .mv (.var 0), none⟩, ⟨some 9, .bin .lss (.tmp 0) (.tmp 1), none⟩]) (.cond (.var 9) .skip (.exit 0))) (.seq (.seq (.block 1 (.seq (.region [⟨none, .mv (.var 3), none⟩, ⟨none, .mv (.var 6), none⟩, ⟨none, .indexSl 1 (.tmp 0) (.tmp 1), none⟩, ⟨none, .load false 1 (.tmp 2), none⟩, ⟨none, .call (.fn 73) [.tmp 3, .cst (.int .i64 0), .cst (.int .i64 1000000000)], none⟩, ⟨some 10, .un .not (.tmp 4), none⟩]) (.cond (.var 10) (.seq (.region [⟨some 4, .mv (.cst (.bool false)), none⟩]) .ret) .skip))) (.kill [4, 5, 7, 8, 9, 10, 11, 12])) (.region [⟨none, .mv (.var 6), none⟩, ⟨none, .bin .add (.tmp 0) (.cst (.int .i64 1)), none⟩, ⟨some 6, .mv (.tmp 1), none⟩]))
def dq : MC := .seq (.seq (.region [⟨none, .mv (.var 7), none⟩, ⟨none, .mv (.var 1), none⟩, ⟨none, .lenSl (.tmp 1), none⟩, ⟨some 11, .bin .lss (.tmp 0) (.tmp 2), none⟩]) (.cond (.var 11) .skip (.exit 2))) (.seq (.seq (.block 3 (.seq (.region [⟨none, .mv (.var 3), none⟩, ⟨none, .mv (.var 1), none⟩, ⟨none, .mv (.var 7), none⟩, ⟨none, .indexSl 4 (.tmp 1) (.tmp 2), none⟩, ⟨none, .fieldAddr 1 (.tmp 3), none⟩, ⟨none, .load false 1 (.tmp 4), none⟩, ⟨none, .indexSl 1 (.tmp 0) (.tmp 5), none⟩, ⟨none, .load false 1 (.tmp 6), none⟩, ⟨none, .mv (.var 3), none⟩, ⟨none, .mv (.var 1), none⟩, ⟨none, .mv (.var 7), none⟩, ⟨none, .indexSl 4 (.tmp 9) (.tmp 10), none⟩, ⟨none, .fieldAddr 0 (.tmp 11), none⟩, ⟨none, .load false 1 (.tmp 12), none⟩, ⟨none, .indexSl 1 (.tmp 8) (.tmp 13), none⟩, ⟨none, .load false 1 (.tmp 14), none⟩, ⟨none, .mv (.var 1), none⟩, ⟨none, .mv (.var 7), none⟩, ⟨none, .indexSl 4 (.tmp 16) (.tmp 17), none⟩, ⟨none, .load true 4 (.tmp 18), none⟩, ⟨none, .mv (.var 2), none⟩, ⟨none, .call (.fn 70) [.tmp 19, .tmp 20], none⟩, ⟨none, .bin .add (.tmp 15) (.tmp 21), none⟩, ⟨some 12, .bin .lss (.tmp 7) (.tmp 22), none⟩]) (.cond (.var 12) (.seq (.region [⟨some 4, .mv (.cst (.bool false)), none⟩]) .ret) .skip))) (.kill [0, 4, 5, 6, 8, 9, 10, 11, 12])) (.region [⟨none, .mv (.var 7), none⟩, ⟨none, .bin .add (.tmp 0) (.cst (.int .i64 1)), none⟩, ⟨some 7, .mv (.tmp 1), none⟩]))
def vW : ci := ⟨4, 13, .seq (.region [⟨some 4, .mv (.cst (.bool false)), none⟩]) (.seq (.region [⟨none, .mv (.var 0), none⟩, ⟨none, .mv (.var 1), none⟩, ⟨none, .mv (.var 2), none⟩, ⟨none, .call (.fn 69) [.tmp 0, .tmp 1, .tmp 2], none⟩, ⟨some 5, .mv (.tmp 3), none⟩]) (.seq (.seq (.region [⟨none, .mv (.var 5), none⟩, ⟨none, .un .not (.tmp 0), none⟩, ⟨none, .mv (.tmp 1), none⟩, ⟨none, .mv (.var 3), some (.tmp 2, false)⟩, ⟨none, .lenSl (.tmp 3), some (.tmp 2, false)⟩, ⟨none, .mv (.var 0), some (.tmp 2, false)⟩, ⟨none, .bin .neq (.tmp 4) (.tmp 5), some (.tmp 2, false)⟩, ⟨some 8, .pick (.tmp 2) (.cst (.bool true)) (.tmp 6), none⟩]) (.cond (.var 8) (.seq (.region [⟨some 4, .mv (.cst (.bool false)), none⟩]) .ret) .skip)) (.seq (.seq (.region [⟨some 6, .mv (.cst (.int .i64 0)), none⟩]) (.seq (.block 0 (.loop [4, 5, 7, 8, 9, 10, 11, 12] c9)) (.kill [0, 4, 5, 6, 7, 8, 9, 10, 11, 12]))) (.seq (.seq (.region [⟨some 7, .mv (.cst (.int .i64 0)), none⟩]) (.seq (.block 2 (.loop [0, 4, 5, 6, 8, 9, 10, 11, 12] dq)) (.kill [0, 1, 2, 3, 4, 5, 6, 7, 8, 9, 10, 11, 12]))) (.seq (.region [⟨some 4, .mv (.cst (.bool true)), none⟩]) .ret))))), [.tmp 4]⟩
def dy : List Nat := [4, 5, 7, 8, 9, 10, 11, 12]
abbrev eI (v0 v1 v2 v3 v6 : AV) : List AV := [v0, v1, v2, v3, .undef, .undef, v6, .undef, .undef, .undef, .undef, .undef, .undef]
theorem pi {v0 v1 v2 v3 d4 d5 v6 d7 d8 d9 d10 d11 d12 : AV} : clear dy [v0, v1, v2, v3, d4, d5, v6, d7, d8, d9, d10, d11, d12] = eI v0 v1 v2 v3 v6 := rfl
theorem qL {E : Env} {fuel : Nat} {A : ac} {o : Out} {k : List KC} {v0 v1 v2 v3 d4 d5 v6 d7 d8 d9 d10 d11 d12 : AV} (h : bg (evC E fuel c9) dy fuel (eI v0 v1 v2 v3 v6) A = some o) :
  run E fuel (.code (.loop [4, 5, 7, 8, 9, 10, 11, 12] c9) :: k) [v0, v1, v2, v3, d4, d5, v6, d7, d8, d9, d10, d11, d12] A = after E fuel k o := aG dy _ _ (by rw [pi]; exact h)
def dx : List Nat := [0, 4, 5, 6, 8, 9, 10, 11, 12]
abbrev eH (v1 v2 v3 v7 : AV) : List AV := [.undef, v1, v2, v3, .undef, .undef, .undef, v7, .undef, .undef, .undef, .undef, .undef]
theorem ph {d0 v1 v2 v3 d4 d5 d6 v7 d8 d9 d10 d11 d12 : AV} : clear dx [d0, v1, v2, v3, d4, d5, d6, v7, d8, d9, d10, d11, d12] = eH v1 v2 v3 v7 := rfl
theorem tL {E : Env} {fuel : Nat} {A : ac} {o : Out} {k : List KC} {d0 v1 v2 v3 d4 d5 d6 v7 d8 d9 d10 d11 d12 : AV} (h : bg (evC E fuel dq) dx fuel (eH v1 v2 v3 v7) A = some o) :
  run E fuel (.code (.loop [0, 4, 5, 6, 8, 9, 10, 11, 12] dq) :: k) [d0, v1, v2, v3, d4, d5, d6, v7, d8, d9, d10, d11, d12] A = after E fuel k o := aG dx _ _ (by rw [ph]; exact h)
theorem xk : aE Try.prog Try.f52 4 [0, 1, 2, 3, 8, 9, 10, 11, 23, 26, 34, 38, 64] [70] true ([[4, 5, 7, 8, 9, 10, 11, 12], [0, 4, 5, 6, 8, 9, 10, 11, 12]], [[4, 5, 7, 8, 9, 10, 11, 12], [0, 4, 5, 6, 7, 8, 9, 10, 11, 12], [0, 4, 5, 6, 8, 9, 10, 11, 12], [0, 1, 2, 3, 4, 5, 6, 7, 8, 9, 10, 11, 12]]) = some vW := by kernel_rfl
theorem If : Try.prog.funcs[52]? = some Try.f52 := by kernel_rfl
def cY : MC := .seq (.seq (.region [⟨none, .mv (.var 6), none⟩, ⟨none, .mv (.var 3), none⟩, ⟨none, .lenSl (.tmp 1), none⟩, ⟨some 11, .bin .lss (.tmp 0) (.tmp 2), none⟩]) (.cond (.var 11) .skip (.exit 0))) (.seq (.seq (.block 1 (.seq (.region [⟨none, .mv (.var 3), none⟩, ⟨none, .mv (.var 6), none⟩, ⟨none, .indexSl 1 (.tmp 0) (.tmp 1), none⟩, ⟨none, .load false 1 (.tmp 2), none⟩, ⟨none, .mv (.var 1), none⟩, ⟨none, .lenSl (.tmp 4), none⟩, ⟨none, .bin .sub (.tmp 5) (.cst (.int .i64 1)), none⟩, ⟨none, .call (.fn 73) [.tmp 3, .cst (.int .i64 0), .tmp 6], none⟩, ⟨some 12, .un .not (.tmp 7), none⟩]) (.cond (.var 12) (.seq (.region [⟨some 4, .mv (.cst (.bool false)), none⟩]) .ret) .skip))) (.kill [0, 4, 5, 7, 8, 9, 10, 11, 12, 13, 14])) (.region [⟨none, .mv (.var 6), none⟩, ⟨none, .bin .add (.tmp 0) (.cst (.int .i64 1)), none⟩, ⟨some 6, .mv (.tmp 1), none⟩]))
def iY : MC := .seq (.seq (.region [⟨none, .mv (.var 8), none⟩, ⟨none, .mv (.var 3), none⟩, ⟨none, .lenSl (.tmp 1), none⟩, ⟨some 13, .bin .lss (.tmp 0) (.tmp 2), none⟩]) (.cond (.var 13) .skip (.exit 2))) (.seq (.seq (.block 3 (.seq (.region [⟨none, .mv (.var 3), none⟩, ⟨none, .mv (.var 8), none⟩, ⟨none, .bin .add (.tmp 1) (.cst (.int .i64 1)), none⟩, ⟨none, .mv (.var 3), none⟩, ⟨none, .lenSl (.tmp 3), none⟩, ⟨none, .bin .rem (.tmp 2) (.tmp 4), none⟩, ⟨none, .indexSl 1 (.tmp 0) (.tmp 5), none⟩, ⟨none, .load false 1 (.tmp 6), none⟩, ⟨some 9, .mv (.tmp 7), none⟩]) (.seq (.seq (.region [⟨none, .mv (.var 1), none⟩, ⟨none, .mv (.var 3), none⟩, ⟨none, .mv (.var 8), none⟩, ⟨none, .indexSl 1 (.tmp 1) (.tmp 2), none⟩, ⟨none, .load false 1 (.tmp 3), none⟩, ⟨none, .indexSl 4 (.tmp 0) (.tmp 4), none⟩, ⟨none, .fieldAddr 1 (.tmp 5), none⟩, ⟨none, .load false 1 (.tmp 6), none⟩, ⟨none, .mv (.var 1), none⟩, ⟨none, .mv (.var 9), none⟩, ⟨none, .indexSl 4 (.tmp 8) (.tmp 9), none⟩, ⟨none, .fieldAddr 0 (.tmp 10), none⟩, ⟨none, .load false 1 (.tmp 11), none⟩, ⟨some 14, .bin .neq (.tmp 7) (.tmp 12), none⟩]) (.cond (.var 14) (.seq (.region [⟨some 4, .mv (.cst (.bool false)), none⟩]) .ret) .skip)) (.region [⟨none, .mv (.var 7), none⟩, ⟨none, .mv (.var 1), none⟩, ⟨none, .mv (.var 3), none⟩, ⟨none, .mv (.var 8), none⟩, ⟨none, .indexSl 1 (.tmp 2) (.tmp 3), none⟩, ⟨none, .load false 1 (.tmp 4), none⟩, ⟨none, .indexSl 4 (.tmp 1) (.tmp 5), none⟩, ⟨none, .load true 4 (.tmp 6), none⟩, ⟨none, .mv (.var 2), none⟩, ⟨none, .call (.fn 70) [.tmp 7, .tmp 8], none⟩, ⟨none, .bin .add (.tmp 0) (.tmp 9), none⟩, ⟨some 7, .mv (.tmp 10), none⟩])))) (.kill [0, 4, 5, 6, 9, 10, 11, 12, 13, 14])) (.region [⟨none, .mv (.var 8), none⟩, ⟨none, .bin .add (.tmp 0) (.cst (.int .i64 1)), none⟩, ⟨some 8, .mv (.tmp 1), none⟩]))
def uC : ci := ⟨4, 15, .seq (.region [⟨some 4, .mv (.cst (.bool false)), none⟩]) (.seq (.region [⟨none, .mv (.var 0), none⟩, ⟨none, .mv (.var 1), none⟩, ⟨none, .mv (.var 2), none⟩, ⟨none, .call (.fn 69) [.tmp 0, .tmp 1, .tmp 2], none⟩, ⟨some 5, .mv (.tmp 3), none⟩]) (.seq (.seq (.region [⟨none, .mv (.var 5), none⟩, ⟨none, .un .not (.tmp 0), none⟩, ⟨none, .mv (.tmp 1), none⟩, ⟨none, .mv (.var 3), some (.tmp 2, false)⟩, ⟨none, .lenSl (.tmp 3), some (.tmp 2, false)⟩, ⟨none, .call (.fn 73) [.tmp 4, .cst (.int .i64 1), .cst (.int .i64 200)], some (.tmp 2, false)⟩, ⟨none, .un .not (.tmp 5), some (.tmp 2, false)⟩, ⟨some 10, .pick (.tmp 2) (.cst (.bool true)) (.tmp 6), none⟩]) (.cond (.var 10) (.seq (.region [⟨some 4, .mv (.cst (.bool false)), none⟩]) .ret) .skip)) (.seq (.seq (.region [⟨some 6, .mv (.cst (.int .i64 0)), none⟩]) (.seq (.block 0 (.loop [0, 4, 5, 7, 8, 9, 10, 11, 12, 13, 14] cY)) (.kill [0, 4, 5, 6, 7, 8, 9, 10, 11, 12, 13, 14]))) (.seq (.region [⟨some 7, .mv (.cst (.int .i64 0)), none⟩]) (.seq (.seq (.region [⟨some 8, .mv (.cst (.int .i64 0)), none⟩]) (.seq (.block 2 (.loop [0, 4, 5, 6, 9, 10, 11, 12, 13, 14] iY)) (.kill [0, 1, 2, 3, 4, 5, 6, 8, 9, 10, 11, 12, 13, 14]))) (.seq (.region [⟨none, .mv (.var 7), none⟩, ⟨none, .bin .gtr (.tmp 0) (.cst (.int .i64 0)), none⟩, ⟨some 4, .mv (.tmp 1), none⟩]) .ret)))))), [.tmp 4]⟩
def dw : List Nat := [0, 4, 5, 7, 8, 9, 10, 11, 12, 13, 14]
abbrev eG (v1 v2 v3 v6 : AV) : List AV := [.undef, v1, v2, v3, .undef, .undef, v6, .undef, .undef, .undef, .undef, .undef, .undef, .undef, .undef]
theorem nN {d0 v1 v2 v3 d4 d5 v6 d7 d8 d9 d10 d11 d12 d13 d14 : AV} : clear dw [d0, v1, v2, v3, d4, d5, v6, d7, d8, d9, d10, d11, d12, d13, d14] = eG v1 v2 v3 v6 := rfl
theorem ni {E : Env} {fuel : Nat} {A : ac} {o : Out} {k : List KC} {d0 v1 v2 v3 d4 d5 v6 d7 d8 d9 d10 d11 d12 d13 d14 : AV} (h : bg (evC E fuel cY) dw fuel (eG v1 v2 v3 v6) A = some o) :
  run E fuel (.code (.loop [0, 4, 5, 7, 8, 9, 10, 11, 12, 13, 14] cY) :: k) [d0, v1, v2, v3, d4, d5, v6, d7, d8, d9, d10, d11, d12, d13, d14] A = after E fuel k o := aG dw _ _ (by rw [nN]; exact h)
def iH : List Nat := [0, 4, 5, 6, 9, 10, 11, 12, 13, 14]
abbrev kN (v1 v2 v3 v7 v8 : AV) : List AV := [.undef, v1, v2, v3, .undef, .undef, .undef, v7, v8, .undef, .undef, .undef, .undef, .undef, .undef]
theorem AL {d0 v1 v2 v3 d4 d5 d6 v7 v8 d9 d10 d11 d12 d13 d14 : AV} : clear iH [d0, v1, v2, v3, d4, d5, d6, v7, v8, d9, d10, d11, d12, d13, d14] = kN v1 v2 v3 v7 v8 := rfl
theorem Am {E : Env} {fuel : Nat} {A : ac} {o : Out} {k : List KC} {d0 v1 v2 v3 d4 d5 d6 v7 v8 d9 d10 d11 d12 d13 d14 : AV} (h : bg (evC E fuel iY) iH fuel (kN v1 v2 v3 v7 v8) A = some o) :
  run E fuel (.code (.loop [0, 4, 5, 6, 9, 10, 11, 12, 13, 14] iY) :: k) [d0, v1, v2, v3, d4, d5, d6, v7, v8, d9, d10, d11, d12, d13, d14] A = after E fuel k o := aG iH _ _ (by rw [AL]; exact h)
theorem tX : aE Try.prog Try.f53 4 [0, 1, 2, 3, 8, 9, 10, 11, 12, 13, 25, 29, 40, 44, 68] [] true ([[0, 4, 5, 7, 8, 9, 10, 11, 12, 13, 14], [0, 4, 5, 6, 9, 10, 11, 12, 13, 14]], [[0, 4, 5, 7, 8, 9, 10, 11, 12, 13, 14], [0, 4, 5, 6, 7, 8, 9, 10, 11, 12, 13, 14], [0, 4, 5, 6, 9, 10, 11, 12, 13, 14], [0, 1, 2, 3, 4, 5, 6, 8, 9, 10, 11, 12, 13, 14]]) = some uC := by kernel_rfl
theorem FF : Try.prog.funcs[53]? = some Try.f53 := by kernel_rfl
def nb : MC := .seq (.seq (.region [⟨none, .mv (.var 13), none⟩, ⟨none, .mv (.var 9), none⟩, ⟨none, .lenSl (.tmp 1), none⟩, ⟨some 16, .bin .lss (.tmp 0) (.tmp 2), none⟩]) (.cond (.var 16) .skip (.exit 2))) (.seq (.seq (.block 3 (.seq (.region [⟨none, .mv (.var 11), none⟩, ⟨none, .mv (.var 1), none⟩, ⟨none, .mv (.var 9), none⟩, ⟨none, .mv (.var 13), none⟩, ⟨none, .indexSl 1 (.tmp 2) (.tmp 3), none⟩, ⟨none, .load false 1 (.tmp 4), none⟩, ⟨none, .indexSl 4 (.tmp 1) (.tmp 5), none⟩, ⟨none, .load true 4 (.tmp 6), none⟩, ⟨none, .mv (.var 6), none⟩, ⟨none, .call (.fn 70) [.tmp 7, .tmp 8], none⟩, ⟨none, .bin .add (.tmp 0) (.tmp 9), none⟩, ⟨some 11, .mv (.tmp 10), none⟩]) (.region [⟨none, .mv (.var 12), none⟩, ⟨none, .mv (.var 1), none⟩, ⟨none, .mv (.var 9), none⟩, ⟨none, .mv (.var 13), none⟩, ⟨none, .indexSl 1 (.tmp 2) (.tmp 3), none⟩, ⟨none, .load false 1 (.tmp 4), none⟩, ⟨none, .indexSl 4 (.tmp 1) (.tmp 5), none⟩, ⟨none, .fieldAddr 3 (.tmp 6), none⟩, ⟨none, .load false 1 (.tmp 7), none⟩, ⟨none, .bin .add (.tmp 0) (.tmp 8), none⟩, ⟨some 12, .mv (.tmp 9), none⟩]))) (.kill [2, 4, 5, 7, 8, 10, 14, 15, 16, 17])) (.region [⟨none, .mv (.var 13), none⟩, ⟨none, .bin .add (.tmp 0) (.cst (.int .i64 1)), none⟩, ⟨some 13, .mv (.tmp 1), none⟩]))
def gF : MC := .seq (.block 1 (.seq (.region [⟨none, .mv (.var 0), none⟩, ⟨none, .mv (.var 1), none⟩, ⟨none, .mv (.var 6), none⟩, ⟨none, .call (.fn 69) [.tmp 0, .tmp 1, .tmp 2], none⟩, ⟨some 7, .mv (.tmp 3), none⟩]) (.seq (.region [⟨none, .mv (.var 0), none⟩, ⟨none, .mv (.var 1), none⟩, ⟨none, .mv (.var 3), none⟩, ⟨none, .call (.fn 69) [.tmp 0, .tmp 1, .tmp 2], none⟩, ⟨some 8, .mv (.tmp 3), none⟩]) (.seq (.seq (.region [⟨none, .mv (.var 7), none⟩, ⟨none, .un .not (.tmp 0), none⟩, ⟨none, .mv (.tmp 1), none⟩, ⟨none, .mv (.var 8), some (.tmp 2, false)⟩, ⟨none, .un .not (.tmp 3), some (.tmp 2, false)⟩, ⟨none, .pick (.tmp 2) (.cst (.bool true)) (.tmp 4), none⟩, ⟨none, .mv (.tmp 5), none⟩, ⟨none, .mv (.var 6), some (.tmp 6, false)⟩, ⟨none, .mv (.var 3), some (.tmp 6, false)⟩, ⟨none, .bin .gtr (.tmp 7) (.tmp 8), some (.tmp 6, false)⟩, ⟨some 14, .pick (.tmp 6) (.cst (.bool true)) (.tmp 9), none⟩]) (.cond (.var 14) (.seq (.region [⟨some 4, .mv (.cst (.int .i64 0)), none⟩, ⟨some 5, .mv (.cst (.bool false)), none⟩]) .ret) .skip)) (.seq (.region [⟨none, .mv (.var 0), none⟩, ⟨none, .mv (.var 1), none⟩, ⟨none, .mv (.var 6), none⟩, ⟨none, .call (.fn 50) [.tmp 0, .tmp 1, .tmp 2], none⟩, ⟨none, .mv (.tmp 3), none⟩, ⟨none, .extract (.tmp 4) 0, none⟩, ⟨none, .extract (.tmp 4) 1, none⟩, ⟨none, .extract (.tmp 4) 2, none⟩, ⟨none, .mv (.tmp 5), none⟩, ⟨some 9, .mv (.tmp 6), none⟩, ⟨some 10, .mv (.tmp 7), none⟩]) (.seq (.seq (.region [⟨some 15, .mv (.var 10), none⟩]) (.cond (.var 15) (.seq (.region [⟨none, .mv (.var 6), none⟩, ⟨some 4, .mv (.tmp 0), none⟩, ⟨some 5, .mv (.cst (.bool true)), none⟩]) .ret) .skip)) (.seq (.region [⟨some 11, .mv (.cst (.int .i64 0)), none⟩]) (.seq (.region [⟨some 12, .mv (.cst (.int .i64 0)), none⟩]) (.seq (.seq (.region [⟨some 13, .mv (.cst (.int .i64 0)), none⟩]) (.seq (.block 2 (.loop [2, 4, 5, 7, 8, 10, 14, 15, 16, 17] nb)) (.kill [2, 4, 5, 7, 8, 9, 10, 13, 14, 15, 16, 17]))) (.seq (.seq (.region [⟨none, .mv (.var 12), none⟩, ⟨some 17, .bin .leq (.tmp 0) (.cst (.int .i64 0)), none⟩]) (.cond (.var 17) (.seq (.region [⟨some 4, .mv (.cst (.int .i64 0)), none⟩, ⟨some 5, .mv (.cst (.bool false)), none⟩]) .ret) .skip)) (.region [⟨none, .mv (.var 6), none⟩, ⟨none, .mv (.var 11), none⟩, ⟨none, .mv (.var 12), none⟩, ⟨none, .bin .add (.tmp 1) (.tmp 2), none⟩, ⟨none, .bin .sub (.tmp 3) (.cst (.int .i64 1)), none⟩, ⟨none, .mv (.var 12), none⟩, ⟨none, .bin .quo (.tmp 4) (.tmp 5), none⟩, ⟨none, .bin .add (.tmp 0) (.tmp 6), none⟩, ⟨some 6, .mv (.tmp 7), none⟩]))))))))))) (.kill [2, 4, 5, 7, 8, 9, 10, 11, 12, 13, 14, 15, 16, 17])
def Cb : ci := ⟨4, 18, .seq (.region [⟨some 4, .mv (.cst (.int .i64 0)), none⟩, ⟨some 5, .mv (.cst (.bool false)), none⟩]) (.seq (.region [⟨none, .mv (.var 2), none⟩, ⟨some 6, .mv (.tmp 0), none⟩]) (.seq (.block 0 (.loop [2, 4, 5, 7, 8, 9, 10, 11, 12, 13, 14, 15, 16, 17] gF)) (.kill [0, 1, 2, 3, 4, 5, 6, 7, 8, 9, 10, 11, 12, 13, 14, 15, 16, 17]))), [.tmp 4, .tmp 5]⟩
def mh : List Nat := [2, 4, 5, 7, 8, 10, 14, 15, 16, 17]
abbrev oM (v0 v1 v3 v6 v9 v11 v12 v13 : AV) : List AV := [v0, v1, .undef, v3, .undef, .undef, v6, .undef, .undef, v9, .undef, v11, v12, v13, .undef, .undef, .undef, .undef]
theorem xG {v0 v1 d2 v3 d4 d5 v6 d7 d8 v9 d10 v11 v12 v13 d14 d15 d16 d17 : AV} : clear mh [v0, v1, d2, v3, d4, d5, v6, d7, d8, v9, d10, v11, v12, v13, d14, d15, d16, d17] = oM v0 v1 v3 v6 v9 v11 v12 v13 := rfl
theorem Al {E : Env} {fuel : Nat} {A : ac} {o : Out} {k : List KC} {v0 v1 d2 v3 d4 d5 v6 d7 d8 v9 d10 v11 v12 v13 d14 d15 d16 d17 : AV} (h : bg (evC E fuel nb) mh fuel (oM v0 v1 v3 v6 v9 v11 v12 v13) A = some o) :
  run E fuel (.code (.loop [2, 4, 5, 7, 8, 10, 14, 15, 16, 17] nb) :: k) [v0, v1, d2, v3, d4, d5, v6, d7, d8, v9, d10, v11, v12, v13, d14, d15, d16, d17] A = after E fuel k o := aG mh _ _ (by rw [xG]; exact h)
def jN : List Nat := [2, 4, 5, 7, 8, 9, 10, 11, 12, 13, 14, 15, 16, 17]
abbrev oL (v0 v1 v3 v6 : AV) : List AV := [v0, v1, .undef, v3, .undef, .undef, v6, .undef, .undef, .undef, .undef, .undef, .undef, .undef, .undef, .undef, .undef, .undef]
theorem xF {v0 v1 d2 v3 d4 d5 v6 d7 d8 d9 d10 d11 d12 d13 d14 d15 d16 d17 : AV} : clear jN [v0, v1, d2, v3, d4, d5, v6, d7, d8, d9, d10, d11, d12, d13, d14, d15, d16, d17] = oL v0 v1 v3 v6 := rfl
theorem Ak {E : Env} {fuel : Nat} {A : ac} {o : Out} {k : List KC} {v0 v1 d2 v3 d4 d5 v6 d7 d8 d9 d10 d11 d12 d13 d14 d15 d16 d17 : AV} (h : bg (evC E fuel gF) jN fuel (oL v0 v1 v3 v6) A = some o) :
  run E fuel (.code (.loop [2, 4, 5, 7, 8, 9, 10, 11, 12, 13, 14, 15, 16, 17] gF) :: k) [v0, v1, d2, v3, d4, d5, v6, d7, d8, d9, d10, d11, d12, d13, d14, d15, d16, d17] A = after E fuel k o := aG jN _ _ (by rw [xF]; exact h)
theorem xg : aE Try.prog Try.f49 4 [0, 1, 2, 3, 8, 9, 10, 11, 12, 14, 15, 16, 17, 18, 38, 47, 52, 77] [] true ([[2, 4, 5, 7, 8, 9, 10, 11, 12, 13, 14, 15, 16, 17], [2, 4, 5, 7, 8, 10, 14, 15, 16, 17]], [[2, 4, 5, 7, 8, 10, 14, 15, 16, 17], [2, 4, 5, 7, 8, 9, 10, 13, 14, 15, 16, 17], [2, 4, 5, 7, 8, 9, 10, 11, 12, 13, 14, 15, 16, 17], [0, 1, 2, 3, 4, 5, 6, 7, 8, 9, 10, 11, 12, 13, 14, 15, 16, 17]]) = some Cb := by kernel_rfl
theorem Ic : Try.prog.funcs[49]? = some Try.f49 := by kernel_rfl
def dS : MC := .seq (.seq (.region [⟨none, .mv (.var 8), none⟩, ⟨none, .mv (.var 0), none⟩, ⟨some 15, .bin .leq (.tmp 0) (.tmp 1), none⟩]) (.cond (.var 15) .skip (.exit 0))) (.seq (.seq (.block 1 (.seq (.region [⟨none, .mv (.var 1), none⟩, ⟨none, .mv (.var 2), none⟩, ⟨none, .mv (.var 7), none⟩, ⟨none, .mv (.var 8), none⟩, ⟨none, .call (.fn 72) [.tmp 0, .tmp 1, .tmp 2, .tmp 3], none⟩, ⟨some 9, .mv (.tmp 4), none⟩]) (.seq (.region [⟨none, .mv (.var 9), none⟩, ⟨none, .lenSl (.tmp 0), none⟩, ⟨some 16, .bin .gtr (.tmp 1) (.cst (.int .i64 0)), none⟩]) (.cond (.var 16) (.seq (.region [⟨none, .mv (.var 9), none⟩, ⟨some 3, .mv (.cst .nilS), none⟩, ⟨some 4, .mv (.tmp 0), none⟩, ⟨some 5, .mv (.cst (.bool false)), none⟩]) .ret) .skip)))) (.kill [3, 4, 5, 6, 9, 10, 11, 12, 13, 14, 15, 16, 17, 18, 19])) (.region [⟨none, .mv (.var 8), none⟩, ⟨none, .bin .add (.tmp 0) (.cst (.int .i64 1)), none⟩, ⟨some 8, .mv (.tmp 1), none⟩]))
def kX : MC := .seq (.seq (.region [⟨none, .mv (.var 13), none⟩, ⟨none, .mv (.var 0), none⟩, ⟨some 19, .bin .lss (.tmp 0) (.tmp 1), none⟩]) (.cond (.var 19) .skip (.exit 6))) (.seq (.seq (.block 7 (.region [⟨none, .mv (.var 10), none⟩, ⟨none, .mv (.var 13), none⟩, ⟨none, .mv (.var 10), none⟩, ⟨none, .mv (.var 13), none⟩, ⟨none, .indexSl 1 (.tmp 2) (.tmp 3), none⟩, ⟨none, .load false 1 (.tmp 4), none⟩, ⟨none, .mv (.var 7), none⟩, ⟨none, .mv (.var 11), none⟩, ⟨none, .indexSl 1 (.tmp 6) (.tmp 7), none⟩, ⟨none, .load false 1 (.tmp 8), none⟩, ⟨none, .mv (.var 12), none⟩, ⟨none, .indexSl 1 (.tmp 9) (.tmp 10), none⟩, ⟨none, .load false 1 (.tmp 11), none⟩, ⟨none, .mv (.var 13), none⟩, ⟨none, .indexSl 1 (.tmp 12) (.tmp 13), none⟩, ⟨none, .load false 1 (.tmp 14), none⟩, ⟨none, .minmax true (.tmp 5) [.tmp 15], none⟩, ⟨none, .indexSl 1 (.tmp 0) (.tmp 1), none⟩, ⟨none, .store 1 (.tmp 17) (.tmp 16), none⟩])) (.kill [1, 2, 3, 4, 5, 6, 8, 9, 14, 15, 16, 17, 18, 19])) (.region [⟨none, .mv (.var 13), none⟩, ⟨none, .bin .add (.tmp 0) (.cst (.int .i64 1)), none⟩, ⟨some 13, .mv (.tmp 1), none⟩]))
def nd : MC := .seq (.seq (.region [⟨none, .mv (.var 12), none⟩, ⟨none, .mv (.var 0), none⟩, ⟨some 18, .bin .lss (.tmp 0) (.tmp 1), none⟩]) (.cond (.var 18) .skip (.exit 4))) (.seq (.seq (.block 5 (.seq (.region [⟨some 13, .mv (.cst (.int .i64 0)), none⟩]) (.seq (.block 6 (.loop [1, 2, 3, 4, 5, 6, 8, 9, 14, 15, 16, 17, 18, 19] kX)) (.kill [1, 2, 3, 4, 5, 6, 8, 9, 13, 14, 15, 16, 17, 18, 19])))) (.kill [1, 2, 3, 4, 5, 6, 8, 9, 13, 14, 15, 16, 17, 18, 19])) (.region [⟨none, .mv (.var 12), none⟩, ⟨none, .bin .add (.tmp 0) (.cst (.int .i64 1)), none⟩, ⟨some 12, .mv (.tmp 1), none⟩]))
def nc : MC := .seq (.seq (.region [⟨none, .mv (.var 11), none⟩, ⟨none, .mv (.var 0), none⟩, ⟨some 17, .bin .leq (.tmp 0) (.tmp 1), none⟩]) (.cond (.var 17) .skip (.exit 2))) (.seq (.seq (.block 3 (.seq (.region [⟨some 12, .mv (.cst (.int .i64 0)), none⟩]) (.seq (.block 4 (.loop [1, 2, 3, 4, 5, 6, 8, 9, 13, 14, 15, 16, 17, 18, 19] nd)) (.kill [1, 2, 3, 4, 5, 6, 8, 9, 12, 13, 14, 15, 16, 17, 18, 19])))) (.kill [1, 2, 3, 4, 5, 6, 8, 9, 12, 13, 14, 15, 16, 17, 18, 19])) (.region [⟨none, .mv (.var 11), none⟩, ⟨none, .bin .add (.tmp 0) (.cst (.int .i64 1)), none⟩, ⟨some 11, .mv (.tmp 1), none⟩]))
def vX : ci := ⟨3, 20, .seq (.region [⟨some 3, .mv (.cst .nilS), none⟩, ⟨some 4, .mv (.cst .nilS), none⟩, ⟨some 5, .mv (.cst (.bool false)), none⟩]) (.seq (.region [⟨none, .mv (.var 0), none⟩, ⟨none, .mv (.var 1), none⟩, ⟨none, .mv (.var 2), none⟩, ⟨none, .call (.fn 69) [.tmp 0, .tmp 1, .tmp 2], none⟩, ⟨some 6, .mv (.tmp 3), none⟩]) (.seq (.seq (.region [⟨none, .mv (.var 6), none⟩, ⟨some 14, .un .not (.tmp 0), none⟩]) (.cond (.var 14) (.seq (.region [⟨some 3, .mv (.cst .nilS), none⟩, ⟨some 4, .mv (.cst .nilS), none⟩, ⟨some 5, .mv (.cst (.bool false)), none⟩]) .ret) .skip)) (.seq (.region [⟨none, .mv (.var 0), none⟩, ⟨none, .mv (.var 1), none⟩, ⟨none, .mv (.var 2), none⟩, ⟨none, .call (.fn 71) [.tmp 0, .tmp 1, .tmp 2], none⟩, ⟨some 7, .mv (.tmp 3), none⟩]) (.seq (.seq (.region [⟨some 8, .mv (.cst (.int .i64 1)), none⟩]) (.seq (.block 0 (.loop [3, 4, 5, 6, 9, 10, 11, 12, 13, 14, 15, 16, 17, 18, 19] dS)) (.kill [1, 2, 3, 4, 5, 6, 8, 9, 10, 11, 12, 13, 14, 15, 16, 17, 18, 19]))) (.seq (.region [⟨none, .mv (.var 0), none⟩, ⟨none, .makeSlice 1 8 (.int .i64 0) (.tmp 0) (.tmp 0), none⟩, ⟨some 10, .mv (.tmp 1), none⟩]) (.seq (.seq (.region [⟨some 11, .mv (.cst (.int .i64 0)), none⟩]) (.seq (.block 2 (.loop [1, 2, 3, 4, 5, 6, 8, 9, 12, 13, 14, 15, 16, 17, 18, 19] nc)) (.kill [0, 1, 2, 3, 4, 5, 6, 7, 8, 9, 11, 12, 13, 14, 15, 16, 17, 18, 19]))) (.seq (.region [⟨none, .mv (.var 10), none⟩, ⟨some 3, .mv (.tmp 0), none⟩, ⟨some 4, .mv (.cst .nilS), none⟩, ⟨some 5, .mv (.cst (.bool true)), none⟩]) .ret))))))), [.tmp 3, .tmp 4, .tmp 5]⟩
def jU : List Nat := [1, 2, 3, 4, 5, 6, 8, 9, 14, 15, 16, 17, 18, 19]
abbrev jC (v0 v7 v10 v11 v12 v13 : AV) : List AV := [v0, .undef, .undef, .undef, .undef, .undef, .undef, v7, .undef, .undef, v10, v11, v12, v13, .undef, .undef, .undef, .undef, .undef, .undef]
theorem AQ {v0 d1 d2 d3 d4 d5 d6 v7 d8 d9 v10 v11 v12 v13 d14 d15 d16 d17 d18 d19 : AV} : clear jU [v0, d1, d2, d3, d4, d5, d6, v7, d8, d9, v10, v11, v12, v13, d14, d15, d16, d17, d18, d19] = jC v0 v7 v10 v11 v12 v13 := rfl
theorem DV {E : Env} {fuel : Nat} {A : ac} {o : Out} {k : List KC} {v0 d1 d2 d3 d4 d5 d6 v7 d8 d9 v10 v11 v12 v13 d14 d15 d16 d17 d18 d19 : AV} (h : bg (evC E fuel kX) jU fuel (jC v0 v7 v10 v11 v12 v13) A = some o) :
  run E fuel (.code (.loop [1, 2, 3, 4, 5, 6, 8, 9, 14, 15, 16, 17, 18, 19] kX) :: k) [v0, d1, d2, d3, d4, d5, d6, v7, d8, d9, v10, v11, v12, v13, d14, d15, d16, d17, d18, d19] A = after E fuel k o := aG jU _ _ (by rw [AQ]; exact h)
def jT : List Nat := [1, 2, 3, 4, 5, 6, 8, 9, 13, 14, 15, 16, 17, 18, 19]
abbrev kR (v0 v7 v10 v11 v12 : AV) : List AV := [v0, .undef, .undef, .undef, .undef, .undef, .undef, v7, .undef, .undef, v10, v11, v12, .undef, .undef, .undef, .undef, .undef, .undef, .undef]
theorem AP {v0 d1 d2 d3 d4 d5 d6 v7 d8 d9 v10 v11 v12 d13 d14 d15 d16 d17 d18 d19 : AV} : clear jT [v0, d1, d2, d3, d4, d5, d6, v7, d8, d9, v10, v11, v12, d13, d14, d15, d16, d17, d18, d19] = kR v0 v7 v10 v11 v12 := rfl
theorem DU {E : Env} {fuel : Nat} {A : ac} {o : Out} {k : List KC} {v0 d1 d2 d3 d4 d5 d6 v7 d8 d9 v10 v11 v12 d13 d14 d15 d16 d17 d18 d19 : AV} (h : bg (evC E fuel nd) jT fuel (kR v0 v7 v10 v11 v12) A = some o) :
  run E fuel (.code (.loop [1, 2, 3, 4, 5, 6, 8, 9, 13, 14, 15, 16, 17, 18, 19] nd) :: k) [v0, d1, d2, d3, d4, d5, d6, v7, d8, d9, v10, v11, v12, d13, d14, d15, d16, d17, d18, d19] A = after E fuel k o := aG jT _ _ (by rw [AP]; exact h)
def dz : List Nat := [3, 4, 5, 6, 9, 10, 11, 12, 13, 14, 15, 16, 17, 18, 19]
abbrev en (v0 v1 v2 v7 v8 : AV) : List AV := [v0, v1, v2, .undef, .undef, .undef, .undef, v7, v8, .undef, .undef, .undef, .undef, .undef, .undef, .undef, .undef, .undef, .undef, .undef]
theorem pj {v0 v1 v2 d3 d4 d5 d6 v7 v8 d9 d10 d11 d12 d13 d14 d15 d16 d17 d18 d19 : AV} : clear dz [v0, v1, v2, d3, d4, d5, d6, v7, v8, d9, d10, d11, d12, d13, d14, d15, d16, d17, d18, d19] = en v0 v1 v2 v7 v8 := rfl
theorem tM {E : Env} {fuel : Nat} {A : ac} {o : Out} {k : List KC} {v0 v1 v2 d3 d4 d5 d6 v7 v8 d9 d10 d11 d12 d13 d14 d15 d16 d17 d18 d19 : AV} (h : bg (evC E fuel dS) dz fuel (en v0 v1 v2 v7 v8) A = some o) :
  run E fuel (.code (.loop [3, 4, 5, 6, 9, 10, 11, 12, 13, 14, 15, 16, 17, 18, 19] dS) :: k) [v0, v1, v2, d3, d4, d5, d6, v7, v8, d9, d10, d11, d12, d13, d14, d15, d16, d17, d18, d19] A = after E fuel k o := aG dz _ _ (by rw [pj]; exact h)
def jS : List Nat := [1, 2, 3, 4, 5, 6, 8, 9, 12, 13, 14, 15, 16, 17, 18, 19]
abbrev kQ (v0 v7 v10 v11 : AV) : List AV := [v0, .undef, .undef, .undef, .undef, .undef, .undef, v7, .undef, .undef, v10, v11, .undef, .undef, .undef, .undef, .undef, .undef, .undef, .undef]
theorem AO {v0 d1 d2 d3 d4 d5 d6 v7 d8 d9 v10 v11 d12 d13 d14 d15 d16 d17 d18 d19 : AV} : clear jS [v0, d1, d2, d3, d4, d5, d6, v7, d8, d9, v10, v11, d12, d13, d14, d15, d16, d17, d18, d19] = kQ v0 v7 v10 v11 := rfl
theorem DT {E : Env} {fuel : Nat} {A : ac} {o : Out} {k : List KC} {v0 d1 d2 d3 d4 d5 d6 v7 d8 d9 v10 v11 d12 d13 d14 d15 d16 d17 d18 d19 : AV} (h : bg (evC E fuel nc) jS fuel (kQ v0 v7 v10 v11) A = some o) :
  run E fuel (.code (.loop [1, 2, 3, 4, 5, 6, 8, 9, 12, 13, 14, 15, 16, 17, 18, 19] nc) :: k) [v0, d1, d2, d3, d4, d5, d6, v7, d8, d9, v10, v11, d12, d13, d14, d15, d16, d17, d18, d19] A = after E fuel k o := aG jS _ _ (by rw [AO]; exact h)
theorem xp : aE Try.prog Try.f50 3 [0, 1, 2, 6, 7, 8, 9, 10, 11, 12, 13, 14, 15, 16, 22, 29, 39, 45, 50, 55] [] true ([[3, 4, 5, 6, 9, 10, 11, 12, 13, 14, 15, 16, 17, 18, 19], [1, 2, 3, 4, 5, 6, 8, 9, 12, 13, 14, 15, 16, 17, 18, 19], [1, 2, 3, 4, 5, 6, 8, 9, 13, 14, 15, 16, 17, 18, 19], [1, 2, 3, 4, 5, 6, 8, 9, 14, 15, 16, 17, 18, 19]], [[3, 4, 5, 6, 9, 10, 11, 12, 13, 14, 15, 16, 17, 18, 19], [1, 2, 3, 4, 5, 6, 8, 9, 10, 11, 12, 13, 14, 15, 16, 17, 18, 19], [1, 2, 3, 4, 5, 6, 8, 9, 14, 15, 16, 17, 18, 19], [1, 2, 3, 4, 5, 6, 8, 9, 13, 14, 15, 16, 17, 18, 19], [1, 2, 3, 4, 5, 6, 8, 9, 13, 14, 15, 16, 17, 18, 19], [1, 2, 3, 4, 5, 6, 8, 9, 12, 13, 14, 15, 16, 17, 18, 19], [1, 2, 3, 4, 5, 6, 8, 9, 12, 13, 14, 15, 16, 17, 18, 19], [0, 1, 2, 3, 4, 5, 6, 7, 8, 9, 11, 12, 13, 14, 15, 16, 17, 18, 19]]) = some vX := by kernel_rfl
theorem Ij : Try.prog.funcs[50]? = some Try.f50 := by kernel_rfl
def dR : MC := .seq (.seq (.region [⟨none, .mv (.var 12), none⟩, ⟨none, .mv (.var 0), none⟩, ⟨none, .lenSl (.tmp 1), none⟩, ⟨none, .bin .lss (.tmp 0) (.tmp 2), none⟩, ⟨none, .mv (.tmp 3), none⟩, ⟨none, .mv (.var 11), some (.tmp 4, true)⟩, ⟨none, .bin .lss (.tmp 5) (.cst (.int .i64 0)), some (.tmp 4, true)⟩, ⟨some 16, .pick (.tmp 4) (.tmp 6) (.cst (.bool false)), none⟩]) (.cond (.var 16) .skip (.exit 4))) (.seq (.seq (.block 5 (.seq (.seq (.region [⟨none, .mv (.var 10), none⟩, ⟨none, .bin .eql (.tmp 0) (.cst (.int .i64 0)), none⟩, ⟨none, .mv (.tmp 1), none⟩, ⟨none, .mv (.var 12), some (.tmp 2, true)⟩, ⟨none, .mv (.var 5), some (.tmp 2, true)⟩, ⟨none, .bin .neq (.tmp 3) (.tmp 4), some (.tmp 2, true)⟩, ⟨none, .pick (.tmp 2) (.tmp 5) (.cst (.bool false)), none⟩, ⟨none, .mv (.tmp 6), none⟩, ⟨none, .mv (.var 0), some (.tmp 7, false)⟩, ⟨none, .mv (.var 12), some (.tmp 7, false)⟩, ⟨none, .indexSl 4 (.tmp 8) (.tmp 9), some (.tmp 7, false)⟩, ⟨none, .fieldAddr 0 (.tmp 10), some (.tmp 7, false)⟩, ⟨none, .load false 1 (.tmp 11), some (.tmp 7, false)⟩, ⟨none, .mv (.var 8), some (.tmp 7, false)⟩, ⟨none, .bin .neq (.tmp 12) (.tmp 13), some (.tmp 7, false)⟩, ⟨some 17, .pick (.tmp 7) (.cst (.bool true)) (.tmp 14), none⟩]) (.cond (.var 17) (.exit 5) .skip)) (.seq (.region [⟨none, .mv (.var 2), none⟩, ⟨none, .mv (.var 3), none⟩, ⟨none, .bin .sub (.tmp 1) (.cst (.int .i64 1)), none⟩, ⟨none, .mv (.var 10), none⟩, ⟨none, .bin .sub (.tmp 2) (.tmp 3), none⟩, ⟨none, .indexSl 1 (.tmp 0) (.tmp 4), none⟩, ⟨none, .load false 1 (.tmp 5), none⟩, ⟨none, .mv (.var 0), none⟩, ⟨none, .mv (.var 12), none⟩, ⟨none, .indexSl 4 (.tmp 7) (.tmp 8), none⟩, ⟨none, .fieldAddr 1 (.tmp 9), none⟩, ⟨none, .load false 1 (.tmp 10), none⟩, ⟨none, .indexSl 1 (.tmp 6) (.tmp 11), none⟩, ⟨none, .load false 1 (.tmp 12), none⟩, ⟨none, .mv (.var 6), none⟩, ⟨none, .indexSl 1 (.tmp 13) (.tmp 14), none⟩, ⟨none, .load false 1 (.tmp 15), none⟩, ⟨some 13, .mv (.tmp 16), none⟩]) (.seq (.region [⟨none, .mv (.var 13), none⟩, ⟨none, .bin .gtr (.tmp 0) (.cst (.int .i64 (-1125899906842624))), none⟩, ⟨none, .mv (.tmp 1), none⟩, ⟨none, .mv (.var 7), some (.tmp 2, true)⟩, ⟨none, .mv (.var 0), some (.tmp 2, true)⟩, ⟨none, .mv (.var 12), some (.tmp 2, true)⟩, ⟨none, .indexSl 4 (.tmp 4) (.tmp 5), some (.tmp 2, true)⟩, ⟨none, .load true 4 (.tmp 6), some (.tmp 2, true)⟩, ⟨none, .mv (.var 1), some (.tmp 2, true)⟩, ⟨none, .call (.fn 70) [.tmp 7, .tmp 8], some (.tmp 2, true)⟩, ⟨none, .bin .add (.tmp 3) (.tmp 9), some (.tmp 2, true)⟩, ⟨none, .mv (.var 13), some (.tmp 2, true)⟩, ⟨none, .bin .add (.tmp 10) (.tmp 11), some (.tmp 2, true)⟩, ⟨none, .bin .gtr (.tmp 12) (.cst (.int .i64 0)), some (.tmp 2, true)⟩, ⟨some 18, .pick (.tmp 2) (.tmp 13) (.cst (.bool false)), none⟩]) (.cond (.var 18) (.region [⟨none, .mv (.var 12), none⟩, ⟨some 11, .mv (.tmp 0), none⟩]) .skip))))) (.kill [4, 13, 14, 15, 16, 17, 18, 19, 20])) (.region [⟨none, .mv (.var 12), none⟩, ⟨none, .bin .add (.tmp 0) (.cst (.int .i64 1)), none⟩, ⟨some 12, .mv (.tmp 1), none⟩]))
def kV : MC := .seq (.seq (.region [⟨none, .mv (.var 10), none⟩, ⟨none, .mv (.var 3), none⟩, ⟨some 15, .bin .lss (.tmp 0) (.tmp 1), none⟩]) (.cond (.var 15) .skip (.exit 2))) (.seq (.seq (.block 3 (.seq (.region [⟨some 11, .mv (.cst (.int .i64 (-1))), none⟩]) (.seq (.seq (.region [⟨some 12, .mv (.cst (.int .i64 0)), none⟩]) (.seq (.block 4 (.loop [4, 13, 14, 15, 16, 17, 18, 19, 20] dR)) (.kill [4, 8, 12, 13, 14, 15, 16, 17, 18, 19, 20]))) (.seq (.seq (.region [⟨none, .mv (.var 11), none⟩, ⟨some 19, .bin .lss (.tmp 0) (.cst (.int .i64 0)), none⟩]) (.cond (.var 19) (.exit 2) .skip)) (.seq (.region [⟨none, .mv (.var 9), none⟩, ⟨none, .mv (.var 11), none⟩, ⟨none, .buildF 1 [.tmp 1], none⟩, ⟨none, .append 1 8 (.tmp 0) (.tmp 2), none⟩, ⟨some 9, .mv (.tmp 3), none⟩]) (.seq (.region [⟨none, .mv (.var 7), none⟩, ⟨none, .mv (.var 0), none⟩, ⟨none, .mv (.var 11), none⟩, ⟨none, .indexSl 4 (.tmp 1) (.tmp 2), none⟩, ⟨none, .load true 4 (.tmp 3), none⟩, ⟨none, .mv (.var 1), none⟩, ⟨none, .call (.fn 70) [.tmp 4, .tmp 5], none⟩, ⟨none, .bin .add (.tmp 0) (.tmp 6), none⟩, ⟨some 7, .mv (.tmp 7), none⟩]) (.region [⟨none, .mv (.var 0), none⟩, ⟨none, .mv (.var 11), none⟩, ⟨none, .indexSl 4 (.tmp 0) (.tmp 1), none⟩, ⟨none, .fieldAddr 1 (.tmp 2), none⟩, ⟨none, .load false 1 (.tmp 3), none⟩, ⟨some 8, .mv (.tmp 4), none⟩]))))))) (.kill [4, 11, 12, 13, 14, 15, 16, 17, 18, 19, 20])) (.region [⟨none, .mv (.var 10), none⟩, ⟨none, .bin .add (.tmp 0) (.cst (.int .i64 1)), none⟩, ⟨some 10, .mv (.tmp 1), none⟩]))
def jX : MC := .seq (.seq (.region [⟨none, .mv (.var 5), none⟩, ⟨none, .mv (.var 0), none⟩, ⟨none, .lenSl (.tmp 1), none⟩, ⟨some 14, .bin .lss (.tmp 0) (.tmp 2), none⟩]) (.cond (.var 14) .skip (.exit 0))) (.seq (.seq (.block 1 (.seq (.region [⟨none, .mv (.var 0), none⟩, ⟨none, .mv (.var 5), none⟩, ⟨none, .indexSl 4 (.tmp 0) (.tmp 1), none⟩, ⟨none, .fieldAddr 0 (.tmp 2), none⟩, ⟨none, .load false 1 (.tmp 3), none⟩, ⟨some 6, .mv (.tmp 4), none⟩]) (.seq (.region [⟨some 7, .mv (.cst (.int .i64 0)), none⟩]) (.seq (.region [⟨none, .mv (.var 6), none⟩, ⟨some 8, .mv (.tmp 0), none⟩]) (.seq (.region [⟨some 9, .mv (.cst .nilS), none⟩]) (.seq (.seq (.region [⟨some 10, .mv (.cst (.int .i64 0)), none⟩]) (.seq (.block 2 (.loop [4, 11, 12, 13, 14, 15, 16, 17, 18, 19, 20] kV)) (.kill [4, 6, 7, 8, 10, 11, 12, 13, 14, 15, 16, 17, 18, 19, 20]))) (.seq (.region [⟨none, .mv (.var 9), none⟩, ⟨none, .lenSl (.tmp 0), none⟩, ⟨none, .mv (.var 3), none⟩, ⟨some 20, .bin .eql (.tmp 1) (.tmp 2), none⟩]) (.cond (.var 20) (.seq (.region [⟨none, .mv (.var 9), none⟩, ⟨some 4, .mv (.tmp 0), none⟩]) .ret) .skip)))))))) (.kill [4, 6, 7, 8, 9, 10, 11, 12, 13, 14, 15, 16, 17, 18, 19, 20])) (.region [⟨none, .mv (.var 5), none⟩, ⟨none, .bin .add (.tmp 0) (.cst (.int .i64 1)), none⟩, ⟨some 5, .mv (.tmp 1), none⟩]))
def Fi : ci := ⟨4, 21, .seq (.region [⟨some 4, .mv (.cst .nilS), none⟩]) (.seq (.seq (.region [⟨some 5, .mv (.cst (.int .i64 0)), none⟩]) (.seq (.block 0 (.loop [4, 6, 7, 8, 9, 10, 11, 12, 13, 14, 15, 16, 17, 18, 19, 20] jX)) (.kill [0, 1, 2, 3, 4, 5, 6, 7, 8, 9, 10, 11, 12, 13, 14, 15, 16, 17, 18, 19, 20]))) (.seq (.region [⟨some 4, .mv (.cst .nilS), none⟩]) .ret)), [.tmp 4]⟩
def gm : List Nat := [4, 13, 14, 15, 16, 17, 18, 19, 20]
abbrev gE (v0 v1 v2 v3 v5 v6 v7 v8 v9 v10 v11 v12 : AV) : List AV := [v0, v1, v2, v3, .undef, v5, v6, v7, v8, v9, v10, v11, v12, .undef, .undef, .undef, .undef, .undef, .undef, .undef, .undef]
theorem xz {v0 v1 v2 v3 d4 v5 v6 v7 v8 v9 v10 v11 v12 d13 d14 d15 d16 d17 d18 d19 d20 : AV} : clear gm [v0, v1, v2, v3, d4, v5, v6, v7, v8, v9, v10, v11, v12, d13, d14, d15, d16, d17, d18, d19, d20] = gE v0 v1 v2 v3 v5 v6 v7 v8 v9 v10 v11 v12 := rfl
theorem Ai {E : Env} {fuel : Nat} {A : ac} {o : Out} {k : List KC} {v0 v1 v2 v3 d4 v5 v6 v7 v8 v9 v10 v11 v12 d13 d14 d15 d16 d17 d18 d19 d20 : AV} (h : bg (evC E fuel dR) gm fuel (gE v0 v1 v2 v3 v5 v6 v7 v8 v9 v10 v11 v12) A = some o) :
  run E fuel (.code (.loop [4, 13, 14, 15, 16, 17, 18, 19, 20] dR) :: k) [v0, v1, v2, v3, d4, v5, v6, v7, v8, v9, v10, v11, v12, d13, d14, d15, d16, d17, d18, d19, d20] A = after E fuel k o := aG gm _ _ (by rw [xz]; exact h)
def md : List Nat := [4, 11, 12, 13, 14, 15, 16, 17, 18, 19, 20]
abbrev qm (v0 v1 v2 v3 v5 v6 v7 v8 v9 v10 : AV) : List AV := [v0, v1, v2, v3, .undef, v5, v6, v7, v8, v9, v10, .undef, .undef, .undef, .undef, .undef, .undef, .undef, .undef, .undef, .undef]
theorem xy {v0 v1 v2 v3 d4 v5 v6 v7 v8 v9 v10 d11 d12 d13 d14 d15 d16 d17 d18 d19 d20 : AV} : clear md [v0, v1, v2, v3, d4, v5, v6, v7, v8, v9, v10, d11, d12, d13, d14, d15, d16, d17, d18, d19, d20] = qm v0 v1 v2 v3 v5 v6 v7 v8 v9 v10 := rfl
theorem Ah {E : Env} {fuel : Nat} {A : ac} {o : Out} {k : List KC} {v0 v1 v2 v3 d4 v5 v6 v7 v8 v9 v10 d11 d12 d13 d14 d15 d16 d17 d18 d19 d20 : AV} (h : bg (evC E fuel kV) md fuel (qm v0 v1 v2 v3 v5 v6 v7 v8 v9 v10) A = some o) :
  run E fuel (.code (.loop [4, 11, 12, 13, 14, 15, 16, 17, 18, 19, 20] kV) :: k) [v0, v1, v2, v3, d4, v5, v6, v7, v8, v9, v10, d11, d12, d13, d14, d15, d16, d17, d18, d19, d20] A = after E fuel k o := aG md _ _ (by rw [xy]; exact h)
def mb : List Nat := [4, 6, 7, 8, 9, 10, 11, 12, 13, 14, 15, 16, 17, 18, 19, 20]
abbrev kM (v0 v1 v2 v3 v5 : AV) : List AV := [v0, v1, v2, v3, .undef, v5, .undef, .undef, .undef, .undef, .undef, .undef, .undef, .undef, .undef, .undef, .undef, .undef, .undef, .undef, .undef]
theorem AJ {v0 v1 v2 v3 d4 v5 d6 d7 d8 d9 d10 d11 d12 d13 d14 d15 d16 d17 d18 d19 d20 : AV} : clear mb [v0, v1, v2, v3, d4, v5, d6, d7, d8, d9, d10, d11, d12, d13, d14, d15, d16, d17, d18, d19, d20] = kM v0 v1 v2 v3 v5 := rfl
theorem Ag {E : Env} {fuel : Nat} {A : ac} {o : Out} {k : List KC} {v0 v1 v2 v3 d4 v5 d6 d7 d8 d9 d10 d11 d12 d13 d14 d15 d16 d17 d18 d19 d20 : AV} (h : bg (evC E fuel jX) mb fuel (kM v0 v1 v2 v3 v5) A = some o) :
  run E fuel (.code (.loop [4, 6, 7, 8, 9, 10, 11, 12, 13, 14, 15, 16, 17, 18, 19, 20] jX) :: k) [v0, v1, v2, v3, d4, v5, d6, d7, d8, d9, d10, d11, d12, d13, d14, d15, d16, d17, d18, d19, d20] A = after E fuel k o := aG mb _ _ (by rw [AJ]; exact h)
theorem Ej : aE Try.prog Try.f72 4 [0, 1, 2, 3, 8, 9, 10, 11, 12, 13, 14, 15, 16, 17, 21, 32, 42, 60, 92, 95, 116] [] true ([[4, 6, 7, 8, 9, 10, 11, 12, 13, 14, 15, 16, 17, 18, 19, 20], [4, 11, 12, 13, 14, 15, 16, 17, 18, 19, 20], [4, 13, 14, 15, 16, 17, 18, 19, 20]], [[4, 13, 14, 15, 16, 17, 18, 19, 20], [4, 8, 12, 13, 14, 15, 16, 17, 18, 19, 20], [4, 11, 12, 13, 14, 15, 16, 17, 18, 19, 20], [4, 6, 7, 8, 10, 11, 12, 13, 14, 15, 16, 17, 18, 19, 20], [4, 6, 7, 8, 9, 10, 11, 12, 13, 14, 15, 16, 17, 18, 19, 20], [0, 1, 2, 3, 4, 5, 6, 7, 8, 9, 10, 11, 12, 13, 14, 15, 16, 17, 18, 19, 20]]) = some Fi := by kernel_rfl
theorem at30 : Try.prog.funcs[72]? = some Try.f72 := by kernel_rfl
theorem oC {a b : Int} (h : -9223372036854775808 <= a + b /\ a + b <= 9223372036854775807) : af .add (.int .i64 a) (.int .i64 b) = some (.int .i64 (a + b)) := by
 simp only [af]; rw [if_pos trivial, dl h]
theorem wL {a b : Int} (h : -9223372036854775808 <= a - b /\ a - b <= 9223372036854775807) : af .sub (.int .i64 a) (.int .i64 b) = some (.int .i64 (a - b)) := by
 simp only [af]; rw [if_pos trivial, dl h]
theorem wN (a b : Int) : af .gtr (.int .i64 a) (.int .i64 b) = some (.bool (decide (a > b))) := by simp [af]
theorem wM (a b : Int) : af .lss (.int .i64 a) (.int .i64 b) = some (.bool (decide (a < b))) := by simp [af]
theorem CF (a b : Int) : af .eql (.int .i64 a) (.int .i64 b) = some (.bool (decide (a = b))) := by simp [af]
theorem zi (a b : Int) : af .neq (.int .i64 a) (.int .i64 b) = some (.bool (decide (a ≠ b))) := by simp [af]
theorem uP (a b : Int) : af .leq (.int .i64 a) (.int .i64 b) = some (.bool (decide (a <= b))) := by simp [af]
def qf (sz : Nat) (A : ac) (s : AV) (xs : List AV) : Prop := (s = .nilS /\ xs = []) \/ ∃ id gr, s = .sl id 0 xs.length /\ xs ≠ [] /\ A[id]? = some (.row sz gr xs)
section
variable {sz : Nat} {A B : ac} {s : AV} {xs : List AV}
theorem qf.append {bytes : Nat} (h : qf sz A s xs) (x : AV) (hz : 0 < sz) (hb : 0 < bytes /\ bytes <= 1000) (hl : xs.length <= 1000) :
  ∃ s' k A', aH sz bytes A s (.fs sz [x]) = some (.sl s' 0 k, A') /\ qf sz A' (.sl s' 0 k) (xs ++ [x]) /\ A.length <= A'.length /\ (∀ j, j < A.length -> j ∉ a5 s -> A'[j]? = A[j]?) /\ (s' ∈ a5 s \/ s' = A.length) := by
 rcases h with ⟨rfl, rfl⟩ | ⟨id, gr, rfl, h1, h3⟩
 ·refine ⟨A.length, 1, A ++ [.row sz false [x]], ?_, .inr ⟨A.length, false, rfl, by simp, by simp⟩, by simp, fun j hj _ => by rw [List.getElem?_append_left hj], .inr rfl⟩
  simp [aH, aU, hz, hb.1]; omega
 ·have hid := (List.getElem?_eq_some_iff.1 h3).1
  have hm : (xs.length + 1) * bytes <= 1001 * 1000 := Nat.mul_le_mul (by omega) hb.2
  refine ⟨id, (xs ++ [x]).length, A.set id (.row sz true (xs ++ [x])), ?_, .inr ⟨id, true, rfl, by simp, by simp [hid]⟩, by simp, fun j hj hn => ?_, .inl (by simp [a5])⟩
  ·simp only [aH, aU, h3]
   simp [h1, hz, hb.1]
   omega
  ·rw [List.getElem?_set_ne (fun e => hn (by simp [a5, e]))]
theorem qf.frz (h : qf sz A s xs) (n : Nat) (hx : ∀ x ∈ xs, Proofs.Ytemklhljjaniaaa.frz A n x = x) : Proofs.Ytemklhljjaniaaa.frz A (n + 1) s = slA sz xs := by
 have e : xs.map (Proofs.Ytemklhljjaniaaa.frz A n) = xs := by
  conv => rhs; rw [<- List.map_id xs]
  exact List.map_congr_left hx
 rcases h with ⟨rfl, rfl⟩ | ⟨id, gr, rfl, h1, h3⟩
 ·rfl
 ·simp only [Proofs.Ytemklhljjaniaaa.frz, h3, List.drop_zero]
  rw [List.take_of_length_le (Nat.le_refl _), e]
  cases xs with
  | nil => exact absurd rfl h1
  | cons y r => rfl
end
def uH : List (FuncId × aL) := [(73, aF 4 M32), (70, aF 4 M39)]
def ff : List (FuncId × aL) := [(69, aF 4 M28), (73, aF 4 M32), (70, aF 4 M39)]
@[simp] theorem Hb : aB ff 69 = some (aF 4 M28) := rfl
@[simp] theorem G9 : aB ff 73 = some (aF 4 M32) := rfl
@[simp] theorem G8 : aB ff 70 = some (aF 4 M39) := rfl
theorem pC : ∀ f M, aB ff f = some M -> an Try.prog GC f M := ak (an.of_pure vu 4) (ak (an.of_pure mL 4) (ak (an.of_pure qn 4) az))
theorem m39 {n : Int} {a : aW} {p : Int} (hn : n <= 32) (h : okA n a) (hp : a8 p) : M39 [.agg [.int .i64 a.f, .int .i64 a.t, .int .i64 a.w, .int .i64 a.k], .int .i64 p] = some (.int .i64 (a.len p)) := by
 have h32 : okA 32 a := by
  obtain ⟨h1, h2, h3, h4⟩ := h
  exact ⟨by omega, by omega, h3, h4⟩
 exact if_pos ⟨h32, hp⟩
theorem lY (fuel : Nat) (A : ac) {s : List Int} {b : AV} (hb : SlA 1 (ag s) b) {n : Nat} (hsl : s.length = n) (hn : n <= 32) {i : Nat} (hi : i < n) (x p : AV) :
  run (au GC ff) fuel [.code c9] (eI (.int .i64 (n : Int)) x p b (.int .i64 (i : Int))) A =
   if 0 <= s.getD i 0 /\ s.getD i 0 <= 1000000000 then some (.normal (eI (.int .i64 (n : Int)) x p b (.int .i64 ((i + 1 : Nat) : Int))) A) else some (.ret [.int .i64 (n : Int), x, p, b, .bool false, .undef, .int .i64 (i : Int), .undef, .undef, .bool true, .bool true, .undef, .undef] A) := by
 have b1 := bc i n .i64
 rw [decide_eq_true hi] at b1
 have b3 := aK i (by omega)
 have x1 := hb.int (A := A) _ _ (List.getElem?_eq_getElem (show i < s.length by omega)) .i64
 have hg1 : s.getD i 0 = s[i] := by rw [List.getD_eq_getElem?_getD, List.getElem?_eq_getElem (by omega)]; rfl
 rw [<- hg1] at x1
 have m := ee (s.getD i 0) 0 1000000000
 obtain ⟨z, hz⟩ : ∃ z, z = s.getD i 0 := ⟨_, rfl⟩
 rw [<- hz] at x1 m ⊢
 obtain ⟨i1, hi1⟩ : ∃ i1 : Nat, i1 = i + 1 := ⟨_, rfl⟩
 rw [<- hi1] at b3 ⊢
 by_cases h : 0 <= z /\ z <= 1000000000
 ·rw [if_pos h]
  rw [decide_eq_true h] at m
  simp [c9, b1, b3, x1, m, -af, -ab]
 ·rw [if_neg h]
  rw [decide_eq_false h] at m
  simp [c9, b1, x1, m, -af, -ab]
theorem lX (fuel : Nat) (A : ac) {s : List Int} {a b : AV} {l : List aW} (ha : aX a = some l) (hb : SlA 1 (ag s) b) {n : Nat} (hsl : s.length = n) (hn : n <= 32) {p : Int} (hp : a8 p) (hv : ∀ x ∈ l, okA n x) (hs : ∀ x ∈ s, 0 <= x /\ x <= 1000000000) {i : Nat} (hi : i < l.length) :
  run (au GC ff) fuel [.code dq] (eH a (.int .i64 p) b (.int .i64 (i : Int))) A =
   if s.getD l[i].f.toNat 0 + l[i].len p <= s.getD l[i].t.toNat 0 then some (.normal (eH a (.int .i64 p) b (.int .i64 ((i + 1 : Nat) : Int))) A) else some (.ret [.undef, a, .int .i64 p, b, .bool false, .undef, .undef, .int .i64 (i : Int), .undef, .undef, .undef, .bool true, .bool true] A) := by
 obtain ⟨hl, hm⟩ := bN ha
 have x1 := de ha hi A .i64
 have b1 := bc i l.length .i64
 rw [decide_eq_true hi] at b1
 have b3 := aK i (by omega)
 have hok := hv _ (List.getElem_mem hi)
 obtain ⟨f, hf, hfn⟩ := fN hok.1
 obtain ⟨t, ht, htn⟩ := fN hok.2.1
 have m := m39 (by omega) hok hp
 have hle := dT (n := 32) (a := l[i]) ⟨by have := hok.1; omega, by have := hok.2.1; omega, hok.2.2.1, hok.2.2.2⟩ hp
 have e1 : l[i].f.toNat = f := by omega
 have e2 : l[i].t.toNat = t := by omega
 rw [e1, e2]
 rw [hf, ht] at x1 m
 have hfs : f < s.length := by omega
 have hts : t < s.length := by omega
 have y1 := hb.int (A := A) _ _ (List.getElem?_eq_getElem hfs) .i64
 have y2 := hb.int (A := A) _ _ (List.getElem?_eq_getElem hts) .i64
 have hg1 : s.getD f 0 = s[f] := by rw [List.getD_eq_getElem?_getD, List.getElem?_eq_getElem hfs]; rfl
 have hg2 : s.getD t 0 = s[t] := by rw [List.getD_eq_getElem?_getD, List.getElem?_eq_getElem hts]; rfl
 have h1 := hs _ (List.getElem_mem hfs)
 rw [<- hg1] at y1 h1
 rw [<- hg2] at y2
 obtain ⟨w, hw⟩ : ∃ w, w = l[i].len p := ⟨_, rfl⟩
 rw [<- hw] at m hle ⊢
 have b2 := oC (a := s.getD f 0) (b := w) (by omega)
 have b4 := wM (s.getD t 0) (s.getD f 0 + w)
 obtain ⟨z, hz⟩ : ∃ z, z = s.getD f 0 := ⟨_, rfl⟩
 obtain ⟨y, hy⟩ : ∃ z, z = s.getD t 0 := ⟨_, rfl⟩
 rw [<- hz] at y1 b2 b4 ⊢
 rw [<- hy] at y2 b4 ⊢
 obtain ⟨zw, hzw⟩ : ∃ zw, zw = z + w := ⟨_, rfl⟩
 rw [<- hzw] at b2 b4 ⊢
 obtain ⟨i1, hi1⟩ : ∃ i1 : Nat, i1 = i + 1 := ⟨_, rfl⟩
 rw [<- hi1] at b3 ⊢
 by_cases h : zw <= y
 ·rw [if_pos h]
  rw [decide_eq_false (by omega)] at b4
  simp [dq, hl, b1, b2, b3, b4, x1, y1, y2, m, -af, -ab, -aj]
 ·rw [if_neg h]
  rw [decide_eq_true (by omega)] at b4
  simp [dq, hl, b1, b2, b4, x1, y1, y2, m, -af, -ab, -aj]
open Classical in
theorem sX : aq Try.prog GC 52 M19 := by
 refine aq.of_ev (E := au GC ff) (av pC) rfl If xk 1 ?_
 intro args r h
 unfold M19 at h
 split at h
 rotate_left
 ·cases h
 rename_i n a p b
 split at h
 rotate_left
 ·cases h
 rename_i l s hl hs
 injection h with h; subst h
 refine ⟨300, ?_⟩
 obtain ⟨hb, _, hsl⟩ := dC hs
 have f1 : ∀ A n, frz A n a = a := fun A n => bX hl A n
 have f3 := bL hl
 have m1 : M28 [.int .i64 n, a, .int .i64 p] = some (.bool (decide (a6 n l p))) := by simp only [M28, hl, Option.map_some]
 have hlen := hb.len
 have hlen' : (s.map (AV.int .i64)).length = s.length := by simp
 rw [hlen'] at hlen
 rw [aN _ _ rfl]
 by_cases hr : a6 n l p
 rotate_left
 ·rw [decide_eq_false hr] at m1
  rw [decide_eq_false (show ¬ bY n l p s from fun h => hr h.1)]
  simp [vW, f1, f3, m1, aS, aZ, bQ, -frz, -aj]
 rw [decide_eq_true hr] at m1
 obtain ⟨m, rfl⟩ : ∃ m : Nat, n = (m : Int) := ⟨n.toNat, by have := hr.1.1; omega⟩
 have b1 := zi (s.length : Int) m
 by_cases h1 : (s.length : Int) = (m : Int)
 rotate_left
 ·rw [decide_eq_true h1] at b1
  rw [decide_eq_false (show ¬ bY m l p s from fun h => h1 h.2.1)]
  simp [vW, f1, f3, m1, hlen, b1, aS, aZ, bQ, -frz, -aj, -af]
 rw [decide_eq_false (not_not_intro h1)] at b1
 have hm32 := hr.1.1
 have hsm : s.length = m := by omega
 have lp1 := bz (E := au GC ff) (fuel := 300) (a := c9) (mask := dy) (fun i => eI (.int .i64 (m : Int)) a (.int .i64 p) b (.int .i64 (i : Int))) (fun _ => []) m (fun i => ¬ (0 <= s.getD i 0 /\ s.getD i 0 <= 1000000000))
  (oF := fun i => .ret [.int .i64 (m : Int), a, .int .i64 p, b, .bool false, .undef, .int .i64 (i : Int), .undef, .undef, .bool true, .bool true, .undef, .undef] []) (oE := .exit 0 ((eI (.int .i64 (m : Int)) a (.int .i64 p) b (.int .i64 (m : Int))).set 9 (.bool false)) [])
  (fun _ => pi) (fun _ _ _ h => by cases h) (fun _ _ h => by cases h)
  (fun i hi hp => by
   rw [lY _ [] hb hsm (by omega) hi]
   exact if_pos (Classical.not_not.1 hp))
  (fun i hi hp => by
   rw [lY _ [] hb hsm (by omega) hi]
   exact if_neg hp)
  (by simp [c9]) (show m < 300 by omega)
 have hsr : s.length <= 32 := by omega
 have hrange : (∀ i, i < m -> ¬ ¬ (0 <= s.getD i 0 /\ s.getD i 0 <= 1000000000)) ↔ ∀ x ∈ s, 0 <= x /\ x <= 1000000000 := by
  constructor
  ·intro h x hx
   obtain ⟨i, hi, rfl⟩ := List.mem_iff_getElem.1 hx
   have := Classical.not_not.1 (h i (by omega))
   rw [List.getD_eq_getElem?_getD, List.getElem?_eq_getElem hi] at this
   exact this
  ·intro h i hi
   refine not_not_intro ?_
   rw [List.getD_eq_getElem?_getD, List.getElem?_eq_getElem (by omega)]
   exact h _ (List.getElem_mem _)
 rcases lp1 with ⟨i, hi, hp, hj, lp1⟩ | ⟨hp, lp1⟩
 ·have lp1 : bg (evC (au GC ff) 300 c9) dy 300 (eI (.int .i64 (m : Int)) a (.int .i64 p) b (.int .i64 0)) [] = _ := lp1
  rw [decide_eq_false (show ¬ bY m l p s from fun h => (hrange.2 h.2.2.1 i hi) hp)]
  simp [vW, f1, f3, m1, hlen, b1, qL lp1, aS, aZ, bQ, -frz, -aj, -af]
 have lp1 : bg (evC (au GC ff) 300 c9) dy 300 (eI (.int .i64 (m : Int)) a (.int .i64 p) b (.int .i64 0)) [] = _ := lp1
 have hin := hrange.1 hp
 have lp2 := bz (E := au GC ff) (fuel := 300) (a := dq) (mask := dx) (fun i => eH a (.int .i64 p) b (.int .i64 (i : Int))) (fun _ => []) l.length (fun i => ¬ ∀ c, l[i]? = some c -> s.getD c.f.toNat 0 + c.len p <= s.getD c.t.toNat 0)
  (oF := fun i => .ret [.undef, a, .int .i64 p, b, .bool false, .undef, .undef, .int .i64 (i : Int), .undef, .undef, .undef, .bool true, .bool true] []) (oE := .exit 2 ((eH a (.int .i64 p) b (.int .i64 (l.length : Int))).set 11 (.bool false)) [])
  (fun _ => ph) (fun _ _ _ h => by cases h) (fun _ _ h => by cases h)
  (fun i hi hp => by
   rw [lX _ [] hl hb hsm (by omega) hr.2 hr.1.2.2 hin hi]
   exact if_pos (Classical.not_not.1 hp _ (List.getElem?_eq_getElem hi)))
  (fun i hi hp => by
   rw [lX _ [] hl hb hsm (by omega) hr.2 hr.1.2.2 hin hi]
   exact if_neg fun h => hp fun c hc => by
    rw [List.getElem?_eq_getElem hi] at hc
    injection hc with hc
    rw [<- hc]; exact h)
  (by simp [dq, (bN hl).1, -aj]) (show l.length < 300 by have := hr.1.2.1; omega)
 rcases lp2 with ⟨i, hi, hp2, hj, lp2⟩ | ⟨hp2, lp2⟩
 ·have lp2 : bg (evC (au GC ff) 300 dq) dx 300 (eH a (.int .i64 p) b (.int .i64 0)) [] = _ := lp2
  rw [decide_eq_false (show ¬ bY m l p s from fun h => hp2 fun c hc => h.2.2.2 _ (List.mem_map.2 ⟨c, List.mem_of_getElem? hc, rfl⟩))]
  simp [vW, f1, f3, m1, hlen, b1, qL lp1, tL lp2, aS, aZ, bQ, -frz, -aj, -af]
 ·have lp2 : bg (evC (au GC ff) 300 dq) dx 300 (eH a (.int .i64 p) b (.int .i64 0)) [] = _ := lp2
  rw [decide_eq_true (show bY m l p s from ⟨hr, h1, hin, fun x hx => by
   obtain ⟨c, hc, rfl⟩ := List.mem_map.1 hx
   obtain ⟨i, hi, rfl⟩ := List.mem_iff_getElem.1 hc
   exact Classical.not_not.1 (hp2 i hi) _ (List.getElem?_eq_getElem hi)⟩)]
  simp [vW, f1, f3, m1, hlen, b1, qL lp1, tL lp2, aS, aZ, bQ, -frz, -aj, -af]
def nQ (l : List aW) : List Int -> Int -> Prop
 | [], _ => True
 | x :: r, at_ => (iq l x).f = at_ /\ nQ l r (iq l x).t
def sQ (p : Int) (l : List aW) (xs : List Int) : Int := (xs.map fun x => (iq l x).len p).sum
theorem nv (p : Int) (l : List aW) : ∀ (xs : List Int) (at_ s t : Int), (nQ l xs at_ /\ ∃ t', exL p l xs at_ s t = some (s + sQ p l xs, t')) \/ (¬ nQ l xs at_ /\ exL p l xs at_ s t = none)
 | [], at_, s, t => .inl ⟨trivial, t, by simp [exL, sQ]⟩
 | x :: r, at_, s, t => by
  by_cases h : (iq l x).f = at_
  ·rcases nv p l r (iq l x).t (s + (iq l x).len p) (t + (iq l x).k) with ⟨h1, t', h2⟩ | ⟨h1, h2⟩
   ·refine .inl ⟨⟨h, h1⟩, t', ?_⟩
    rw [exL, if_pos h, h2]
    simp only [sQ, List.map_cons, List.sum_cons]
    congr 2; omega
   ·refine .inr ⟨fun h' => h1 h'.2, ?_⟩
    rw [exL, if_pos h, h2]
  ·refine .inr ⟨fun h' => h h'.1, ?_⟩
   rw [exL, if_neg h]
theorem pm (l : List aW) : ∀ (xs : List Int) (at_ : Int), nQ l xs at_ ↔ (∀ x, xs[0]? = some x -> (iq l x).f = at_) /\ ∀ i x y, xs[i]? = some x -> xs[i + 1]? = some y -> (iq l y).f = (iq l x).t
 | [], at_ => by simp [nQ]
 | x :: r, at_ => by
  unfold nQ
  rw [pm l r]
  constructor
  ·rintro ⟨h1, h2, h3⟩
   refine ⟨fun y hy => by simp at hy; rw [<- hy]; exact h1, fun i a b ha hb => ?_⟩
   cases i with
   | zero =>
    have ha' : x = a := by simpa using ha
    have hb' : r[0]? = some b := hb
    rw [<- ha']; exact h2 b hb'
   | succ i => exact h3 i a b (by simpa using ha) (by simpa using hb)
  ·rintro ⟨h1, h2⟩
   exact ⟨h1 x rfl, fun y hy => h2 0 x y rfl (by simpa using hy), fun i a b ha hb => h2 (i + 1) a b (by simpa using ha) (by simpa using hb)⟩
def nxt (k i : Nat) : Nat := if i + 1 = k then 0 else i + 1
def uv (l : List aW) (xs : List Int) : Prop := ∀ i x y, xs[i]? = some x -> xs[nxt xs.length i]? = some y -> (iq l x).t = (iq l y).f
theorem tk (l : List aW) (xs : List Int) (h : 1 <= xs.length) : uv l xs ↔ nQ l xs (iq l (xs.getLastD 0)).t := by
 rw [pm]
 have hlast : xs.length - 1 < xs.length := by omega
 have hgl : xs.getLastD 0 = xs[xs.length - 1] := by
  rw [List.getLastD_eq_getLast?, List.getLast?_eq_getElem?, List.getElem?_eq_getElem hlast]; rfl
 constructor
 ·intro hr
  refine ⟨fun x hx => ?_, fun i x y hx hy => ?_⟩
  ·rw [hgl]
   exact (hr (xs.length - 1) _ x (List.getElem?_eq_getElem hlast) (by rw [nxt, if_pos (by omega)]; exact hx)).symm
  ·have hi := (List.getElem?_eq_some_iff.1 hy).1
   exact (hr i x y hx (by rw [nxt, if_neg (by omega)]; exact hy)).symm
 ·rintro ⟨h1, h2⟩ i x y hx hy
  have hi := (List.getElem?_eq_some_iff.1 hx).1
  by_cases hk : i + 1 = xs.length
  ·rw [nxt, if_pos hk] at hy
   have := h1 y hy
   rw [hgl] at this
   have e : xs[xs.length - 1] = x := by
    obtain ⟨_, e⟩ := List.getElem?_eq_some_iff.1 hx
    rw [<- e]; congr 1; omega
   rw [e] at this
   exact this.symm
  ·rw [nxt, if_neg hk] at hy
   exact (h2 i x y hx hy).symm
theorem vS {n : Int} {l : List aW} {p : Int} {c : List Int} : ck n l p c ↔ a6 n l p /\ (1 <= c.length /\ c.length <= 200) /\ j6 l c /\ uv l c /\ 0 < sQ p l c := by
 unfold ck exM
 constructor
 ·rintro ⟨hr, s, t, h1, h2⟩
  simp only [Option.ite_none_right_eq_some] at h1
  obtain ⟨⟨h3, h4⟩, h5⟩ := h1
  rcases nv p l c (iq l (c.getLastD 0)).t 0 0 with ⟨k1, t', k2⟩ | ⟨k1, k2⟩
  ·rw [k2] at h5
   injection h5 with h5
   injection h5 with h5 h6
   exact ⟨hr, h3, h4, (tk l c h3.1).2 k1, by omega⟩
  ·rw [k2] at h5; cases h5
 ·rintro ⟨hr, h3, h4, h5, h6⟩
  refine ⟨hr, ?_⟩
  rcases nv p l c (iq l (c.getLastD 0)).t 0 0 with ⟨k1, t', k2⟩ | ⟨k1, k2⟩
  ·refine ⟨_, _, by rw [if_pos ⟨h3, h4⟩, k2], by omega⟩
  ·exact absurd ((tk l c h3.1).1 h5) k1
theorem HM (k i : Nat) (h : i < k) (_hk : k <= 1000) : af .rem (.int .i64 ((i + 1 : Nat) : Int)) (.int .i64 (k : Int)) = some (.int .i64 ((nxt k i : Nat) : Int)) := by
 simp only [af]
 rw [if_pos trivial, if_neg (show ¬ (k : Int) = 0 by omega)]
 have : ((i + 1 : Nat) : Int).tmod (k : Int) = ((nxt k i : Nat) : Int) := by
  rw [Int.tmod_eq_emod_of_nonneg (by omega)]
  unfold nxt
  split
  ·rename_i e; rw [e]; simp
  ·rename_i e; exact Int.emod_eq_of_lt (by omega) (by omega)
 rw [this]
theorem th (fuel : Nat) (A : ac) {c : List Int} {a b : AV} {l : List aW} (ha : aX a = some l) (hl200 : l.length <= 200) (hb : SlA 1 (ag c) b) (hc : c.length <= 200) {i : Nat} (hi : i < c.length) (p : AV) :
  run (au GC ff) fuel [.code cY] (eG a p b (.int .i64 (i : Int))) A =
   if 0 <= c.getD i 0 /\ c.getD i 0 <= (l.length : Int) - 1 then some (.normal (eG a p b (.int .i64 ((i + 1 : Nat) : Int))) A) else some (.ret [.undef, a, p, b, .bool false, .undef, .int .i64 (i : Int), .undef, .undef, .undef, .undef, .bool true, .bool true, .undef, .undef] A) := by
 obtain ⟨hl, hm⟩ := bN ha
 have hlc := hb.len
 rw [aA] at hlc
 have b1 := bc i c.length .i64
 rw [decide_eq_true hi] at b1
 have b3 := aK i (by omega)
 have x1 := hb.int (A := A) _ _ (List.getElem?_eq_getElem hi) .i64
 have hg1 : c.getD i 0 = c[i] := by rw [List.getD_eq_getElem?_getD, List.getElem?_eq_getElem hi]; rfl
 rw [<- hg1] at x1
 have b2 := wL (a := (l.length : Int)) (b := 1) (by omega)
 have m := ee (c.getD i 0) 0 ((l.length : Int) - 1)
 obtain ⟨z, hz⟩ : ∃ z, z = c.getD i 0 := ⟨_, rfl⟩
 rw [<- hz] at x1 m ⊢
 obtain ⟨q, hq⟩ : ∃ q, q = (l.length : Int) - 1 := ⟨_, rfl⟩
 rw [<- hq] at b2 m ⊢
 obtain ⟨i1, hi1⟩ : ∃ i1 : Nat, i1 = i + 1 := ⟨_, rfl⟩
 rw [<- hi1] at b3 ⊢
 by_cases h : 0 <= z /\ z <= q
 ·rw [if_pos h]
  rw [decide_eq_true h] at m
  simp [cY, hl, hlc, b1, b2, b3, x1, m, -af, -ab, -aj]
 ·rw [if_neg h]
  rw [decide_eq_false h] at m
  simp [cY, hl, hlc, b1, b2, x1, m, -af, -ab, -aj]
def pz (p : Int) (l : List aW) (c : List Int) (i : Nat) : Int := sQ p l (c.take i)
theorem ql (p : Int) (l : List aW) (c : List Int) {i : Nat} (hi : i < c.length) : pz p l c (i + 1) = pz p l c i + (iq l c[i]).len p := by
 unfold pz sQ; rw [List.take_succ_eq_append_getElem hi, List.map_append, List.sum_append]; simp only [List.map_cons, List.map_nil, List.sum_cons, List.sum_nil]; omega
theorem vi {n p : Int} {l : List aW} (hn : n <= 32) (hp : a8 p) (hv : ∀ x ∈ l, okA n x) {c : List Int} (hin : j6 l c) : ∀ i, i <= c.length -> -(3000000 * (i : Int)) <= pz p l c i /\ pz p l c i <= 3000000 * i
 | 0, _ => by simp [pz, sQ]
 | i + 1, h => by
  have ih := vi hn hp hv hin i (by omega)
  rw [ql p l c (by omega)]
  obtain ⟨j, hj, _, he⟩ := kB (hin _ (List.getElem_mem (show i < c.length by omega)))
  have hok := hv _ (List.getElem_mem hj)
  have hle := dT (n := 32) (a := l[j]) ⟨by have := hok.1; omega, by have := hok.2.1; omega, hok.2.2.1, hok.2.2.2⟩ hp
  rw [he]
  omega
theorem tg (fuel : Nat) (A : ac) {c : List Int} {a b : AV} {l : List aW} (ha : aX a = some l) {n p : Int} (hn : n <= 32) (hp : a8 p) (hv : ∀ x ∈ l, okA n x) (hb : SlA 1 (ag c) b) (hc : c.length <= 200) (hin : j6 l c) {i : Nat} (hi : i < c.length) :
  run (au GC ff) fuel [.code iY] (kN a (.int .i64 p) b (.int .i64 (pz p l c i)) (.int .i64 (i : Int))) A =
   if (iq l (c.getD i 0)).t = (iq l (c.getD (nxt c.length i) 0)).f then some (.normal (kN a (.int .i64 p) b (.int .i64 (pz p l c (i + 1))) (.int .i64 ((i + 1 : Nat) : Int))) A) else some (.ret [.undef, a, .int .i64 p, b, .bool false, .undef, .undef, .int .i64 (pz p l c i), .int .i64 (i : Int), .int .i64 (c.getD (nxt c.length i) 0), .undef, .undef, .undef, .bool true, .bool true] A) := by
 have hlc := hb.len
 rw [aA] at hlc
 have b1 := bc i c.length .i64
 rw [decide_eq_true hi] at b1
 have b3 := aK i (by omega)
 have b0 := HM c.length i hi (by omega)
 have hnx : nxt c.length i < c.length := by unfold nxt; split <;> omega
 have hbd := vi hn hp hv hin i (by omega)
 rw [ql p l c hi]
 have x1 := hb.int (A := A) _ _ (List.getElem?_eq_getElem hi) .i64
 have x2 := hb.int (A := A) _ _ (List.getElem?_eq_getElem hnx) .i64
 have hg1 : c.getD i 0 = c[i] := by rw [List.getD_eq_getElem?_getD, List.getElem?_eq_getElem hi]; rfl
 have hg2 : c.getD (nxt c.length i) 0 = c[nxt c.length i] := by rw [List.getD_eq_getElem?_getD, List.getElem?_eq_getElem hnx]; rfl
 rw [hg1, hg2]
 obtain ⟨j, hj, hj1, hj2⟩ := kB (hin _ (List.getElem_mem hi))
 obtain ⟨k, hk, hk1, hk2⟩ := kB (hin _ (List.getElem_mem hnx))
 rw [hj2, hk2]
 rw [hj1] at x1
 rw [hk1] at x2 ⊢
 have y1 := de ha hj A .i64
 have y2 := de ha hk A .i64
 have hok := hv _ (List.getElem_mem hj)
 have m := m39 hn hok hp
 have hle := dT (n := 32) (a := l[j]) ⟨by have := hok.1; omega, by have := hok.2.1; omega, hok.2.2.1, hok.2.2.2⟩ hp
 have b2 := zi l[j].t l[k].f
 obtain ⟨S, hS⟩ : ∃ S, S = pz p l c i := ⟨_, rfl⟩
 rw [<- hS] at hbd ⊢
 obtain ⟨w, hw⟩ : ∃ w, w = l[j].len p := ⟨_, rfl⟩
 rw [<- hw] at m hle ⊢
 have b4 := oC (a := S) (b := w) (by omega)
 obtain ⟨i1, hi1⟩ : ∃ i1 : Nat, i1 = i + 1 := ⟨_, rfl⟩
 rw [<- hi1] at b3 b0 ⊢
 obtain ⟨nx, hnx1⟩ : ∃ nx, nx = nxt c.length i := ⟨_, rfl⟩
 rw [<- hnx1] at b0 x2
 by_cases h : l[j].t = l[k].f
 ·rw [if_pos h]
  rw [decide_eq_false (not_not_intro h)] at b2
  simp [iY, hlc, b0, b1, b2, b3, b4, x1, x2, y1, y2, m, -af, -ab, -aj]
 ·rw [if_neg h]
  rw [decide_eq_true h] at b2
  simp [iY, hlc, b0, b1, b2, b3, x1, x2, y1, y2, -af, -ab, -aj]
open Classical in
theorem vz : aq Try.prog GC 53 M21 := by
 refine aq.of_ev (E := au GC ff) (av pC) rfl FF tX 1 ?_
 intro args r h
 unfold M21 at h
 split at h
 rotate_left
 ·cases h
 rename_i n a p b
 split at h
 rotate_left
 ·cases h
 rename_i l s hl hs
 injection h with h; subst h
 refine ⟨300, ?_⟩
 obtain ⟨hb, _, hsl⟩ := dC hs
 have f1 : ∀ A n, frz A n a = a := fun A n => bX hl A n
 have f3 := bL hl
 have m1 : M28 [.int .i64 n, a, .int .i64 p] = some (.bool (decide (a6 n l p))) := by simp only [M28, hl, Option.map_some]
 have hlen := hb.len
 have hlen' : (s.map (AV.int .i64)).length = s.length := by simp
 rw [hlen'] at hlen
 have m2 := ee (s.length : Int) 1 200
 rw [show decide (ck n l p s) = decide (a6 n l p /\ (1 <= s.length /\ s.length <= 200) /\ j6 l s /\ uv l s /\ 0 < sQ p l s) from by simp only [vS]]
 rw [aN _ _ rfl]
 by_cases hr : a6 n l p
 rotate_left
 ·rw [decide_eq_false hr] at m1
  rw [decide_eq_false (show ¬ (a6 n l p /\ _) from fun h => hr h.1)]
  simp [uC, f1, f3, m1, aS, aZ, bQ, -frz, -aj]
 rw [decide_eq_true hr] at m1
 by_cases h1 : 1 <= s.length /\ s.length <= 200
 rotate_left
 ·rw [decide_eq_false (by omega)] at m2
  rw [decide_eq_false (show ¬ (a6 n l p /\ (1 <= s.length /\ s.length <= 200) /\ _) from fun h => h1 h.2.1)]
  simp [uC, f1, f3, m1, hlen, m2, aS, aZ, bQ, -frz, -aj]
 rw [decide_eq_true (by omega)] at m2
 have hl200 := hr.1.2.1
 have hrange : (∀ i, i < s.length -> 0 <= s.getD i 0 /\ s.getD i 0 <= (l.length : Int) - 1) ↔ j6 l s := by
  constructor
  ·intro h x hx
   obtain ⟨i, hi, rfl⟩ := List.mem_iff_getElem.1 hx
   have := h i hi
   rw [List.getD_eq_getElem?_getD, List.getElem?_eq_getElem hi] at this
   exact this
  ·intro h i hi
   rw [List.getD_eq_getElem?_getD, List.getElem?_eq_getElem hi]
   exact h _ (List.getElem_mem _)
 have lp1 := bz (E := au GC ff) (fuel := 300) (a := cY) (mask := dw) (fun i => eG a (.int .i64 p) b (.int .i64 (i : Int))) (fun _ => []) s.length (fun i => ¬ (0 <= s.getD i 0 /\ s.getD i 0 <= (l.length : Int) - 1))
  (oF := fun i => .ret [.undef, a, .int .i64 p, b, .bool false, .undef, .int .i64 (i : Int), .undef, .undef, .undef, .undef, .bool true, .bool true, .undef, .undef] []) (oE := .exit 0 ((eG a (.int .i64 p) b (.int .i64 (s.length : Int))).set 11 (.bool false)) [])
  (fun _ => nN) (fun _ _ _ h => by cases h) (fun _ _ h => by cases h)
  (fun i hi hp => by
   rw [th _ [] hl hl200 hb h1.2 hi]
   exact if_pos (Classical.not_not.1 hp))
  (fun i hi hp => by
   rw [th _ [] hl hl200 hb h1.2 hi]
   exact if_neg hp)
  (by simp [cY, hlen, -aj]) (show s.length < 300 by omega)
 rcases lp1 with ⟨i, hi, hp, hj, lp1⟩ | ⟨hp, lp1⟩
 ·have lp1 : bg (evC (au GC ff) 300 cY) dw 300 (eG a (.int .i64 p) b (.int .i64 0)) [] = _ := lp1
  rw [decide_eq_false (show ¬ (a6 n l p /\ (1 <= s.length /\ s.length <= 200) /\ j6 l s /\ _) from fun h => hp (hrange.2 h.2.2.1 i hi))]
  simp [uC, f1, f3, m1, hlen, m2, ni lp1, aS, aZ, bQ, -frz, -aj]
 have lp1 : bg (evC (au GC ff) 300 cY) dw 300 (eG a (.int .i64 p) b (.int .i64 0)) [] = _ := lp1
 have hin := hrange.1 fun i hi => Classical.not_not.1 (hp i hi)
 have lp2 := bz (E := au GC ff) (fuel := 300) (a := iY) (mask := iH) (fun i => kN a (.int .i64 p) b (.int .i64 (pz p l s i)) (.int .i64 (i : Int))) (fun _ => []) s.length (fun i => ¬ (iq l (s.getD i 0)).t = (iq l (s.getD (nxt s.length i) 0)).f)
  (oF := fun i => .ret [.undef, a, .int .i64 p, b, .bool false, .undef, .undef, .int .i64 (pz p l s i), .int .i64 (i : Int), .int .i64 (s.getD (nxt s.length i) 0), .undef, .undef, .undef, .bool true, .bool true] []) (oE := .exit 2 ((kN a (.int .i64 p) b (.int .i64 (pz p l s s.length)) (.int .i64 (s.length : Int))).set 13 (.bool false)) [])
  (fun _ => AL) (fun _ _ _ h => by cases h) (fun _ _ h => by cases h)
  (fun i hi hp => by
   rw [tg _ [] hl (by have := hr.1.1; omega) hr.2 hr.1.2.2 hb h1.2 hin hi]
   exact if_pos (Classical.not_not.1 hp))
  (fun i hi hp => by
   rw [tg _ [] hl (by have := hr.1.1; omega) hr.2 hr.1.2.2 hb h1.2 hin hi]
   exact if_neg hp)
  (by simp [iY, hlen, -aj]) (show s.length < 300 by omega)
 have h0 : pz p l s 0 = 0 := by simp [pz, sQ]
 have hgs : ∀ i x, s[i]? = some x -> s.getD i 0 = x := fun i x h => by rw [List.getD_eq_getElem?_getD, h]; rfl
 rcases lp2 with ⟨i, hi, hp2, hj, lp2⟩ | ⟨hp2, lp2⟩
 ·have lp2 : bg (evC (au GC ff) 300 iY) iH 300 (kN a (.int .i64 p) b (.int .i64 (pz p l s 0)) (.int .i64 0)) [] = _ := lp2
  rw [h0] at lp2
  have hnx : nxt s.length i < s.length := by unfold nxt; split <;> omega
  rw [decide_eq_false (show ¬ (a6 n l p /\ (1 <= s.length /\ s.length <= 200) /\ j6 l s /\ uv l s /\ _) from fun h => hp2 (by
   have := h.2.2.2.1 i s[i] s[nxt s.length i] (List.getElem?_eq_getElem hi) (List.getElem?_eq_getElem hnx)
   rw [hgs _ _ (List.getElem?_eq_getElem hi), hgs _ _ (List.getElem?_eq_getElem hnx)]; exact this))]
  simp [uC, f1, f3, m1, hlen, m2, ni lp1, Am lp2, aS, aZ, bQ, -frz, -aj]
 ·have lp2 : bg (evC (au GC ff) 300 iY) iH 300 (kN a (.int .i64 p) b (.int .i64 (pz p l s 0)) (.int .i64 0)) [] = _ := lp2
  rw [h0] at lp2
  have hring : uv l s := fun i x y hx hy => by
   have hi := (List.getElem?_eq_some_iff.1 hx).1
   have := Classical.not_not.1 (hp2 i hi)
   rw [hgs _ _ hx, hgs _ _ hy] at this
   exact this
  have hsum : pz p l s s.length = sQ p l s := by unfold pz; rw [List.take_length]
  rw [hsum] at lp2
  have b1 := wN (sQ p l s) 0
  have e : decide (a6 n l p /\ (1 <= s.length /\ s.length <= 200) /\ j6 l s /\ uv l s /\ 0 < sQ p l s) = decide (sQ p l s > 0) := by
   rw [Bool.eq_iff_iff, decide_eq_true_eq, decide_eq_true_eq]
   exact ⟨fun h => h.2.2.2.2, fun h => ⟨hr, h1, hin, hring, h⟩⟩
  rw [e]
  obtain ⟨z, hz⟩ : ∃ z, z = sQ p l s := ⟨_, rfl⟩
  rw [<- hz] at lp2 b1 ⊢
  obtain ⟨d, hd⟩ : ∃ d, d = decide (z > 0) := ⟨_, rfl⟩
  rw [<- hd] at b1 ⊢
  simp [uC, f1, f3, m1, hlen, m2, b1, ni lp1, Am lp2, aS, aZ, bQ, -frz, -aj, -af]
def gq : MC := .seq (.seq (.region [⟨none, .mv (.var 8), none⟩, ⟨none, .mv (.var 0), none⟩, ⟨some 13, .bin .lss (.tmp 0) (.tmp 1), none⟩]) (.cond (.var 13) .skip (.exit 4))) (.seq (.seq (.block 5 (.region [⟨none, .mv (.var 6), none⟩, ⟨none, .mv (.var 7), none⟩, ⟨none, .indexSl 1 (.tmp 0) (.tmp 1), none⟩, ⟨none, .load false 1 (.tmp 2), none⟩, ⟨none, .mv (.var 8), none⟩, ⟨none, .indexSl 1 (.tmp 3) (.tmp 4), none⟩, ⟨none, .store 1 (.tmp 5) (.cst (.int .i64 (-1125899906842624))), none⟩])) (.kill [3, 9, 10, 11, 12, 13, 14, 15, 16])) (.region [⟨none, .mv (.var 8), none⟩, ⟨none, .bin .add (.tmp 0) (.cst (.int .i64 1)), none⟩, ⟨some 8, .mv (.tmp 1), none⟩]))
def fD : MC := .seq (.seq (.region [⟨none, .mv (.var 9), none⟩, ⟨none, .mv (.var 1), none⟩, ⟨none, .lenSl (.tmp 1), none⟩, ⟨some 15, .bin .lss (.tmp 0) (.tmp 2), none⟩]) (.cond (.var 15) .skip (.exit 6))) (.seq (.seq (.block 7 (.seq (.region [⟨none, .mv (.var 4), none⟩, ⟨none, .mv (.var 5), none⟩, ⟨none, .bin .sub (.tmp 1) (.cst (.int .i64 1)), none⟩, ⟨none, .indexSl 1 (.tmp 0) (.tmp 2), none⟩, ⟨none, .load false 1 (.tmp 3), none⟩, ⟨none, .mv (.var 7), none⟩, ⟨none, .indexSl 1 (.tmp 4) (.tmp 5), none⟩, ⟨none, .load false 1 (.tmp 6), none⟩, ⟨none, .mv (.var 1), none⟩, ⟨none, .mv (.var 9), none⟩, ⟨none, .indexSl 4 (.tmp 8) (.tmp 9), none⟩, ⟨none, .fieldAddr 0 (.tmp 10), none⟩, ⟨none, .load false 1 (.tmp 11), none⟩, ⟨none, .indexSl 1 (.tmp 7) (.tmp 12), none⟩, ⟨none, .load false 1 (.tmp 13), none⟩, ⟨some 10, .mv (.tmp 14), none⟩]) (.seq (.region [⟨none, .mv (.var 10), none⟩, ⟨some 16, .bin .gtr (.tmp 0) (.cst (.int .i64 (-1125899906842624))), none⟩]) (.cond (.var 16) (.region [⟨none, .mv (.var 6), none⟩, ⟨none, .mv (.var 7), none⟩, ⟨none, .indexSl 1 (.tmp 0) (.tmp 1), none⟩, ⟨none, .load false 1 (.tmp 2), none⟩, ⟨none, .mv (.var 1), none⟩, ⟨none, .mv (.var 9), none⟩, ⟨none, .indexSl 4 (.tmp 4) (.tmp 5), none⟩, ⟨none, .fieldAddr 1 (.tmp 6), none⟩, ⟨none, .load false 1 (.tmp 7), none⟩, ⟨none, .mv (.var 6), none⟩, ⟨none, .mv (.var 7), none⟩, ⟨none, .indexSl 1 (.tmp 9) (.tmp 10), none⟩, ⟨none, .load false 1 (.tmp 11), none⟩, ⟨none, .mv (.var 1), none⟩, ⟨none, .mv (.var 9), none⟩, ⟨none, .indexSl 4 (.tmp 13) (.tmp 14), none⟩, ⟨none, .fieldAddr 1 (.tmp 15), none⟩, ⟨none, .load false 1 (.tmp 16), none⟩, ⟨none, .indexSl 1 (.tmp 12) (.tmp 17), none⟩, ⟨none, .load false 1 (.tmp 18), none⟩, ⟨none, .mv (.var 10), none⟩, ⟨none, .mv (.var 1), none⟩, ⟨none, .mv (.var 9), none⟩, ⟨none, .indexSl 4 (.tmp 21) (.tmp 22), none⟩, ⟨none, .load true 4 (.tmp 23), none⟩, ⟨none, .mv (.var 2), none⟩, ⟨none, .call (.fn 70) [.tmp 24, .tmp 25], none⟩, ⟨none, .bin .add (.tmp 20) (.tmp 26), none⟩, ⟨none, .minmax true (.tmp 19) [.tmp 27], none⟩, ⟨none, .indexSl 1 (.tmp 3) (.tmp 8), none⟩, ⟨none, .store 1 (.tmp 29) (.tmp 28), none⟩]) .skip)))) (.kill [3, 8, 10, 11, 12, 13, 14, 15, 16])) (.region [⟨none, .mv (.var 9), none⟩, ⟨none, .bin .add (.tmp 0) (.cst (.int .i64 1)), none⟩, ⟨some 9, .mv (.tmp 1), none⟩]))
def gp : MC := .seq (.seq (.region [⟨none, .mv (.var 7), none⟩, ⟨none, .mv (.var 0), none⟩, ⟨some 12, .bin .lss (.tmp 0) (.tmp 1), none⟩]) (.cond (.var 12) .skip (.exit 2))) (.seq (.seq (.block 3 (.seq (.region [⟨none, .mv (.var 6), none⟩, ⟨none, .mv (.var 7), none⟩, ⟨none, .mv (.var 0), none⟩, ⟨none, .makeSlice 1 8 (.int .i64 0) (.tmp 2) (.tmp 2), none⟩, ⟨none, .indexSl 1 (.tmp 0) (.tmp 1), none⟩, ⟨none, .store 1 (.tmp 4) (.tmp 3), none⟩]) (.seq (.seq (.region [⟨some 8, .mv (.cst (.int .i64 0)), none⟩]) (.seq (.block 4 (.loop [3, 9, 10, 11, 12, 13, 14, 15, 16] gq)) (.kill [3, 8, 9, 10, 11, 12, 13, 14, 15, 16]))) (.seq (.seq (.region [⟨none, .mv (.var 5), none⟩, ⟨some 14, .bin .eql (.tmp 0) (.cst (.int .i64 0)), none⟩]) (.cond (.var 14) (.seq (.region [⟨none, .mv (.var 6), none⟩, ⟨none, .mv (.var 7), none⟩, ⟨none, .indexSl 1 (.tmp 0) (.tmp 1), none⟩, ⟨none, .load false 1 (.tmp 2), none⟩, ⟨none, .mv (.var 7), none⟩, ⟨none, .indexSl 1 (.tmp 3) (.tmp 4), none⟩, ⟨none, .store 1 (.tmp 5) (.cst (.int .i64 0)), none⟩]) (.exit 3)) .skip)) (.seq (.region [⟨some 9, .mv (.cst (.int .i64 0)), none⟩]) (.seq (.block 6 (.loop [3, 8, 10, 11, 12, 13, 14, 15, 16] fD)) (.kill [3, 8, 9, 10, 11, 12, 13, 14, 15, 16]))))))) (.kill [3, 8, 9, 10, 11, 12, 13, 14, 15, 16])) (.region [⟨none, .mv (.var 7), none⟩, ⟨none, .bin .add (.tmp 0) (.cst (.int .i64 1)), none⟩, ⟨some 7, .mv (.tmp 1), none⟩]))
def gZ : MC := .seq (.seq (.region [⟨none, .mv (.var 5), none⟩, ⟨none, .mv (.var 0), none⟩, ⟨some 11, .bin .leq (.tmp 0) (.tmp 1), none⟩]) (.cond (.var 11) .skip (.exit 0))) (.seq (.seq (.block 1 (.seq (.region [⟨none, .mv (.var 0), none⟩, ⟨none, .makeSlice 1 24 .nilS (.tmp 0) (.tmp 0), none⟩, ⟨some 6, .mv (.tmp 1), none⟩]) (.seq (.seq (.region [⟨some 7, .mv (.cst (.int .i64 0)), none⟩]) (.seq (.block 2 (.loop [3, 8, 9, 10, 11, 12, 13, 14, 15, 16] gp)) (.kill [3, 7, 8, 9, 10, 11, 12, 13, 14, 15, 16]))) (.region [⟨none, .mv (.var 4), none⟩, ⟨none, .mv (.var 6), none⟩, ⟨none, .buildSlice 1 [.tmp 1], none⟩, ⟨none, .append 1 24 (.tmp 0) (.tmp 2), none⟩, ⟨some 4, .mv (.tmp 3), none⟩])))) (.kill [3, 6, 7, 8, 9, 10, 11, 12, 13, 14, 15, 16])) (.region [⟨none, .mv (.var 5), none⟩, ⟨none, .bin .add (.tmp 0) (.cst (.int .i64 1)), none⟩, ⟨some 5, .mv (.tmp 1), none⟩]))
def Ca : ci := ⟨3, 17, .seq (.region [⟨some 3, .mv (.cst .nilS), none⟩]) (.seq (.region [⟨some 4, .mv (.cst .nilS), none⟩]) (.seq (.seq (.region [⟨some 5, .mv (.cst (.int .i64 0)), none⟩]) (.seq (.block 0 (.loop [3, 6, 7, 8, 9, 10, 11, 12, 13, 14, 15, 16] gZ)) (.kill [0, 1, 2, 3, 5, 6, 7, 8, 9, 10, 11, 12, 13, 14, 15, 16]))) (.seq (.region [⟨none, .mv (.var 4), none⟩, ⟨some 3, .mv (.tmp 0), none⟩]) .ret))), [.tmp 3]⟩
def fQ : List Nat := [3, 9, 10, 11, 12, 13, 14, 15, 16]
abbrev ge (v0 v1 v2 v4 v5 v6 v7 v8 : AV) : List AV := [v0, v1, v2, .undef, v4, v5, v6, v7, v8, .undef, .undef, .undef, .undef, .undef, .undef, .undef, .undef]
theorem xD {v0 v1 v2 d3 v4 v5 v6 v7 v8 d9 d10 d11 d12 d13 d14 d15 d16 : AV} : clear fQ [v0, v1, v2, d3, v4, v5, v6, v7, v8, d9, d10, d11, d12, d13, d14, d15, d16] = ge v0 v1 v2 v4 v5 v6 v7 v8 := rfl
theorem wu {E : Env} {fuel : Nat} {A : ac} {o : Out} {k : List KC} {v0 v1 v2 d3 v4 v5 v6 v7 v8 d9 d10 d11 d12 d13 d14 d15 d16 : AV} (h : bg (evC E fuel gq) fQ fuel (ge v0 v1 v2 v4 v5 v6 v7 v8) A = some o) :
  run E fuel (.code (.loop [3, 9, 10, 11, 12, 13, 14, 15, 16] gq) :: k) [v0, v1, v2, d3, v4, v5, v6, v7, v8, d9, d10, d11, d12, d13, d14, d15, d16] A = after E fuel k o := aG fQ _ _ (by rw [xD]; exact h)
def fP : List Nat := [3, 8, 10, 11, 12, 13, 14, 15, 16]
abbrev gc (v0 v1 v2 v4 v5 v6 v7 v9 : AV) : List AV := [v0, v1, v2, .undef, v4, v5, v6, v7, .undef, v9, .undef, .undef, .undef, .undef, .undef, .undef, .undef]
theorem xC {v0 v1 v2 d3 v4 v5 v6 v7 d8 v9 d10 d11 d12 d13 d14 d15 d16 : AV} : clear fP [v0, v1, v2, d3, v4, v5, v6, v7, d8, v9, d10, d11, d12, d13, d14, d15, d16] = gc v0 v1 v2 v4 v5 v6 v7 v9 := rfl
theorem CD {E : Env} {fuel : Nat} {A : ac} {o : Out} {k : List KC} {v0 v1 v2 d3 v4 v5 v6 v7 d8 v9 d10 d11 d12 d13 d14 d15 d16 : AV} (h : bg (evC E fuel fD) fP fuel (gc v0 v1 v2 v4 v5 v6 v7 v9) A = some o) :
  run E fuel (.code (.loop [3, 8, 10, 11, 12, 13, 14, 15, 16] fD) :: k) [v0, v1, v2, d3, v4, v5, v6, v7, d8, v9, d10, d11, d12, d13, d14, d15, d16] A = after E fuel k o := aG fP _ _ (by rw [xC]; exact h)
def gX : List Nat := [3, 8, 9, 10, 11, 12, 13, 14, 15, 16]
abbrev gb (v0 v1 v2 v4 v5 v6 v7 : AV) : List AV := [v0, v1, v2, .undef, v4, v5, v6, v7, .undef, .undef, .undef, .undef, .undef, .undef, .undef, .undef, .undef]
theorem xB {v0 v1 v2 d3 v4 v5 v6 v7 d8 d9 d10 d11 d12 d13 d14 d15 d16 : AV} : clear gX [v0, v1, v2, d3, v4, v5, v6, v7, d8, d9, d10, d11, d12, d13, d14, d15, d16] = gb v0 v1 v2 v4 v5 v6 v7 := rfl
theorem wt {E : Env} {fuel : Nat} {A : ac} {o : Out} {k : List KC} {v0 v1 v2 d3 v4 v5 v6 v7 d8 d9 d10 d11 d12 d13 d14 d15 d16 : AV} (h : bg (evC E fuel gp) gX fuel (gb v0 v1 v2 v4 v5 v6 v7) A = some o) :
  run E fuel (.code (.loop [3, 8, 9, 10, 11, 12, 13, 14, 15, 16] gp) :: k) [v0, v1, v2, d3, v4, v5, v6, v7, d8, d9, d10, d11, d12, d13, d14, d15, d16] A = after E fuel k o := aG gX _ _ (by rw [xB]; exact h)
def jM : List Nat := [3, 6, 7, 8, 9, 10, 11, 12, 13, 14, 15, 16]
abbrev je (v0 v1 v2 v4 v5 : AV) : List AV := [v0, v1, v2, .undef, v4, v5, .undef, .undef, .undef, .undef, .undef, .undef, .undef, .undef, .undef, .undef, .undef]
theorem xA {v0 v1 v2 d3 v4 v5 d6 d7 d8 d9 d10 d11 d12 d13 d14 d15 d16 : AV} : clear jM [v0, v1, v2, d3, v4, v5, d6, d7, d8, d9, d10, d11, d12, d13, d14, d15, d16] = je v0 v1 v2 v4 v5 := rfl
theorem CC {E : Env} {fuel : Nat} {A : ac} {o : Out} {k : List KC} {v0 v1 v2 d3 v4 v5 d6 d7 d8 d9 d10 d11 d12 d13 d14 d15 d16 : AV} (h : bg (evC E fuel gZ) jM fuel (je v0 v1 v2 v4 v5) A = some o) :
  run E fuel (.code (.loop [3, 6, 7, 8, 9, 10, 11, 12, 13, 14, 15, 16] gZ) :: k) [v0, v1, v2, d3, v4, v5, d6, d7, d8, d9, d10, d11, d12, d13, d14, d15, d16] A = after E fuel k o := aG jM _ _ (by rw [xA]; exact h)
theorem CJ : aE Try.prog Try.f71 3 [0, 1, 2, 6, 7, 8, 9, 10, 11, 12, 13, 16, 23, 33, 43, 53, 72] [70] false ([[3, 6, 7, 8, 9, 10, 11, 12, 13, 14, 15, 16], [3, 8, 9, 10, 11, 12, 13, 14, 15, 16], [3, 9, 10, 11, 12, 13, 14, 15, 16], [3, 8, 10, 11, 12, 13, 14, 15, 16]], [[3, 9, 10, 11, 12, 13, 14, 15, 16], [3, 8, 9, 10, 11, 12, 13, 14, 15, 16], [3, 8, 10, 11, 12, 13, 14, 15, 16], [3, 8, 9, 10, 11, 12, 13, 14, 15, 16], [3, 8, 9, 10, 11, 12, 13, 14, 15, 16], [3, 7, 8, 9, 10, 11, 12, 13, 14, 15, 16], [3, 6, 7, 8, 9, 10, 11, 12, 13, 14, 15, 16], [0, 1, 2, 3, 5, 6, 7, 8, 9, 10, 11, 12, 13, 14, 15, 16]]) = some Ca := by kernel_rfl
theorem H8 : Try.prog.funcs[71]? = some Try.f71 := by kernel_rfl
theorem sG {P : Int -> Prop} {x y : LP} (h1 : dG P x) (h2 : dG P y) : x = y := by
 rcases h1 with ⟨e1, a1⟩ | ⟨e1, a1, b1⟩ <;> rcases h2 with ⟨e2, a2⟩ | ⟨e2, a2, b2⟩
 ·rw [e1, e2]
 ·exact absurd a2 (a1 _)
 ·exact absurd a1 (a2 _)
 ·have := b1 _ a2
  have := b2 _ a1
  obtain ⟨x1, x2⟩ := x
  obtain ⟨y1, y2⟩ := y
  simp only at *
  rw [e1, e2]
  congr 1; omega
theorem xW {L : List bZ} {u v j : Nat} {z : Int} : WL L u v (j + 1) z ↔ ∃ a ∈ L, a.2.1 = v /\ ∃ z', WL L u a.1 j z' /\ z = z' + a.2.2 := by
 constructor
 ·rintro ⟨r, h1, h2, h3⟩
  have hne : r ≠ [] := fun e => by rw [e] at h2; simp at h2
  obtain ⟨q, a, rfl⟩ : ∃ q a, r = q ++ [a] := ⟨r.dropLast, r.getLast hne, (List.dropLast_concat_getLast hne).symm⟩
  obtain ⟨m, k1, k2, k3, k4⟩ := gt.1 h1
  refine ⟨a, k2, k4, hJ q, ⟨q, by rw [k3]; exact k1, by simpa using h2, rfl⟩, ?_⟩
  rw [<- h3, eP]; simp [hJ]
 ·rintro ⟨a, h1, h2, z', ⟨q, k1, k2, rfl⟩, rfl⟩
  exact ⟨q ++ [a], gt.2 ⟨a.1, k1, h1, rfl, h2⟩, by simp [k2], by rw [eP]; simp [hJ]⟩
theorem EA {L : List bZ} {n : Nat} (hok : fC n L) : ∀ {j u v : Nat} {z : Int}, WL L u v j z -> -(3000000 * (j : Int)) <= z /\ z <= 3000000 * j
 | 0, u, v, z, h => by have := (oa.1 h).2; omega
 | j + 1, u, v, z, h => by
  obtain ⟨a, h1, h2, z', h3, rfl⟩ := sJ.1 h
  have := EA hok h3
  have := (hok a h1).2.2
  omega
def stF (prev cur : Nat -> LP) (a : bZ) : Nat -> LP := fun v => if v = a.2.1 then gk (cur v) (dN (prev a.1) a.2.2) else cur v
theorem pA {L0 : List bZ} {n u j : Nat} (hok : fC n L0) {prev : Nat -> LP} (hp : ∀ v, v < n -> dG (WL L0 u v j) (prev v)) : ∀ (L : List bZ), (∀ a ∈ L, a ∈ L0) -> ∀ (cur : Nat -> LP) (D : Nat -> Int -> Prop), (∀ v, v < n -> dG (D v) (cur v)) ->
  ∀ v, v < n -> dG (fun z => D v z \/ ∃ a ∈ L, a.2.1 = v /\ ∃ z', WL L0 u a.1 j z' /\ z = z' + a.2.2) (L.foldl (stF prev) cur v)
 | [], _, cur, D, hD, v, hv => (hD v hv).congr fun z => ⟨.inl, fun h => h.elim id fun ⟨a, h, _⟩ => by cases h⟩
 | a :: L, hL, cur, D, hD, v, hv => by
  obtain ⟨o1, o2, _⟩ := hok a (hL a (by simp))
  have := pA hok hp L (fun b hb => hL b (by simp [hb])) (stF prev cur a) (fun v z => D v z \/ (a.2.1 = v /\ ∃ z', WL L0 u a.1 j z' /\ z = z' + a.2.2)) (fun w hw => by
   unfold stF
   by_cases haw : w = a.2.1
   ·rw [if_pos haw]
    exact (re (hD w hw) (rc (hp _ o1) a.2.2)).congr fun z => by
     constructor
     ·rintro (h | ⟨z', h1, h2⟩)
      ·exact .inl h
      ·exact .inr ⟨haw.symm, z', h1, by omega⟩
     ·rintro (h | ⟨_, z', h1, h2⟩)
      ·exact .inl h
      ·exact .inr ⟨z', h1, by omega⟩
   ·rw [if_neg haw]
    exact (hD w hw).congr fun z => ⟨.inl, fun h => h.elim id fun h => absurd h.1.symm haw⟩) v hv
  rw [List.foldl_cons]
  refine this.congr fun z => ?_
  constructor
  ·rintro ((h | ⟨h1, h2⟩) | ⟨b, h1, h2⟩)
   ·exact .inl h
   ·exact .inr ⟨a, by simp, h1, h2⟩
   ·exact .inr ⟨b, by simp [h1], h2⟩
  ·rintro (h | ⟨b, h1, h2⟩)
   ·exact .inl (.inl h)
   ·rcases List.mem_cons.1 h1 with rfl | h1
    ·exact .inl (.inr h2)
    ·exact .inr ⟨b, h1, h2⟩
def bst (L : List bZ) (n j u v : Nat) : LP := (hm L n v j).getD u noL
theorem gA {L : List bZ} {n j u v : Nat} (hok : fC n L) (hu : u < n) (hv : v < n) : dG (WL L u v j) (bst L n j u v) := si hok hv j u hu
theorem zv {L : List bZ} {n j u v : Nat} (hok : fC n L) (hu : u < n) (hv : v < n) : L.foldl (stF (bst L n j u)) (fun _ => noL) v = bst L n (j + 1) u v := by
 refine sG (P := WL L u v (j + 1)) ?_ (gA hok hu hv)
 exact (pA hok (fun w hw => gA hok hu hw) L (fun _ h => h) (fun _ => noL) (fun _ _ => False) (fun _ _ => nU) v hv).congr fun z => by
  rw [xW]
  exact ⟨fun h => h.elim False.elim id, .inr⟩
theorem zu {L : List bZ} {n u v : Nat} (_hu : u < n) (hv : v < n) : bst L n 0 u v = if v = u then (0, true) else noL := by
 unfold bst hm
 rw [ic _ _ _ _ _ (by simpa using hv), r9]
def enc (x : LP) : Int := if x.2 = true then x.1 else -1125899906842624
def Wf (x : LP) : Prop := x = noL \/ (x.2 = true /\ -1000000000 <= x.1 /\ x.1 <= 1000000000)
theorem sF {L : List bZ} {n j u v : Nat} (hok : fC n L) (hj : j <= 33) {P : Int -> Prop} {x : LP} (h : dG P x) (hP : ∀ z, P z -> WL L u v j z) : Wf x := by
 rcases h with ⟨e, _⟩ | ⟨e, a, _⟩
 ·exact .inl e
 ·have := EA hok (hP _ a)
  exact .inr ⟨e, by omega, by omega⟩
theorem zl {x y : LP} {w : Int} (hx : Wf x) (hy : Wf y) (hw : -3000000 <= w /\ w <= 3000000) : enc (gk x (dN y w)) = if enc y > -1125899906842624 then max (enc x) (enc y + w) else enc x := by
 rcases hy with rfl | ⟨e, h1, h2⟩
 ·have : dN noL w = noL := rfl
  rw [this, if_neg (by simp [enc, noL])]
  rcases hx with rfl | ⟨e, _⟩
  ·rfl
  ·have : gk x noL = x := if_neg (by rw [e]; rintro (h | ⟨h, _⟩) <;> cases h)
   rw [this]
 ·obtain ⟨y1, y2⟩ := y
  simp only at e h1 h2
  subst e
  have e1 : enc (y1, true) = y1 := rfl
  have e2 : dN (y1, true) w = (y1 + w, true) := if_neg (by rintro ⟨h, _⟩; cases h)
  rw [e1, e2, if_pos (by omega)]
  rcases hx with rfl | ⟨e, h3, h4⟩
  ·have : gk noL (y1 + w, true) = (y1 + w, true) := rfl
   rw [this]
   show y1 + w = max (-1125899906842624) (y1 + w)
   omega
  ·obtain ⟨x1, x2⟩ := x
   simp only at e h3 h4
   subst e
   show enc (if (true = false \/ (true = true /\ y1 + w > x1)) then (y1 + w, true) else (x1, true)) = max x1 (y1 + w)
   by_cases h : y1 + w > x1
   ·rw [if_pos (.inr ⟨rfl, h⟩)]
    show y1 + w = _
    omega
   ·rw [if_neg (by rintro (h' | ⟨_, h'⟩); cases h'; exact h h')]
    show x1 = _
    omega
def cj (n : Nat) (m : Nat -> Int) : List AV := (List.range n).map fun v => .int .i64 (m v)
theorem iy {n v : Nat} (m : Nat -> Int) (h : v < n) : (cj n m)[v]? = some (.int .i64 (m v)) := by
 unfold cj; rw [List.getElem?_map, List.getElem?_range h]; rfl
theorem lW (n : Nat) (m : Nat -> Int) (t : Nat) (z : Int) : (cj n m).set t (.int .i64 z) = cj n (fun v => if v = t then z else m v) := by
 unfold cj
 apply List.ext_getElem?
 intro j
 by_cases hj : t = j
 ·subst hj
  by_cases ht : t < n
  ·rw [List.getElem?_set_self (by simpa using ht), List.getElem?_map, List.getElem?_range ht]; simp
  ·rw [List.set_eq_of_length_le (by simp; omega), List.getElem?_eq_none (by simp; omega), List.getElem?_eq_none (by simp; omega)]
 ·rw [List.getElem?_set_ne hj]
  by_cases hjn : j < n
  ·rw [List.getElem?_map, List.getElem?_map, List.getElem?_range hjn]
   simp [Ne.symm hj]
  ·rw [List.getElem?_eq_none (by simp; omega), List.getElem?_eq_none (by simp; omega)]
theorem eg {n : Nat} {m m' : Nat -> Int} (h : ∀ v, v < n -> m v = m' v) : cj n m = cj n m' := by
 unfold cj
 apply List.map_congr_left
 intro v hv
 rw [h v (List.mem_range.1 hv)]
theorem pF {A : ac} {n : Nat} {e : Ent} (h : A[n]? = some e) : A.set n e = A := by
 apply List.ext_getElem?
 intro i
 by_cases hi : n = i
 ·subst hi; rw [List.getElem?_set_self (List.getElem?_eq_some_iff.1 h).1, h]
 ·rw [List.getElem?_set_ne hi]
abbrev N50 : Int := -1125899906842624
def jy : List (FuncId × aL) := [(70, aF 4 M39)]
@[simp] theorem Gv : aB jy 70 = some (aF 4 M39) := rfl
theorem vE : ∀ f M, aB jy f = some M -> an Try.prog GC f M := ak (an.of_pure qn 4) az
section
variable {X : ac} {es : List AV} {n b r s : Nat}
theorem yA (fuel : Nat) (hb : X[b]? = some (.row 1 false es)) (he : es[s]? = some (.sl r 0 n)) {R : List AV} (hr : X[r]? = some (.row 1 false R)) (hs : s < n) (hn : n <= 32) {v : Nat} (hv : v < n) {x : AV} (hx : R[v]? = some x) (v1 v2 v4 v5 : AV) :
  run (au GC jy) fuel [.code gq] (ge (.int .i64 (n : Int)) v1 v2 v4 v5 (.sl b 0 n) (.int .i64 (s : Int)) (.int .i64 (v : Int))) X =
   some (.normal (ge (.int .i64 (n : Int)) v1 v2 v4 v5 (.sl b 0 n) (.int .i64 (s : Int)) (.int .i64 ((v + 1 : Nat) : Int))) (X.set r (.row 1 false (R.set v (.int .i64 N50))))) := by
 have b1 := bc v n .i64
 rw [decide_eq_true hv] at b1
 have b3 := aK v (by omega)
 obtain ⟨i1, hi1⟩ : ∃ i1 : Nat, i1 = v + 1 := ⟨_, rfl⟩
 rw [<- hi1] at b3 ⊢
 have k1 : ab 1 X (.sl b 0 n) (.int .i64 (s : Int)) = some (.ptr b s 0) := by simp [ab, hb, hs]
 have k2 : ab 1 X (.sl r 0 n) (.int .i64 (v : Int)) = some (.ptr r v 0) := by simp [ab, hr, hv]
 simp [gq, b1, b3, k1, k2, hb, he, hr, hx, aJ, -af, -ab]
theorem Cg (fuel : Nat) (hf : 40 < fuel) (hb : X[b]? = some (.row 1 false es)) (he : es[s]? = some (.sl r 0 n)) {m0 : Nat -> Int} (hr : X[r]? = some (.row 1 false (cj n m0))) (hbr : b ≠ r) (hs : s < n) (hn : n <= 32) (v1 v2 v4 v5 : AV) :
  bg (evC (au GC jy) fuel gq) fQ fuel (ge (.int .i64 (n : Int)) v1 v2 v4 v5 (.sl b 0 n) (.int .i64 (s : Int)) (.int .i64 0)) X =
   some (.exit 4 ((ge (.int .i64 (n : Int)) v1 v2 v4 v5 (.sl b 0 n) (.int .i64 (s : Int)) (.int .i64 (n : Int))).set 13 (.bool false)) (X.set r (.row 1 false (cj n fun _ => N50)))) := by
 have hrl := (List.getElem?_eq_some_iff.1 hr).1
 have lp := e9 (E := au GC jy) (fuel := fuel) (a := gq) (mask := fQ) (fun i => ge (.int .i64 (n : Int)) v1 v2 v4 v5 (.sl b 0 n) (.int .i64 (s : Int)) (.int .i64 (i : Int))) (fun i => X.set r (.row 1 false (cj n fun v => if v < i then N50 else m0 v))) n
  (o := .exit 4 ((ge (.int .i64 (n : Int)) v1 v2 v4 v5 (.sl b 0 n) (.int .i64 (s : Int)) (.int .i64 (n : Int))).set 13 (.bool false)) (X.set r (.row 1 false (cj n fun _ => N50))))
  (fun _ => xD) (fun _ _ h => by cases h) (fun i hi => by
   have := yA (X := X.set r (.row 1 false (cj n fun v => if v < i then N50 else m0 v))) fuel (by rw [List.getElem?_set_ne (Ne.symm hbr)]; exact hb) he (List.getElem?_set_self hrl) hs hn hi (iy _ hi) v1 v2 v4 v5
   rw [this, List.set_set, lW]
   have e : cj n (fun v => if v = i then N50 else if v < i then N50 else m0 v) = cj n (fun v => if v < i + 1 then N50 else m0 v) := eg fun v hv => by
    by_cases h1 : v = i
    ·rw [if_pos h1, if_pos (by omega)]
    ·by_cases h2 : v < i
     ·rw [if_neg h1, if_pos h2, if_pos (by omega)]
     ·rw [if_neg h1, if_neg h2, if_neg (by omega)]
   rw [e]) (by
   have e : cj n (fun v => if v < n then N50 else m0 v) = cj n (fun _ => N50) := eg fun v hv => by rw [if_pos hv]
   rw [e]
   simp [gq]) (show n < fuel by omega)
 have e0 : (X.set r (.row 1 false (cj n fun v => if v < 0 then N50 else m0 v))) = X := by
  have : cj n (fun v => if v < 0 then N50 else m0 v) = cj n m0 := eg fun v hv => by rw [if_neg (by omega)]
  rw [this]; exact pF hr
 have lp : bg (evC (au GC jy) fuel gq) fQ fuel (ge (.int .i64 (n : Int)) v1 v2 v4 v5 (.sl b 0 n) (.int .i64 (s : Int)) (.int .i64 0)) (X.set r (.row 1 false (cj n fun v => if v < 0 then N50 else m0 v))) = _ := lp
 rw [e0] at lp
 exact lp
end
theorem IS (a b : Int) : cg true (.int .i64 a) [.int .i64 b] = some (.int .i64 (max a b)) := by
 simp only [cg, fu]
 simp only [if_true]
 by_cases h : b > a
 ·rw [if_pos h, show max a b = b by omega]
 ·rw [if_neg h, show max a b = a by omega]
def Lv (A : ac) (v : AV) (n : Nat) (m : Nat -> Nat -> Int) (o : Nat) : Prop := ∃ b es, v = .sl b 0 n /\ b ≠ o /\ A[b]? = some (.row 1 false es) /\ es.length = n /\ ∀ s, s < n -> ∃ r, es[s]? = some (.sl r 0 n) /\ r ≠ o /\ A[r]? = some (.row 1 false (cj n (m s)))
section
variable {X : ac} {es eo es' : List AV} {n b r s k o b' r' : Nat} {p : Int} {l : List aW} {a : AV} {gro : Bool}
theorem yD (fuel : Nat) (ha : aX a = some l) (hl200 : l.length <= 200) (hp : a8 p) (hv : ∀ x ∈ l, okA n x) (hb : X[b]? = some (.row 1 false es)) (he : es[s]? = some (.sl r 0 n)) {cur : Nat -> LP} (hr : X[r]? = some (.row 1 false (cj n fun v => enc (cur v)))) (hs : s < n) (hn : n <= 32) (hk : k <= 33)
  (ho : X[o]? = some (.row 1 gro eo)) (heo : eo[k]? = some (.sl b' 0 n)) (hb' : X[b']? = some (.row 1 false es')) (he' : es'[s]? = some (.sl r' 0 n)) {prev : Nat -> LP} (hr' : X[r']? = some (.row 1 false (cj n fun v => enc (prev v)))) (hpw : ∀ v, v < n -> Wf (prev v)) (hcw : ∀ v, v < n -> Wf (cur v)) {i : Nat} (hi : i < l.length) :
  run (au GC jy) fuel [.code fD] (gc (.int .i64 (n : Int)) a (.int .i64 p) (.sl o 0 (k + 1)) (.int .i64 ((k + 1 : Nat) : Int)) (.sl b 0 n) (.int .i64 (s : Int)) (.int .i64 (i : Int))) X =
   some (.normal (gc (.int .i64 (n : Int)) a (.int .i64 p) (.sl o 0 (k + 1)) (.int .i64 ((k + 1 : Nat) : Int)) (.sl b 0 n) (.int .i64 (s : Int)) (.int .i64 ((i + 1 : Nat) : Int))) (X.set r (.row 1 false (cj n fun v => enc (stF prev cur (l[i].f.toNat, l[i].t.toNat, l[i].len p) v))))) := by
 obtain ⟨hl, hm⟩ := bN ha
 have x1 := de ha hi X .i64
 have b1 := bc i l.length .i64
 rw [decide_eq_true hi] at b1
 have b3 := aK i (by omega)
 have hok := hv _ (List.getElem_mem hi)
 obtain ⟨f, hf, hfn⟩ := fN hok.1
 obtain ⟨t, ht, htn⟩ := fN hok.2.1
 have m := m39 (by omega) hok hp
 have hle := dT (n := 32) (a := l[i]) ⟨by have := hok.1; omega, by have := hok.2.1; omega, hok.2.2.1, hok.2.2.2⟩ hp
 have e1 : l[i].f.toNat = f := by omega
 have e2 : l[i].t.toNat = t := by omega
 rw [e1, e2]
 rw [hf, ht] at x1 m
 obtain ⟨w, hw⟩ : ∃ w, w = l[i].len p := ⟨_, rfl⟩
 rw [<- hw] at m hle ⊢
 have hfn' : f < n := by omega
 have htn' : t < n := by omega
 have b0 : af .sub (.int .i64 ((k + 1 : Nat) : Int)) (.int .i64 1) = some (.int .i64 (k : Int)) := by
  rw [wL (by omega)]; congr 2; omega
 have k0 : ab 1 X (.sl o 0 (k + 1)) (.int .i64 (k : Int)) = some (.ptr o k 0) := by simp [ab, ho]; omega
 have k1 : ab 1 X (.sl b' 0 n) (.int .i64 (s : Int)) = some (.ptr b' s 0) := by simp [ab, hb', hs]
 have k2 : ab 1 X (.sl r' 0 n) (.int .i64 (f : Int)) = some (.ptr r' f 0) := by simp [ab, hr', hfn']
 have k3 : ab 1 X (.sl b 0 n) (.int .i64 (s : Int)) = some (.ptr b s 0) := by simp [ab, hb, hs]
 have k4 : ab 1 X (.sl r 0 n) (.int .i64 (t : Int)) = some (.ptr r t 0) := by simp [ab, hr, htn']
 have g1 := iy (fun v => enc (prev v)) hfn'
 have g2 := iy (fun v => enc (cur v)) htn'
 have hst := zl (hcw t htn') (hpw f hfn') (w := w) (by omega)
 have hset := lW n (fun v => enc (cur v)) t (max (enc (cur t)) (enc (prev f) + w))
 have hb2 : enc (prev f) > N50 -> -1000000000 <= enc (prev f) /\ enc (prev f) <= 1000000000 := fun h => by
  rcases hpw f hfn' with e | ⟨e, h1, h2⟩
  ·rw [e] at h; simp [enc, noL] at h
  ·have : enc (prev f) = (prev f).1 := by unfold enc; rw [if_pos e]
   rw [this]; exact ⟨h1, h2⟩
 have b2 := wN (enc (prev f)) N50
 have mx := IS (enc (cur t)) (enc (prev f) + w)
 have key : ∀ v, enc (stF prev cur (f, t, w) v) = if v = t then enc (gk (cur t) (dN (prev f) w)) else enc (cur v) := fun v => by
  unfold stF
  by_cases h : v = t
  ·simp [h]
  ·simp [h]
 obtain ⟨i1, hi1⟩ : ∃ i1 : Nat, i1 = i + 1 := ⟨_, rfl⟩
 rw [<- hi1] at b3 ⊢
 obtain ⟨k5, hk5⟩ : ∃ k5 : Nat, k5 = k + 1 := ⟨_, rfl⟩
 rw [<- hk5] at b0 k0 ⊢
 obtain ⟨z, hz⟩ : ∃ z, z = enc (prev f) := ⟨_, rfl⟩
 obtain ⟨y, hy⟩ : ∃ z, z = enc (cur t) := ⟨_, rfl⟩
 rw [<- hz] at g1 b2 mx hst hset hb2
 rw [<- hy] at g2 mx hst hset
 obtain ⟨RP, hRP⟩ : ∃ R, R = cj n fun v => enc (prev v) := ⟨_, rfl⟩
 obtain ⟨RC, hRC⟩ : ∃ R, R = cj n fun v => enc (cur v) := ⟨_, rfl⟩
 rw [<- hRP] at hr' g1
 rw [<- hRC] at hr g2 hset
 by_cases h : z > N50
 ·rw [decide_eq_true h] at b2
  rw [if_pos h] at hst
  have hzb := hb2 h
  have b4 := oC (a := z) (b := w) (by omega)
  have e3 : cj n (fun v => enc (stF prev cur (f, t, w) v)) = RC.set t (.int .i64 (max y (z + w))) := by
   rw [hset]
   refine eg fun v hv => ?_
   rw [key, hst]
  rw [e3]
  obtain ⟨mz, hmz⟩ : ∃ mz, mz = max y (z + w) := ⟨_, rfl⟩
  rw [<- hmz] at mx ⊢
  obtain ⟨zw, hzw⟩ : ∃ zw, zw = z + w := ⟨_, rfl⟩
  rw [<- hzw] at b4 mx
  simp [fD, hl, b0, b1, b2, b3, b4, k0, k1, k2, k3, k4, x1, m, mx, ho, heo, hb', he', hr', g1, hb, he, hr, g2, aJ, -af, -ab, -aj, -cg]
 ·rw [decide_eq_false h] at b2
  rw [if_neg h] at hst
  have e3 : cj n (fun v => enc (stF prev cur (f, t, w) v)) = RC := by
   rw [hRC]
   refine eg fun v hv => ?_
   rw [key, hst]
   by_cases hvt : v = t
   ·rw [if_pos hvt, hvt, hy]
   ·rw [if_neg hvt]
  rw [e3, pF hr]
  simp [fD, hl, b0, b1, b2, b3, k0, k1, k2, x1, ho, heo, hb', he', hr', g1, -af, -ab, -aj, -cg]
theorem Ci (fuel : Nat) (hf : 250 < fuel) (ha : aX a = some l) (hl200 : l.length <= 200) (hp : a8 p) (hv : ∀ x ∈ l, okA n x) (hb : X[b]? = some (.row 1 false es)) (he : es[s]? = some (.sl r 0 n)) (hr : X[r]? = some (.row 1 false (cj n fun _ => N50))) (hs : s < n) (hn : n <= 32) (hk : k <= 32)
  (ho : X[o]? = some (.row 1 gro eo)) (heo : eo[k]? = some (.sl b' 0 n)) (hb' : X[b']? = some (.row 1 false es')) (he' : es'[s]? = some (.sl r' 0 n)) (hr' : X[r']? = some (.row 1 false (cj n fun v => enc (bst (lar p l) n k s v)))) (h1 : b ≠ r) (h2 : o ≠ r) (h3 : b' ≠ r) (h4 : r' ≠ r) :
  bg (evC (au GC jy) fuel fD) fP fuel (gc (.int .i64 (n : Int)) a (.int .i64 p) (.sl o 0 (k + 1)) (.int .i64 ((k + 1 : Nat) : Int)) (.sl b 0 n) (.int .i64 (s : Int)) (.int .i64 0)) X =
   some (.exit 6 ((gc (.int .i64 (n : Int)) a (.int .i64 p) (.sl o 0 (k + 1)) (.int .i64 ((k + 1 : Nat) : Int)) (.sl b 0 n) (.int .i64 (s : Int)) (.int .i64 (l.length : Int))).set 15 (.bool false)) (X.set r (.row 1 false (cj n fun v => enc (bst (lar p l) n (k + 1) s v))))) := by
 have hrl := (List.getElem?_eq_some_iff.1 hr).1
 have hok := lf hn hp hv
 have hlen : (lar p l).length = l.length := by simp [lar]
 have hpw : ∀ v, v < n -> Wf (bst (lar p l) n k s v) := fun v hv' => sF hok (by omega) (gA hok hs hv') fun z h => h
 have hcw : ∀ i v, v < n -> Wf (((lar p l).take i).foldl (stF (bst (lar p l) n k s)) (fun _ => noL) v) := fun i v hv' => by
  have := pA hok (u := s) (j := k) (fun w hw => gA hok hs hw) ((lar p l).take i) (fun _ h => List.mem_of_mem_take h) (fun _ => noL) (fun _ _ => False) (fun _ _ => nU) v hv'
  refine sF hok (show k + 1 <= 33 by omega) (u := s) (v := v) this fun z h => ?_
  rcases h with h | ⟨x, hx, h⟩
  ·exact h.elim
  ·exact xW.2 ⟨x, List.mem_of_mem_take hx, h⟩
 have lp := e9 (E := au GC jy) (fuel := fuel) (a := fD) (mask := fP) (fun i => gc (.int .i64 (n : Int)) a (.int .i64 p) (.sl o 0 (k + 1)) (.int .i64 ((k + 1 : Nat) : Int)) (.sl b 0 n) (.int .i64 (s : Int)) (.int .i64 (i : Int))) (fun i => X.set r (.row 1 false (cj n fun v => enc (((lar p l).take i).foldl (stF (bst (lar p l) n k s)) (fun _ => noL) v)))) l.length
  (o := .exit 6 ((gc (.int .i64 (n : Int)) a (.int .i64 p) (.sl o 0 (k + 1)) (.int .i64 ((k + 1 : Nat) : Int)) (.sl b 0 n) (.int .i64 (s : Int)) (.int .i64 (l.length : Int))).set 15 (.bool false)) (X.set r (.row 1 false (cj n fun v => enc (bst (lar p l) n (k + 1) s v)))))
  (fun _ => xC) (fun _ _ h => by cases h) (fun i hi => by
   have := yD (X := X.set r (.row 1 false (cj n fun v => enc (((lar p l).take i).foldl (stF (bst (lar p l) n k s)) (fun _ => noL) v)))) fuel ha hl200 hp hv (by rw [List.getElem?_set_ne (Ne.symm h1)]; exact hb) he (List.getElem?_set_self hrl) hs hn (show k <= 33 by omega) (by rw [List.getElem?_set_ne (Ne.symm h2)]; exact ho) heo (by rw [List.getElem?_set_ne (Ne.symm h3)]; exact hb') he' (by rw [List.getElem?_set_ne (Ne.symm h4)]; exact hr') hpw (hcw i) hi
   rw [this, List.set_set]
   have e : (lar p l).take (i + 1) = (lar p l).take i ++ [(l[i].f.toNat, l[i].t.toNat, l[i].len p)] := by
    rw [List.take_succ_eq_append_getElem (by omega)]; simp [lar]
   rw [e, List.foldl_append]
   rfl) (by
   have e : cj n (fun v => enc (((lar p l).take l.length).foldl (stF (bst (lar p l) n k s)) (fun _ => noL) v)) = cj n (fun v => enc (bst (lar p l) n (k + 1) s v)) := eg fun v hv' => by
    rw [List.take_of_length_le (by omega), zv hok hs hv']
   rw [e]
   simp [fD, (bN ha).1, -aj]) (show l.length < fuel by omega)
 have e0 : (X.set r (.row 1 false (cj n fun v => enc (((lar p l).take 0).foldl (stF (bst (lar p l) n k s)) (fun _ => noL) v)))) = X := pF hr
 have lp : bg (evC (au GC jy) fuel fD) fP fuel (gc (.int .i64 (n : Int)) a (.int .i64 p) (.sl o 0 (k + 1)) (.int .i64 ((k + 1 : Nat) : Int)) (.sl b 0 n) (.int .i64 (s : Int)) (.int .i64 0)) (X.set r (.row 1 false (cj n fun v => enc (((lar p l).take 0).foldl (stF (bst (lar p l) n k s)) (fun _ => noL) v)))) = _ := lp
 rw [e0] at lp
 exact lp
end
def AY (A : ac) (v : AV) (L : List bZ) (n k : Nat) : Prop := (v = .nilS /\ k = 0) \/ ∃ o gr eo, v = .sl o 0 k /\ k ≠ 0 /\ A[o]? = some (.row 1 gr eo) /\ eo.length = k /\ ∀ j, j < k -> ∃ w, eo[j]? = some w /\ Lv A w n (fun s v => enc (bst L n j s v)) o
def SI (A0 A : ac) (L : List bZ) (n k s : Nat) : Prop := ∃ es, A[A0.length]? = some (.row 1 false es) /\ es.length = n /\ (∀ s', s' < s -> ∃ r, es[s']? = some (.sl r 0 n) /\ A0.length < r /\ A[r]? = some (.row 1 false (cj n fun v => enc (bst L n k s' v)))) /\ ∀ j, j < A0.length -> A[j]? = A0[j]?
theorem yB (fuel : Nat) (hf : 250 < fuel) {A0 A : ac} {n k s : Nat} {p : Int} {l : List aW} {a outv : AV} (ha : aX a = some l) (hl200 : l.length <= 200) (hp : a8 p) (hv : ∀ x ∈ l, okA n x) (hn : n <= 32) (hk : k <= n) (hs : s < n) (hO : AY A0 outv (lar p l) n k) (hI : SI A0 A (lar p l) n k s) :
  ∃ A', run (au GC jy) fuel [.code gp] (gb (.int .i64 (n : Int)) a (.int .i64 p) outv (.int .i64 (k : Int)) (.sl A0.length 0 n) (.int .i64 (s : Int))) A = some (.normal (gb (.int .i64 (n : Int)) a (.int .i64 p) outv (.int .i64 (k : Int)) (.sl A0.length 0 n) (.int .i64 ((s + 1 : Nat) : Int))) A') /\ SI A0 A' (lar p l) n k (s + 1) := by
 obtain ⟨es, h1, h2, h3, h4⟩ := hI
 have hbl := (List.getElem?_eq_some_iff.1 h1).1
 obtain ⟨r, hr⟩ : ∃ r, r = A.length := ⟨_, rfl⟩
 obtain ⟨es1, hes1⟩ : ∃ es1, es1 = es.set s (.sl r 0 n) := ⟨_, rfl⟩
 obtain ⟨A1, hA1⟩ : ∃ A1, A1 = (A ++ [Ent.row 1 false (cj n fun _ => 0)]).set A0.length (.row 1 false es1) := ⟨_, rfl⟩
 have a1b : A1[A0.length]? = some (.row 1 false es1) := by rw [hA1]; exact List.getElem?_set_self (by simp; omega)
 have a1r : A1[r]? = some (.row 1 false (cj n fun _ => 0)) := by rw [hA1, List.getElem?_set_ne (by omega), hr]; simp
 have a1o : ∀ j, j < A.length -> j ≠ A0.length -> A1[j]? = A[j]? := fun j hj hne => by rw [hA1, List.getElem?_set_ne (Ne.symm hne), List.getElem?_append_left hj]
 have e1s : es1[s]? = some (.sl r 0 n) := by rw [hes1]; exact List.getElem?_set_self (by omega)
 have hbr : A0.length ≠ r := by omega
 have lpv := Cg (X := A1) fuel (by omega) a1b e1s a1r hbr hs hn a (.int .i64 p) outv (.int .i64 (k : Int))
 obtain ⟨A2, hA2⟩ : ∃ A2, A2 = A1.set r (.row 1 false (cj n fun _ => N50)) := ⟨_, rfl⟩
 rw [<- hA2] at lpv
 have a2o : ∀ j, j ≠ r -> A2[j]? = A1[j]? := fun j hj => by rw [hA2, List.getElem?_set_ne (Ne.symm hj)]
 have a2r : A2[r]? = some (.row 1 false (cj n fun _ => N50)) := by rw [hA2]; exact List.getElem?_set_self (List.getElem?_eq_some_iff.1 a1r).1
 have a2b := (a2o A0.length hbr).trans a1b
 obtain ⟨A3, hA3⟩ : ∃ A3, A3 = A2.set r (.row 1 false (cj n fun v => enc (bst (lar p l) n k s v))) := ⟨_, rfl⟩
 have a3o : ∀ j, j ≠ r -> A3[j]? = A2[j]? := fun j hj => by rw [hA3, List.getElem?_set_ne (Ne.symm hj)]
 have a3r : A3[r]? = some (.row 1 false (cj n fun v => enc (bst (lar p l) n k s v))) := by rw [hA3]; exact List.getElem?_set_self (List.getElem?_eq_some_iff.1 a2r).1
 have hall : ∀ j, j < A.length -> j ≠ A0.length -> A3[j]? = A[j]? := fun j hj hne => by
  rw [a3o j (by omega), a2o j (by omega), a1o j hj hne]
 have b1 := bc s n .i64
 rw [decide_eq_true hs] at b1
 have b3 := aK s (by omega)
 obtain ⟨i1, hi1⟩ : ∃ i1 : Nat, i1 = s + 1 := ⟨_, rfl⟩
 rw [<- hi1] at b3 ⊢
 have mk : bT 1 8 (.int .i64 0) A (.int .i64 (n : Int)) (.int .i64 (n : Int)) = some (.sl r 0 n, A ++ [.row 1 false (cj n fun _ => 0)]) := by
  have : cj n (fun _ => 0) = List.replicate n (.int .i64 0) := by
   unfold cj
   apply List.ext_getElem (by simp)
   intro j _ _; simp
  rw [this, hr]; simp [bT]; omega
 have hAb : (A ++ [.row 1 false (cj n fun _ => 0)])[A0.length]? = some (.row 1 false es) := by rw [List.getElem?_append_left hbl]; exact h1
 have k1 : ab 1 (A ++ [.row 1 false (cj n fun _ => 0)]) (.sl A0.length 0 n) (.int .i64 (s : Int)) = some (.ptr A0.length s 0) := by simp [ab, hAb, hs]
 obtain ⟨x, hx⟩ : ∃ x, es[s]? = some x := ⟨es[s]'(by omega), List.getElem?_eq_getElem _⟩
 have st : aw 1 (A ++ [.row 1 false (cj n fun _ => 0)]) (.ptr A0.length s 0) (.sl r 0 n) = some A1 := by
  rw [hA1, hes1]; simp [aw, hAb, hx, aJ]
 obtain ⟨AA, hAA⟩ : ∃ AA, AA = A ++ [.row 1 false (cj n fun _ => 0)] := ⟨_, rfl⟩
 rw [<- hAA] at mk k1 st
 have hfin : SI A0 A3 (lar p l) n k i1 := by
  refine ⟨es1, ?_, by rw [hes1]; simp [h2], fun s' hs' => ?_, fun j hj => ?_⟩
  ·rw [a3o _ hbr]; exact a2b
  ·by_cases hss : s' = s
   ·subst hss
    exact ⟨r, e1s, by omega, a3r⟩
   ·obtain ⟨r', q1, q2, q3⟩ := h3 s' (by omega)
    have hr'l := (List.getElem?_eq_some_iff.1 q3).1
    exact ⟨r', by rw [hes1, List.getElem?_set_ne (Ne.symm hss)]; exact q1, q2, by rw [hall r' hr'l (by omega)]; exact q3⟩
  ·rw [hall j (by omega) (by omega), h4 j hj]
 refine ⟨A3, ?_, hfin⟩
 have b4 := CF (k : Int) 0
 rcases hO with ⟨rfl, rfl⟩ | ⟨o, gr, eo, rfl, hk0, ho1, ho2, ho3⟩
 ·
  rw [decide_eq_true (show ((0 : Nat) : Int) = 0 from rfl)] at b4
  have k2 : ab 1 A2 (.sl A0.length 0 n) (.int .i64 (s : Int)) = some (.ptr A0.length s 0) := by simp [ab, a2b, hs]
  have k3 : ab 1 A2 (.sl r 0 n) (.int .i64 (s : Int)) = some (.ptr r s 0) := by simp [ab, a2r, hs]
  have e3 : cj n (fun v => enc (bst (lar p l) n 0 s v)) = (cj n fun _ => N50).set s (.int .i64 0) := by
   rw [lW]
   refine eg fun v hv' => ?_
   rw [zu hs hv']
   by_cases h : v = s
   ·rw [if_pos h, if_pos h]; rfl
   ·rw [if_neg h, if_neg h]; rfl
  rw [hA3, e3]
  have g1 := iy (fun _ => N50) hs
  obtain ⟨R, hR⟩ : ∃ R, R = cj n fun _ => N50 := ⟨_, rfl⟩
  rw [<- hR] at a2r g1 ⊢
  have st2 : aw 1 A2 (.ptr r s 0) (.int .i64 0) = some (A2.set r (.row 1 false (R.set s (.int .i64 0)))) := by simp [aw, a2r, g1, aJ]
  simp only [Int.natCast_zero] at lpv b4 ⊢
  simp [gp, b1, b3, b4, mk, k1, st, st2, wu lpv, k2, k3, a2b, e1s, -af, -bT, -ab, -aw]
 ·obtain ⟨k', rfl⟩ : ∃ k', k = k' + 1 := ⟨k - 1, by omega⟩
  rw [decide_eq_false (by omega)] at b4
  obtain ⟨w, q1, b', es', rfl, q2, q3, q4, q5⟩ := ho3 k' (by omega)
  obtain ⟨r', q6, q7, q8⟩ := q5 s hs
  have hol := (List.getElem?_eq_some_iff.1 ho1).1
  have hbl' := (List.getElem?_eq_some_iff.1 q3).1
  have hrl' := (List.getElem?_eq_some_iff.1 q8).1
  have low : ∀ j, j < A0.length -> A2[j]? = A0[j]? := fun j hj => by rw [a2o j (by omega), a1o j (by omega) (by omega), h4 j hj]
  have lpa := Ci (X := A2) (es := es1) (r := r) fuel hf ha hl200 hp hv a2b e1s a2r hs hn (show k' <= 32 by omega) ((low o hol).trans ho1) q1 ((low b' hbl').trans q3) q6 ((low r' hrl').trans q8) hbr (by omega) (by omega) (by omega)
  rw [<- hA3] at lpa
  obtain ⟨kk, hkk⟩ : ∃ kk : Nat, kk = k' + 1 := ⟨_, rfl⟩
  rw [<- hkk] at lpv lpa b4 ⊢
  simp [gp, b1, b3, b4, mk, k1, st, wu lpv, CD lpa, -af, -bT, -ab, -aw]
theorem Ch (fuel : Nat) (hf : 250 < fuel) {A0 A : ac} {n k : Nat} {p : Int} {l : List aW} {a outv : AV} (ha : aX a = some l) (hl200 : l.length <= 200) (hp : a8 p) (hv : ∀ x ∈ l, okA n x) (hn : n <= 32) (hk : k <= n) (hO : AY A0 outv (lar p l) n k) (hI : SI A0 A (lar p l) n k 0) :
  ∃ A', SI A0 A' (lar p l) n k n /\ bg (evC (au GC jy) fuel gp) gX fuel (gb (.int .i64 (n : Int)) a (.int .i64 p) outv (.int .i64 (k : Int)) (.sl A0.length 0 n) (.int .i64 0)) A = some (.exit 2 ((gb (.int .i64 (n : Int)) a (.int .i64 p) outv (.int .i64 (k : Int)) (.sl A0.length 0 n) (.int .i64 (n : Int))).set 12 (.bool false)) A') := by
 obtain ⟨o, h1, A', h2, h3⟩ := da (E := au GC jy) (fuel := fuel) (a := gp) (mask := gX)
  (fun κ σ A => ∃ s, s + κ = n /\ σ = gb (.int .i64 (n : Int)) a (.int .i64 p) outv (.int .i64 (k : Int)) (.sl A0.length 0 n) (.int .i64 (s : Int)) /\ SI A0 A (lar p l) n k s)
  (fun o => ∃ A', SI A0 A' (lar p l) n k n /\ o = .exit 2 ((gb (.int .i64 (n : Int)) a (.int .i64 p) outv (.int .i64 (k : Int)) (.sl A0.length 0 n) (.int .i64 (n : Int))).set 12 (.bool false)) A')
  (by
   rintro κ σ A ⟨s, hsk, rfl, hI⟩
   rw [xB]
   by_cases hs : s < n
   ·obtain ⟨A', c1, c2⟩ := yB fuel hf ha hl200 hp hv hn hk hs hO hI
    exact .inl ⟨_, _, c1, κ - 1, by omega, s + 1, by omega, rfl, c2⟩
   ·obtain rfl : s = n := by omega
    refine .inr ⟨_, ?_, ?_, A, hI, rfl⟩
    ·simp [gp]
    ·intro _ _ h; cases h)
  fuel n (gb (.int .i64 (n : Int)) a (.int .i64 p) outv (.int .i64 (k : Int)) (.sl A0.length 0 n) (.int .i64 0)) A (by omega) ⟨0, by omega, rfl, hI⟩
 exact ⟨A', h2, by rw [<- h3]; exact h1⟩
theorem yC (fuel : Nat) (hf : 250 < fuel) {A0 : ac} {n k : Nat} {p : Int} {l : List aW} {a outv : AV} (ha : aX a = some l) (hl200 : l.length <= 200) (hp : a8 p) (hv : ∀ x ∈ l, okA n x) (h1n : 1 <= n) (hn : n <= 32) (hk : k <= n) (hO : AY A0 outv (lar p l) n k) :
  ∃ A' o', run (au GC jy) fuel [.code gZ] (je (.int .i64 (n : Int)) a (.int .i64 p) outv (.int .i64 (k : Int))) A0 = some (.normal (je (.int .i64 (n : Int)) a (.int .i64 p) (.sl o' 0 (k + 1)) (.int .i64 ((k + 1 : Nat) : Int))) A') /\ AY A' (.sl o' 0 (k + 1)) (lar p l) n (k + 1) := by
 obtain ⟨A', ⟨es, q1, q2, q3, q4⟩, lp⟩ := Ch fuel hf (A := A0 ++ [.row 1 false (List.replicate n .nilS)]) ha hl200 hp hv hn hk hO ⟨List.replicate n .nilS, by simp, by simp, fun s' h => by omega, fun j hj => by rw [List.getElem?_append_left hj]⟩
 have mk : bT 1 24 .nilS A0 (.int .i64 (n : Int)) (.int .i64 (n : Int)) = some (.sl A0.length 0 n, A0 ++ [.row 1 false (List.replicate n .nilS)]) := by
  simp [bT]; omega
 have hbl := (List.getElem?_eq_some_iff.1 q1).1
 obtain ⟨D, hD⟩ : ∃ D, D = A' ++ [Ent.row 1 false [.sl A0.length 0 n]] := ⟨_, rfl⟩
 have hDl : D.length = A'.length + 1 := by rw [hD]; simp
 have hDo : ∀ j, j < A'.length -> D[j]? = A'[j]? := fun j hj => by rw [hD, List.getElem?_append_left hj]
 have hDn : D[A'.length]? = some (.row 1 false [.sl A0.length 0 n]) := by rw [hD]; simp
 have b1 := uP (k : Int) n
 rw [decide_eq_true (by omega)] at b1
 have b3 := aK k (by omega)
 have hsrc : aU 1 D (.sl A'.length 0 1) = some [.sl A0.length 0 n] := by simp [aU, hDn]
 have lvNew : ∀ (o : Nat) (A2 : ac), o ≠ A0.length -> (∀ r, A0.length < r -> r < A'.length -> o ≠ r) -> (∀ j, j < A'.length -> j ≠ o -> A2[j]? = A'[j]?) -> Lv A2 (.sl A0.length 0 n) n (fun s v => enc (bst (lar p l) n k s v)) o := fun o A2 ho ho2 hA2 => by
  refine ⟨A0.length, es, rfl, Ne.symm ho, by rw [hA2 _ hbl (Ne.symm ho)]; exact q1, q2, fun s hs => ?_⟩
  obtain ⟨r, r1, r2, r3⟩ := q3 s hs
  have hrl := (List.getElem?_eq_some_iff.1 r3).1
  exact ⟨r, r1, Ne.symm (ho2 r r2 hrl), by rw [hA2 r hrl (Ne.symm (ho2 r r2 hrl))]; exact r3⟩
 obtain ⟨A0x, hA0x⟩ : ∃ A0x, A0x = A0 ++ [Ent.row 1 false (List.replicate n .nilS)] := ⟨_, rfl⟩
 rw [<- hA0x] at lp mk
 obtain ⟨i1, hi1⟩ : ∃ i1 : Nat, i1 = k + 1 := ⟨_, rfl⟩
 obtain ⟨b0, hb0⟩ : ∃ b0, b0 = A0.length := ⟨_, rfl⟩
 rcases hO with ⟨rfl, rfl⟩ | ⟨o, gr, eo, rfl, hk0, ho1, ho2, ho3⟩
 ·refine ⟨D ++ [.row 1 false [.sl A0.length 0 n]], D.length, ?_, .inr ⟨D.length, false, [.sl A0.length 0 n], rfl, by omega, by simp, rfl, fun j hj => ?_⟩⟩
  ·have ap : aH 1 24 D .nilS (.sl A'.length 0 1) = some (.sl D.length 0 1, D ++ [.row 1 false [.sl A0.length 0 n]]) := by
    simp only [aH, hsrc]; simp
   rw [hD] at ap ⊢
   rw [<- hb0] at ap mk lp ⊢
   simp only [Int.natCast_zero] at lp b1 b3 ⊢
   simp [gZ, b1, b3, mk, wt lp, ap, -af, -bT]
  ·obtain rfl : j = 0 := by omega
   refine ⟨_, rfl, lvNew D.length _ (by omega) (fun r h1 h2 => by omega) fun j hj hne => ?_⟩
   rw [List.getElem?_append_left (by omega), hDo j hj]
 ·have hol := (List.getElem?_eq_some_iff.1 ho1).1
  have hDo1 : D[o]? = some (.row 1 gr eo) := by rw [hDo o (by omega), q4 o hol]; exact ho1
  have hset : ∀ j, j ≠ o -> (D.set o (.row 1 true (eo ++ [.sl A0.length 0 n])))[j]? = D[j]? := fun j hj => by rw [List.getElem?_set_ne (Ne.symm hj)]
  refine ⟨D.set o (.row 1 true (eo ++ [.sl A0.length 0 n])), o, ?_, .inr ⟨o, true, eo ++ [.sl A0.length 0 n], rfl, by omega, List.getElem?_set_self (by omega), by simp [ho2], fun j hj => ?_⟩⟩
  ·have ap : aH 1 24 D (.sl o 0 k) (.sl A'.length 0 1) = some (.sl o 0 (k + 1), D.set o (.row 1 true (eo ++ [.sl A0.length 0 n]))) := by
    simp only [aH, hsrc, hDo1]
    simp [ho2, hk0]; omega
   rw [hD] at ap ⊢
   rw [<- hb0] at ap mk lp ⊢
   rw [<- hi1] at ap b3 ⊢
   simp [gZ, b1, b3, mk, wt lp, ap, -af, -bT]
  ·by_cases hjk : j = k
   ·subst hjk
    refine ⟨.sl A0.length 0 n, by rw [<- ho2]; simp, lvNew o _ (by omega) (fun r h1 h2 => by omega) fun j hj hne => ?_⟩
    rw [hset j hne, hDo j hj]
   ·obtain ⟨w, w1, b', es', rfl, w2, w3, w4, w5⟩ := ho3 j (by omega)
    have hb'l := (List.getElem?_eq_some_iff.1 w3).1
    refine ⟨.sl b' 0 n, by rw [List.getElem?_append_left (by omega)]; exact w1, b', es', rfl, w2, ?_, w4, fun s hs => ?_⟩
    ·rw [hset b' w2, hDo b' (by omega), q4 b' hb'l]; exact w3
    ·obtain ⟨r', r1, r2, r3⟩ := w5 s hs
     have hr'l := (List.getElem?_eq_some_iff.1 r3).1
     exact ⟨r', r1, r2, by rw [hset r' r2, hDo r' (by omega), q4 r' hr'l]; exact r3⟩
def zU (L : List bZ) (n j : Nat) : AV := .fs 1 ((List.range n).map fun s => .fs 1 (cj n fun v => enc (bst L n j s v)))
def cS (L : List bZ) (n k : Nat) : AV := .fs 1 ((List.range k).map fun j => zU L n j)
theorem zf (A : ac) (m n : Nat) (f : Nat -> Int) : (cj n f).map (frz A m) = cj n f := by
 unfold cj; rw [List.map_map]; apply List.map_congr_left; intro v _; cases m <;> rfl
theorem AY.frz {A : ac} {v : AV} {L : List bZ} {n k : Nat} (h : AY A v L n k) (hk : k ≠ 0) (m : Nat) : Proofs.Ytemklhljjaniaaa.frz A (m + 3) v = cS L n k := by
 rcases h with ⟨_, h⟩ | ⟨o, gr, eo, rfl, _, h1, h2, h3⟩
 ·exact absurd h hk
 ·show Proofs.Ytemklhljjaniaaa.frz A (m + 2 + 1) _ = _
  simp only [Proofs.Ytemklhljjaniaaa.frz, h1, List.drop_zero]
  rw [List.take_of_length_le (by omega)]
  unfold cS
  congr 1
  apply List.ext_getElem (by simp [h2])
  intro j j1 j2
  obtain ⟨w, w1, b, es, rfl, w2, w3, w4, w5⟩ := h3 j (by simpa using j2)
  have e : eo[j]'(by simpa using j1) = .sl b 0 n := by
   rw [List.getElem?_eq_getElem (by simpa using j1)] at w1; exact Option.some.inj w1
  simp only [List.getElem_map, e, List.getElem_range]
  show Proofs.Ytemklhljjaniaaa.frz A (m + 1 + 1) _ = _
  simp only [Proofs.Ytemklhljjaniaaa.frz, w3, List.drop_zero]
  rw [List.take_of_length_le (by omega)]
  unfold zU
  congr 1
  apply List.ext_getElem (by simp [w4])
  intro s s1 s2
  obtain ⟨r, r1, r2, r3⟩ := w5 s (by simpa using s2)
  have e : es[s]'(by simpa using s1) = .sl r 0 n := by
   rw [List.getElem?_eq_getElem (by simpa using s1)] at r1; exact Option.some.inj r1
  simp only [List.getElem_map, e, List.getElem_range]
  show Proofs.Ytemklhljjaniaaa.frz A (m + 1) _ = _
  simp only [Proofs.Ytemklhljjaniaaa.frz, r3, List.drop_zero]
  rw [List.take_of_length_le (by simp [cj]), zf]
def M29 : aT := fun args => evP (au GC jy) 300 Ca 5 args
theorem vt : aq Try.prog GC 71 M29 := aq.of_ev (E := au GC jy) (av vE) rfl H8 CJ 5 fun _ _ h => ⟨300, h⟩
theorem x8 {n : Nat} {p : Int} {l : List aW} {a : AV} (ha : aX a = some l) (hr : a6 n l p) : M29 [.int .i64 (n : Int), a, .int .i64 p] = some (cS (lar p l) n (n + 1)) := by
 obtain ⟨⟨hn, hl200, hv⟩, hp⟩ := hr
 obtain ⟨o, h1, A', o', h2, rfl⟩ := da (E := au GC jy) (fuel := 300) (a := gZ) (mask := jM)
  (fun κ σ A => ∃ k outv, k + κ = n + 1 /\ σ = je (.int .i64 (n : Int)) a (.int .i64 p) outv (.int .i64 (k : Int)) /\ AY A outv (lar p l) n k)
  (fun o => ∃ A' outv, AY A' outv (lar p l) n (n + 1) /\ o = .exit 0 ((je (.int .i64 (n : Int)) a (.int .i64 p) outv (.int .i64 ((n + 1 : Nat) : Int))).set 11 (.bool false)) A')
  (by
   rintro κ σ A ⟨k, outv, hk, rfl, hO⟩
   rw [xA]
   by_cases hkn : k <= n
   ·obtain ⟨A', o', c1, c2⟩ := yC 300 (by omega) ha hl200 hp hv (by omega) (by omega) hkn hO
    exact .inl ⟨_, _, c1, κ - 1, by omega, k + 1, _, by omega, rfl, c2⟩
   ·obtain rfl : k = n + 1 := by omega
    have b1 := uP ((n + 1 : Nat) : Int) n
    rw [decide_eq_false (by omega)] at b1
    obtain ⟨kk, hkk⟩ : ∃ kk : Nat, kk = n + 1 := ⟨_, rfl⟩
    rw [<- hkk] at b1 hO ⊢
    refine .inr ⟨_, ?_, ?_, A, outv, hO, rfl⟩
    ·simp [gZ, b1, -af]
    ·intro _ _ h; cases h)
  300 (n + 1) (je (.int .i64 (n : Int)) a (.int .i64 p) .nilS (.int .i64 0)) [] (by omega) ⟨0, .nilS, by omega, rfl, .inl ⟨rfl, rfl⟩⟩
 have z := h2.frz (by omega) 2
 unfold M29
 rw [aN _ _ rfl]
 have p1 : gT [o'] = o' := rfl
 simp [Ca, CC h1, z, -frz]
theorem zc {h : List LP} {p sum : Int} {x : eM} {y : LP} (hy : y = h.getD x.1.t.toNat noL) (hw : Wf y) (_hs : -1000000000 <= sum /\ sum <= 1000000000) (_hl : -3000000 <= x.1.len p /\ x.1.len p <= 3000000) : gH h p sum x = (decide (enc y > N50) && decide (sum + x.1.len p + enc y > 0)) := by
 have hN50 : N50 = -1125899906842624 := rfl
 unfold gH
 rw [<- hy]
 rcases hw with rfl | ⟨e, h1, h2⟩
 ·have e1 : dN noL (sum + x.1.len p) = noL := rfl
  have e2 : enc noL = N50 := rfl
  rw [e1, e2]
  simp [noL]
 ·obtain ⟨y1, y2⟩ := y
  simp only at e h1 h2
  subst e
  have e1 : enc (y1, true) = y1 := rfl
  have e2 : dN (y1, true) (sum + x.1.len p) = (y1 + (sum + x.1.len p), true) := if_neg (by rintro ⟨h, _⟩; cases h)
  rw [e1, e2]
  simp only [Bool.true_and]
  have e3 : enc (y1, true) = y1 := rfl
  rw [decide_eq_true (show y1 > N50 by omega), Bool.true_and]
  congr 1
  rw [eq_iff_iff]
  constructor <;> intro h <;> omega
theorem wc {L : List bZ} {n k r t s : Nat} (hr : r < k) (ht : t < n) (hs : s < n) : (∀ A, ab 1 A (cS L n k) (.int .i64 (r : Int)) = some (.fp [zU L n r])) /\ (∀ A, ab 1 A (zU L n r) (.int .i64 (t : Int)) = some (.fp [.fs 1 (cj n fun v => enc (bst L n r t v))])) /\ (∀ A, ab 1 A (.fs 1 (cj n fun v => enc (bst L n r t v))) (.int .i64 (s : Int)) = some (.fp [.int .i64 (enc (bst L n r t s))])) := by
 refine ⟨fun A => ?_, fun A => ?_, fun A => ?_⟩
 ·exact (show SlA 1 ((List.range k).map fun j => zU L n j) (cS L n k) from .inr rfl).index1 (A := A) (by rw [List.getElem?_map, List.getElem?_range hr]; rfl) rfl rfl .i64
 ·exact (show SlA 1 ((List.range n).map fun s => .fs 1 (cj n fun v => enc (bst L n r s v))) (zU L n r) from .inr rfl).index1 (A := A) (by rw [List.getElem?_map, List.getElem?_range ht]; rfl) rfl rfl .i64
 ·exact (show SlA 1 (cj n fun v => enc (bst L n r t v)) (.fs 1 (cj n fun v => enc (bst L n r t v))) from .inr rfl).index1 (A := A) (iy _ hs) rfl rfl .i64
def nxQ (L : List bZ) (n r s : Nat) (p sum : Int) (j i : Nat) (at_ : Int) (x : eM) : Bool := !((decide (j = 0) && decide (x.2 ≠ i)) || decide (x.1.f ≠ at_)) && gH (hm L n s r) p sum x
section
variable {n : Nat} {p : Int} {l : List aW} {a : AV}
theorem te (fuel : Nat) (A : ac) (ha : aX a = some l) (hl200 : l.length <= 200) (hp : a8 p) (hv : ∀ x ∈ l, okA n x) (hn : n <= 32) {k j i s r m : Nat} (hk : k <= n) (hjk : j < k) (hr : r = k - 1 - j) (hs : s < n) {sum at_ : Int} (hsum : -1000000000 <= sum /\ sum <= 1000000000) (hm' : m < l.length) (v9 : AV) :
  run (au GC jy) fuel [.code dR] (gE a (.int .i64 p) (cS (lar p l) n (n + 1)) (.int .i64 (k : Int)) (.int .i64 (i : Int)) (.int .i64 (s : Int)) (.int .i64 sum) (.int .i64 at_) v9 (.int .i64 (j : Int)) (.int .i64 (-1)) (.int .i64 (m : Int))) A =
   some (.normal (gE a (.int .i64 p) (cS (lar p l) n (n + 1)) (.int .i64 (k : Int)) (.int .i64 (i : Int)) (.int .i64 (s : Int)) (.int .i64 sum) (.int .i64 at_) v9 (.int .i64 (j : Int)) (.int .i64 (if nxQ (lar p l) n r s p sum j i at_ (l[m], m) = true then (m : Int) else -1)) (.int .i64 ((m + 1 : Nat) : Int))) A) := by
 have hN50 : N50 = -1125899906842624 := rfl
 obtain ⟨hl, hmm⟩ := bN ha
 have x1 := de ha hm' A .i64
 have b1 := bc m l.length .i64
 rw [decide_eq_true hm'] at b1
 have b2 := wM (-1) 0
 rw [decide_eq_true (by omega)] at b2
 have b3 := aK m (by omega)
 have hok := hv _ (List.getElem_mem hm')
 obtain ⟨t, ht, htn⟩ := fN hok.2.1
 have mm := m39 (by omega) hok hp
 have hle := dT (n := 32) (a := l[m]) ⟨by have := hok.1; omega, by have := hok.2.1; omega, hok.2.2.1, hok.2.2.2⟩ hp
 have htn' : t < n := by omega
 have hw : Wf (bst (lar p l) n r t s) := sF (lf hn hp hv) (by omega) (gA (lf hn hp hv) htn' hs) fun z h => h
 have e2 : l[m].t.toNat = t := by omega
 have hgood := zc (h := hm (lar p l) n s r) (p := p) (sum := sum) (x := (l[m], m)) (y := bst (lar p l) n r t s) (by unfold bst; rw [e2]) hw hsum ⟨hle.1, hle.2.1⟩
 unfold nxQ
 rw [hgood]
 obtain ⟨y1, y2, y3⟩ := wc (L := lar p l) (n := n) (k := n + 1) (r := r) (t := t) (s := s) (by omega) htn' hs
 simp only
 obtain ⟨w, hw1⟩ : ∃ w, w = l[m].len p := ⟨_, rfl⟩
 rw [<- hw1] at mm hle ⊢
 rw [ht] at x1 mm
 obtain ⟨f, hf⟩ : ∃ f, f = l[m].f := ⟨_, rfl⟩
 rw [<- hf] at x1 mm ⊢
 have hN : N50 <= enc (bst (lar p l) n r t s) /\ enc (bst (lar p l) n r t s) <= 1000000000 := by
  rcases hw with e | ⟨e, h1, h2⟩
  ·rw [e]; simp [enc, noL]
  ·have : enc (bst (lar p l) n r t s) = (bst (lar p l) n r t s).1 := by unfold enc; rw [if_pos e]
   rw [this]; omega
 have c1 := CF (j : Int) 0
 have c2 := zi (m : Int) i
 have c3 := zi f at_
 have b4 := wL (a := (k : Int)) (b := 1) (by omega)
 have b5 := wL (a := (k : Int) - 1) (b := j) (by omega)
 have b6 := wN (enc (bst (lar p l) n r t s)) N50
 have b7 := oC (a := sum) (b := w) (by omega)
 have b8 := oC (a := sum + w) (b := enc (bst (lar p l) n r t s)) (by omega)
 have b9 := wN (sum + w + enc (bst (lar p l) n r t s)) 0
 rw [show (k : Int) - 1 - j = (r : Int) by omega] at b5
 rw [show decide ((j : Int) = 0) = decide (j = 0) by rw [Bool.eq_iff_iff, decide_eq_true_eq, decide_eq_true_eq]; omega] at c1
 rw [show decide ((m : Int) ≠ (i : Int)) = decide (m ≠ i) by rw [Bool.eq_iff_iff, decide_eq_true_eq, decide_eq_true_eq]; omega] at c2
 obtain ⟨z, hz⟩ : ∃ z, z = enc (bst (lar p l) n r t s) := ⟨_, rfl⟩
 rw [<- hz] at y3 b6 b8 b9 ⊢
 obtain ⟨k1, hk1⟩ : ∃ k1, k1 = (k : Int) - 1 := ⟨_, rfl⟩
 rw [<- hk1] at b4 b5
 obtain ⟨sw, hsw⟩ : ∃ sw, sw = sum + w := ⟨_, rfl⟩
 rw [<- hsw] at b7 b8 b9 ⊢
 obtain ⟨sz, hsz⟩ : ∃ sz, sz = sw + z := ⟨_, rfl⟩
 rw [<- hsz] at b8 b9 ⊢
 obtain ⟨d1, hd1⟩ : ∃ d, d = decide (j = 0) := ⟨_, rfl⟩
 obtain ⟨d2, hd2⟩ : ∃ d, d = decide (m ≠ i) := ⟨_, rfl⟩
 obtain ⟨d3, hd3⟩ : ∃ d, d = decide (f ≠ at_) := ⟨_, rfl⟩
 obtain ⟨d4, hd4⟩ : ∃ d, d = decide (z > N50) := ⟨_, rfl⟩
 obtain ⟨d5, hd5⟩ : ∃ d, d = decide (sz > 0) := ⟨_, rfl⟩
 rw [<- hd1] at c1 ⊢
 rw [<- hd2] at c2 ⊢
 rw [<- hd3] at c3 ⊢
 rw [<- hd4] at b6 ⊢
 rw [<- hd5] at b9 ⊢
 obtain ⟨i1, hi1⟩ : ∃ i1 : Nat, i1 = m + 1 := ⟨_, rfl⟩
 rw [<- hi1] at b3 ⊢
 obtain ⟨LT, hLT⟩ : ∃ LT, LT = cS (lar p l) n (n + 1) := ⟨_, rfl⟩
 obtain ⟨VT, hVT⟩ : ∃ T, zU (lar p l) n r = .fs 1 T := ⟨_, rfl⟩
 rw [<- hLT] at y1 ⊢
 rw [hVT] at y1 y2
 obtain ⟨RR, hRR⟩ : ∃ R, R = cj n fun v => enc (bst (lar p l) n r t v) := ⟨_, rfl⟩
 rw [<- hRR] at y2 y3
 have tail : (d1 && d2 || d3) = false -> run (au GC jy) fuel [.code dR] (gE a (.int .i64 p) LT (.int .i64 (k : Int)) (.int .i64 (i : Int)) (.int .i64 (s : Int)) (.int .i64 sum) (.int .i64 at_) v9 (.int .i64 (j : Int)) (.int .i64 (-1)) (.int .i64 (m : Int))) A = some (.normal (gE a (.int .i64 p) LT (.int .i64 (k : Int)) (.int .i64 (i : Int)) (.int .i64 (s : Int)) (.int .i64 sum) (.int .i64 at_) v9 (.int .i64 (j : Int)) (.int .i64 (if (d4 && d5) = true then (m : Int) else -1)) (.int .i64 (i1 : Int))) A) := by
  intro h
  cases d3
  rotate_left
  ·simp at h
  cases d1
  ·cases d4
   ·simp [dR, hl, b1, b2, b3, b4, b5, b6, c1, c3, x1, y1, y2, y3, -af, -ab, -aj]
   ·cases d5 <;> simp [dR, hl, b1, b2, b3, b4, b5, b6, b7, b8, b9, c1, c3, x1, y1, y2, y3, mm, -af, -ab, -aj]
  ·cases d2
   rotate_left
   ·simp at h
   cases d4
   ·simp [dR, hl, b1, b2, b3, b4, b5, b6, c1, c2, c3, x1, y1, y2, y3, -af, -ab, -aj]
   ·cases d5 <;> simp [dR, hl, b1, b2, b3, b4, b5, b6, b7, b8, b9, c1, c2, c3, x1, y1, y2, y3, mm, -af, -ab, -aj]
 cases hskip : (d1 && d2 || d3) with
 | false =>
  rw [tail hskip]; simp
 | true =>
  simp only [Bool.not_true, Bool.false_and, Bool.false_eq_true, if_false]
  cases d1
  ·cases d3
   ·simp at hskip
   ·simp [dR, hl, b1, b2, b3, c1, c3, x1, -af, -ab, -aj]
  ·cases d2
   ·cases d3
    ·simp at hskip
    ·simp [dR, hl, b1, b2, b3, c1, c2, c3, x1, -af, -ab, -aj]
   ·simp [dR, hl, b1, b2, b3, c1, c2, -af, -ab, -aj]
end
theorem sr {α : Type} (q g : α -> Bool) (xs : List α) : xs.find? (fun x => q x && g x) = (xs.filter q).find? g := by
 rw [List.find?_filter]
 congr 1
 funext x
 cases q x <;> cases g x <;> rfl
theorem y8 {l : List aW} (Q : eM -> Bool) : cy Q (num l) = match (num l).find? Q with
  | none => -1
  | some b => (b.2 : Int) := by
 rcases tQ Q (num l) with ⟨h1, h2⟩ | ⟨i, hi, h1, h2, _⟩
 ·rw [h1, h2]
 ·rw [h1, h2]
  have hil : i < l.length := by rw [dB] at hi; exact hi
  have e : (num l)[i] = (l[i], i) := by
   have := dc l i hil
   rw [List.getElem?_eq_getElem hi] at this
   exact Option.some.inj this
  rw [e]
theorem BV {L : List bZ} {n r s : Nat} {p sum : Int} {l : List aW} {n' : Int} (_hv : ∀ x ∈ l, okA n' x) {j i : Nat} (hi : i < l.length) {at_ : Int} (hat : 0 <= at_) (hj : j = 0 -> at_ = l[i].f) :
  (num l).find? (nxQ L n r s p sum j i at_) = (if j = 0 then [(l[i], i)] else jI l at_.toNat).find? (gH (hm L n s r) p sum) := by
 by_cases h0 : j = 0
 ·rw [if_pos h0]
  have hq : ∀ x ∈ num l, nxQ L n r s p sum j i at_ x = true ↔ x = (l[i], i) /\ gH (hm L n s r) p sum (l[i], i) = true := fun x hx => by
   unfold nxQ
   simp only [h0, decide_true, Bool.true_and, Bool.and_eq_true, Bool.not_eq_true', Bool.or_eq_false_iff, decide_eq_false_iff_not, Classical.not_not]
   constructor
   ·rintro ⟨⟨h1, h2⟩, h3⟩
    obtain ⟨hx1, hx2⟩ := gi hx
    have e : x = (l[i], i) := by
     obtain ⟨x1, x2⟩ := x
     simp only at h1 hx2
     subst h1
     rw [<- hx2]
    exact ⟨e, by rw [<- e]; exact h3⟩
   ·rintro ⟨e, h3⟩
    subst e
    exact ⟨⟨rfl, (hj h0).symm⟩, h3⟩
  have hmem : (l[i], i) ∈ num l := List.mem_of_getElem? (dc l i hi)
  by_cases hg : gH (hm L n s r) p sum (l[i], i) = true
  ·have : [(l[i], i)].find? (gH (hm L n s r) p sum) = some (l[i], i) := by simp [hg]
   rw [this]
   cases hf : (num l).find? (nxQ L n r s p sum j i at_) with
   | none =>
    rw [List.find?_eq_none] at hf
    exact absurd ((hq _ hmem).2 ⟨rfl, hg⟩) (hf _ hmem)
   | some y =>
    rw [((hq y (List.mem_of_find?_eq_some hf)).1 (List.find?_some hf)).1]
  ·have : [(l[i], i)].find? (gH (hm L n s r) p sum) = none := by simp [hg]
   rw [this, List.find?_eq_none]
   intro x hx h
   exact hg ((hq x hx).1 h).2
 ·rw [if_neg h0]
  have e : nxQ L n r s p sum j i at_ = fun x => decide (x.1.f = at_) && gH (hm L n s r) p sum x := by
   funext x
   unfold nxQ
   rw [decide_eq_false h0, Bool.false_and, Bool.false_or]
   congr 1
   by_cases h : x.1.f = at_ <;> simp [h]
  rw [e, sr]
  unfold jI
  rw [show ((at_.toNat : Nat) : Int) = at_ by omega]
section
variable {n : Nat} {p : Int} {l : List aW} {a : AV}
theorem Ce (fuel : Nat) (hf : 250 < fuel) (A : ac) (ha : aX a = some l) (hl200 : l.length <= 200) (hp : a8 p) (hv : ∀ x ∈ l, okA n x) (hn : n <= 32) {k j i s r : Nat} (hk : k <= n) (hjk : j < k) (hr : r = k - 1 - j) (hs : s < n) {sum at_ : Int} (hsum : -1000000000 <= sum /\ sum <= 1000000000) (v9 : AV) :
  ∃ m' : Nat, bg (evC (au GC jy) fuel dR) gm fuel (gE a (.int .i64 p) (cS (lar p l) n (n + 1)) (.int .i64 (k : Int)) (.int .i64 (i : Int)) (.int .i64 (s : Int)) (.int .i64 sum) (.int .i64 at_) v9 (.int .i64 (j : Int)) (.int .i64 (-1)) (.int .i64 0)) A =
   some (.exit 4 ((gE a (.int .i64 p) (cS (lar p l) n (n + 1)) (.int .i64 (k : Int)) (.int .i64 (i : Int)) (.int .i64 (s : Int)) (.int .i64 sum) (.int .i64 at_) v9 (.int .i64 (j : Int)) (.int .i64 (cy (nxQ (lar p l) n r s p sum j i at_) (num l))) (.int .i64 (m' : Int))).set 16 (.bool false)) A) := by
 obtain ⟨hl, hmm⟩ := bN ha
 have hnm : ∀ i (hi : i < l.length), (num l)[i]'(by rw [dB]; exact hi) = (l[i], i) := fun i hi => by
  have := dc l i hi
  rw [List.getElem?_eq_getElem (by rw [dB]; exact hi)] at this
  exact Option.some.inj this
 cases h : (num l).findIdx? (nxQ (lar p l) n r s p sum j i at_) with
 | none =>
  have e : cy (nxQ (lar p l) n r s p sum j i at_) (num l) = -1 := by unfold cy; rw [h]
  rw [List.findIdx?_eq_none_iff] at h
  rw [e]
  refine ⟨l.length, ?_⟩
  exact e9 (E := au GC jy) (fuel := fuel) (a := dR) (mask := gm) (fun m => gE a (.int .i64 p) (cS (lar p l) n (n + 1)) (.int .i64 (k : Int)) (.int .i64 (i : Int)) (.int .i64 (s : Int)) (.int .i64 sum) (.int .i64 at_) v9 (.int .i64 (j : Int)) (.int .i64 (-1)) (.int .i64 (m : Int))) (fun _ => A) l.length
   (fun _ => xz) (fun _ _ h => by cases h) (fun m hm' => by
    have := te fuel A ha hl200 hp hv hn hk hjk hr hs (i := i) (at_ := at_) hsum hm' v9
    rw [h _ (List.mem_of_getElem? (dc l m hm'))] at this
    rw [if_neg (by simp)] at this
    exact this) (by
    obtain ⟨LT, hLT⟩ : ∃ LT, LT = cS (lar p l) n (n + 1) := ⟨_, rfl⟩
    rw [<- hLT]
    simp [dR, hl, -aj]) (show l.length < fuel by omega)
 | some i0 =>
  have e : cy (nxQ (lar p l) n r s p sum j i at_) (num l) = (i0 : Int) := by unfold cy; rw [h]
  obtain ⟨h1, h2, h3⟩ := List.findIdx?_eq_some_iff_getElem.1 h
  rw [dB] at h1
  rw [hnm i0 h1] at h2
  rw [e]
  refine ⟨i0 + 1, ?_⟩
  have lp := e9 (E := au GC jy) (fuel := fuel) (a := dR) (mask := gm) (fun m => gE a (.int .i64 p) (cS (lar p l) n (n + 1)) (.int .i64 (k : Int)) (.int .i64 (i : Int)) (.int .i64 (s : Int)) (.int .i64 sum) (.int .i64 at_) v9 (.int .i64 (j : Int)) (.int .i64 (if m <= i0 then -1 else (i0 : Int))) (.int .i64 (m : Int))) (fun _ => A) (i0 + 1)
   (o := .exit 4 ((gE a (.int .i64 p) (cS (lar p l) n (n + 1)) (.int .i64 (k : Int)) (.int .i64 (i : Int)) (.int .i64 (s : Int)) (.int .i64 sum) (.int .i64 at_) v9 (.int .i64 (j : Int)) (.int .i64 (i0 : Int)) (.int .i64 ((i0 + 1 : Nat) : Int))).set 16 (.bool false)) A)
   (fun _ => xz) (fun _ _ h => by cases h) (fun m hm' => by
    have := te fuel A ha hl200 hp hv hn hk hjk hr hs (i := i) (at_ := at_) hsum (show m < l.length by omega) v9
    rw [if_pos (show m <= i0 by omega)]
    rw [this]
    by_cases hmi : m = i0
    ·subst hmi
     rw [if_pos h2, if_neg (by omega)]
    ·have h4 := h3 m (by omega)
     rw [hnm m (by omega)] at h4
     rw [if_neg h4, if_pos (by omega)]) (by
    rw [if_neg (show ¬ i0 + 1 <= i0 by omega)]
    have b1 := bc (i0 + 1) l.length .i64
    have b2 := wM (i0 : Int) 0
    rw [decide_eq_false (by omega)] at b2
    obtain ⟨q, hq⟩ : ∃ q, q = i0 + 1 := ⟨_, rfl⟩
    rw [<- hq] at b1 ⊢
    obtain ⟨LT, hLT⟩ : ∃ LT, LT = cS (lar p l) n (n + 1) := ⟨_, rfl⟩
    rw [<- hLT]
    by_cases hql : q < l.length
    ·rw [decide_eq_true hql] at b1
     simp [dR, hl, b1, b2, -aj, -af]
    ·rw [decide_eq_false hql] at b1
     simp [dR, hl, b1, -aj, -af]) (show i0 + 1 < fuel by omega)
  have lp : bg (evC (au GC jy) fuel dR) gm fuel (gE a (.int .i64 p) (cS (lar p l) n (n + 1)) (.int .i64 (k : Int)) (.int .i64 (i : Int)) (.int .i64 (s : Int)) (.int .i64 sum) (.int .i64 at_) v9 (.int .i64 (j : Int)) (.int .i64 (if 0 <= i0 then -1 else (i0 : Int))) (.int .i64 0)) A = _ := lp
  rw [if_pos (by omega)] at lp
  exact lp
theorem qk (p : Int) (l : List aW) (hs : Nat -> List LP) : ∀ (r : Nat) (sum : Int) (ch : List eM) (out res : List Int), gL p l hs r sum ch out = some res -> res.length = out.length + r
 | 0, sum, ch, out, res, h => by simp only [gL, Option.some.injEq] at h; rw [<- h]; rfl
 | r + 1, sum, ch, out, res, h => by
  unfold gL at h
  split at h
  ·cases h
  ·have := qk p l hs r _ _ _ _ h
   rw [this]; simp; omega
theorem Cf (fuel : Nat) (hf : 250 < fuel) (ha : aX a = some l) (hl200 : l.length <= 200) (hp : a8 p) (hv : ∀ x ∈ l, okA n x) (hn : n <= 32) {k i s : Nat} (hk : k <= n) (hil : i < l.length) (hs : s < n) :
  ∀ (q j : Nat) (sum at_ : Int) (out : List Int) (v9 : AV) (A : ac) (m : Nat), q < m -> q + j = k -> -(3000000 * (j : Int)) <= sum /\ sum <= 3000000 * j -> 0 <= at_ -> (j = 0 -> at_ = l[i].f) -> out.length = j -> qf 1 A v9 (ag out) ->
   ∃ w6 w7 w8 v9' w10 w11 w12 w13 w14 w15 w16 w17 w18 w19 w20 A' out', bg (evC (au GC jy) fuel kV) md m (qm a (.int .i64 p) (cS (lar p l) n (n + 1)) (.int .i64 (k : Int)) (.int .i64 (i : Int)) (.int .i64 (s : Int)) (.int .i64 sum) (.int .i64 at_) v9 (.int .i64 (j : Int))) A =
    some (.exit 2 [a, .int .i64 p, cS (lar p l) n (n + 1), .int .i64 (k : Int), .undef, .int .i64 (i : Int), w6, w7, w8, v9', w10, w11, w12, w13, w14, w15, w16, w17, w18, w19, w20] A') /\ qf 1 A' v9' (ag out') /\
    match gL p l (hm (lar p l) n s) q sum (if j = 0 then [(l[i], i)] else jI l at_.toNat) out with
    | some res => out' = res
    | none => out'.length < k := by
 intro q
 induction q with
 | zero =>
  intro j sum at_ out v9 A m hm0 hq hsum hat hj ho hI
  obtain ⟨m, rfl⟩ : ∃ j, m = j + 1 := ⟨m - 1, by omega⟩
  have hjk : j = k := by omega
  subst hjk
  refine ⟨.int .i64 (s : Int), .int .i64 sum, .int .i64 at_, v9, .int .i64 (j : Int), .undef, .undef, .undef, .undef, .bool false, .undef, .undef, .undef, .undef, .undef, A, out, ?_, hI, rfl⟩
  ·rw [aQ, xy]
   obtain ⟨LT, hLT⟩ : ∃ LT, LT = cS (lar p l) n (n + 1) := ⟨_, rfl⟩
   rw [<- hLT]
   simp [kV]
 | succ q ih =>
  intro j sum at_ out v9 A m hm0 hq hsum hat hj ho hI
  obtain ⟨m, rfl⟩ : ∃ j, m = j + 1 := ⟨m - 1, by omega⟩
  obtain ⟨m', lp⟩ := Ce fuel hf A ha hl200 hp hv hn hk (show j < k by omega) (show q = k - 1 - j by omega) hs (i := i) (at_ := at_) (show -1000000000 <= sum /\ sum <= 1000000000 by omega) v9
  rw [y8, BV hv hil hat hj] at lp
  have b1 := bc j k .i64
  rw [decide_eq_true (by omega)] at b1
  rw [aQ, xy]
  unfold gL
  cases hfd : (if j = 0 then [(l[i], i)] else jI l at_.toNat).find? (gH (hm (lar p l) n s q) p sum) with
  | none =>
   rw [hfd] at lp
   simp only at lp
   have b2 := wM (-1) 0
   rw [decide_eq_true (by omega)] at b2
   refine ⟨.int .i64 (s : Int), .int .i64 sum, .undef, v9, .int .i64 (j : Int), .int .i64 (-1), .undef, .undef, .undef, .undef, .undef, .undef, .undef, .bool true, .undef, A, out, ?_, hI, by simp only; omega⟩
   obtain ⟨LT, hLT⟩ : ∃ LT, LT = cS (lar p l) n (n + 1) := ⟨_, rfl⟩
   rw [<- hLT] at lp ⊢
   simp [kV, b1, b2, Ai lp, -af]
  | some b =>
   rw [hfd] at lp
   simp only at lp
   have hbm : b ∈ num l := by
    have := List.mem_of_find?_eq_some hfd
    split at this
    ·have e : b = (l[i], i) := by simpa using this
     rw [e]; exact List.mem_of_getElem? (dc l i hil)
    ·exact (List.mem_filter.1 this).1
   obtain ⟨hb1, hb2⟩ := gi hbm
   have hok := oT hv hbm
   have hle := dT (n := 32) (a := b.1) ⟨by have := hok.1; omega, by have := hok.2.1; omega, hok.2.2.1, hok.2.2.2⟩ hp
   have x1 := fun A => de ha hb1 A .i64
   have mm := m39 (show (n : Int) <= 32 by omega) (show okA n l[b.2] by rw [hb2]; exact hok) hp
   rw [hb2] at x1 mm
   have b2 := wM (b.2 : Int) 0
   rw [decide_eq_false (by omega)] at b2
   have b3 := aK j (by omega)
   have b4 := oC (a := sum) (b := b.1.len p) (by omega)
   obtain ⟨s', k', C, ap, c1, c2, c3, c4⟩ := hI.append (bytes := 8) (.int .i64 (b.2 : Int)) (by omega) (by omega) (by rw [aA]; omega)
   have e1 : ag out ++ [.int .i64 (b.2 : Int)] = ag (out ++ [(b.2 : Int)]) := by simp [ag]
   rw [e1] at c1
   obtain ⟨w6, w7, w8, v9', w10, w11, w12, w13, w14, w15, w16, w17, w18, w19, w20, A', out', k1, k2, k3⟩ := ih (j + 1) (sum + b.1.len p) b.1.t (out ++ [(b.2 : Int)]) (.sl s' 0 k') C m (by omega) (by omega) (by omega) hok.2.1.1 (fun h => by omega) (by simp [ho]) c1
   rw [if_neg (show ¬ j + 1 = 0 by omega)] at k3
   refine ⟨w6, w7, w8, v9', w10, w11, w12, w13, w14, w15, w16, w17, w18, w19, w20, A', out', ?_, k2, k3⟩
   obtain ⟨LT, hLT⟩ : ∃ LT, LT = cS (lar p l) n (n + 1) := ⟨_, rfl⟩
   rw [<- hLT] at lp k1 ⊢
   obtain ⟨i1, hi1⟩ : ∃ i1 : Nat, i1 = j + 1 := ⟨_, rfl⟩
   rw [<- hi1] at b3 k1
   obtain ⟨sw, hsw⟩ : ∃ sw, sw = sum + b.1.len p := ⟨_, rfl⟩
   rw [<- hsw] at b4 k1
   have hrun : run (au GC jy) fuel [.code kV] (qm a (.int .i64 p) LT (.int .i64 (k : Int)) (.int .i64 (i : Int)) (.int .i64 (s : Int)) (.int .i64 sum) (.int .i64 at_) v9 (.int .i64 (j : Int))) A = some (.normal (qm a (.int .i64 p) LT (.int .i64 (k : Int)) (.int .i64 (i : Int)) (.int .i64 (s : Int)) (.int .i64 sw) (.int .i64 b.1.t) (.sl s' 0 k') (.int .i64 (i1 : Int))) C) := by
    simp [kV, b1, b2, b3, b4, Ai lp, ap, x1, mm, -af, -ab]
   rw [hrun]
   exact k1
theorem yz (fuel : Nat) (hf : 250 < fuel) (A : ac) (ha : aX a = some l) (hl200 : l.length <= 200) (hp : a8 p) (hv : ∀ x ∈ l, okA n x) (hn : n <= 32) {k i : Nat} (_hk1 : 1 <= k) (hk : k <= n) (hil : i < l.length) :
  (∃ res, wk p l n k (l[i], i) = some res /\ ∃ v6 v7 v8 v9 v10 v11 v12 v13 v14 v15 v16 v17 v18 v19 v20 A', qf 1 A' v9 (ag res) /\ run (au GC jy) fuel [.code jX] (kM a (.int .i64 p) (cS (lar p l) n (n + 1)) (.int .i64 (k : Int)) (.int .i64 (i : Int))) A = some (.ret [a, .int .i64 p, cS (lar p l) n (n + 1), .int .i64 (k : Int), v9, .int .i64 (i : Int), v6, v7, v8, v9, v10, v11, v12, v13, v14, v15, v16, v17, v18, v19, v20] A')) \/
  (wk p l n k (l[i], i) = none /\ ∃ A', run (au GC jy) fuel [.code jX] (kM a (.int .i64 p) (cS (lar p l) n (n + 1)) (.int .i64 (k : Int)) (.int .i64 (i : Int))) A = some (.normal (kM a (.int .i64 p) (cS (lar p l) n (n + 1)) (.int .i64 (k : Int)) (.int .i64 ((i + 1 : Nat) : Int))) A')) := by
 obtain ⟨hl, hmm⟩ := bN ha
 have x1 := fun A => de ha hil A .i64
 have hok := hv _ (List.getElem_mem hil)
 obtain ⟨f, hf1, hfn⟩ := fN hok.1
 obtain ⟨w6, w7, w8, v9', w10, w11, w12, w13, w14, w15, w16, w17, w18, w19, w20, A', out', k1, k2, k3⟩ := Cf fuel hf ha hl200 hp hv hn hk hil (show f < n by omega) k 0 0 l[i].f [] .nilS A fuel (by omega) (by omega) (by omega) hok.1.1 (fun _ => rfl) rfl (.inl ⟨rfl, rfl⟩)
 rw [if_pos rfl] at k3
 have ew : wk p l n k (l[i], i) = gL p l (hm (lar p l) n f) k 0 [(l[i], i)] [] := by
  unfold wk
  simp only
  rw [show l[i].f.toNat = f by omega]
 rw [ew]
 have b1 := bc i l.length .i64
 rw [decide_eq_true hil] at b1
 have b3 := aK i (by omega)
 obtain ⟨i1, hi1⟩ : ∃ i1 : Nat, i1 = i + 1 := ⟨_, rfl⟩
 rw [<- hi1] at b3 ⊢
 have hlen : aj v9' = some (.int .i64 (out'.length : Int)) := by
  rcases k2 with ⟨e1, e2⟩ | ⟨id, gr, e1, _⟩
  ·have : out' = [] := by
    cases out' with
    | nil => rfl
    | cons _ _ => simp [ag] at e2
   rw [e1, this]; rfl
  ·rw [e1]; simp [aj, aA]
 have b2 := CF (out'.length : Int) k
 rw [hf1] at x1 k1
 have e0 : ((0 : Nat) : Int) = 0 := rfl
 rw [e0] at k1
 obtain ⟨LT, hLT⟩ : ∃ LT, LT = cS (lar p l) n (n + 1) := ⟨_, rfl⟩
 rw [<- hLT] at k1 ⊢
 cases hw : gL p l (hm (lar p l) n f) k 0 [(l[i], i)] [] with
 | some res =>
  rw [hw] at k3
  simp only at k3
  have hlr := qk p l _ _ _ _ _ _ hw
  rw [k3] at b2 hlen k2
  rw [decide_eq_true (by simp at hlr; omega)] at b2
  refine .inl ⟨res, rfl, .undef, .undef, .undef, v9', .undef, .undef, .undef, .undef, .undef, .undef, .undef, .undef, .undef, .undef, .bool true, A', k2, ?_⟩
  simp [jX, hl, b1, b2, hlen, x1, Ah k1, -af, -aj, -ab]
 | none =>
  rw [hw] at k3
  simp only at k3
  rw [decide_eq_false (by omega)] at b2
  refine .inr ⟨rfl, A', ?_⟩
  simp [jX, hl, b1, b2, b3, hlen, x1, Ah k1, -af, -aj, -ab]
def M30 : aT := fun args => evP (au GC jy) 300 Fi 5 args
theorem Ds : aq Try.prog GC 72 M30 := aq.of_ev (E := au GC jy) (av vE) rfl at30 Ej 5 fun _ _ h => ⟨300, h⟩
theorem EV (ha : aX a = some l) (hr : a6 n l p) {k : Nat} (hk1 : 1 <= k) (hk : k <= n) : M30 [a, .int .i64 p, cS (lar p l) n (n + 1), .int .i64 (k : Int)] = some (slA 1 (ag ((cn p l n k).getD []))) := by
 obtain ⟨⟨hn, hl200, hv⟩, hp⟩ := hr
 obtain ⟨hl, hmm⟩ := bN ha
 have hn32 : n <= 32 := by omega
 have hnm : ∀ i (hi : i < l.length), (num l)[i]'(by rw [dB]; exact hi) = (l[i], i) := fun i hi => by
  have := dc l i hi
  rw [List.getElem?_eq_getElem (by rw [dB]; exact hi)] at this
  exact Option.some.inj this
 obtain ⟨o, h1, h2⟩ := da (E := au GC jy) (fuel := 300) (a := jX) (mask := mb)
  (fun κ σ A => ∃ i, i + κ = l.length /\ σ = kM a (.int .i64 p) (cS (lar p l) n (n + 1)) (.int .i64 (k : Int)) (.int .i64 (i : Int)) /\ ∀ j x, j < i -> (num l)[j]? = some x -> wk p l n k x = none)
  (fun o => (∃ i res v6 v7 v8 v9 v10 v11 v12 v13 v14 v15 v16 v17 v18 v19 v20 A', cn p l n k = some res /\ qf 1 A' v9 (ag res) /\ o = .ret [a, .int .i64 p, cS (lar p l) n (n + 1), .int .i64 (k : Int), v9, .int .i64 (i : Int), v6, v7, v8, v9, v10, v11, v12, v13, v14, v15, v16, v17, v18, v19, v20] A') \/
   (cn p l n k = none /\ ∃ A', o = .exit 0 ((kM a (.int .i64 p) (cS (lar p l) n (n + 1)) (.int .i64 (k : Int)) (.int .i64 (l.length : Int))).set 14 (.bool false)) A'))
  (by
   rintro κ σ A ⟨i, hik, rfl, hno⟩
   rw [AJ]
   by_cases hi : i < l.length
   ·rcases yz 300 (by omega) A ha hl200 hp hv hn32 hk1 hk hi with ⟨res, hw, v6, v7, v8, v9, v10, v11, v12, v13, v14, v15, v16, v17, v18, v19, v20, A', c1, c2⟩ | ⟨hw, A', c2⟩
    ·refine .inr ⟨_, c2, (fun _ _ h => by cases h), .inl ⟨i, res, v6, v7, v8, v9, v10, v11, v12, v13, v14, v15, v16, v17, v18, v19, v20, A', ?_, c1, rfl⟩⟩
     unfold cn
     rcases gv (wk p l n k) (num l) with ⟨q1, q2⟩ | ⟨m, hm0, r, q1, q2, q3⟩
     ·have := q2 _ (List.mem_of_getElem? (dc l i hi))
      rw [hw] at this; cases this
     ·rw [q1]
      have hml : m < l.length := by rw [dB] at hm0; exact hm0
      rcases Nat.lt_trichotomy m i with h | h | h
      ·have := hno m _ h (List.getElem?_eq_getElem hm0)
       rw [q2] at this; cases this
      ·subst h
       rw [hnm m hml, hw] at q2
       exact q2.symm
      ·have := q3 i h
       rw [hnm i hi, hw] at this; cases this
    ·refine .inl ⟨_, _, c2, κ - 1, by omega, i + 1, by omega, rfl, fun j x hj hx => ?_⟩
     by_cases hji : j = i
     ·subst hji
      rw [dc l j hi] at hx
      injection hx with hx
      rw [<- hx]; exact hw
     ·exact hno j x (by omega) hx
   ·obtain rfl : i = l.length := by omega
    refine .inr ⟨_, ?_, (fun _ _ h => by cases h), .inr ⟨?_, A, rfl⟩⟩
    ·obtain ⟨LT, hLT⟩ : ∃ LT, LT = cS (lar p l) n (n + 1) := ⟨_, rfl⟩
     rw [<- hLT]
     simp [jX, hl, -aj]
    ·unfold cn
     rw [List.findSome?_eq_none_iff]
     intro x hx
     obtain ⟨j, hj, rfl⟩ := List.mem_iff_getElem.1 hx
     exact hno j _ (by rw [dB] at hj; exact hj) (List.getElem?_eq_getElem hj))
  300 l.length (kM a (.int .i64 p) (cS (lar p l) n (n + 1)) (.int .i64 (k : Int)) (.int .i64 0)) [] (by omega) ⟨0, by omega, rfl, fun j x hj => by omega⟩
 unfold M30
 rw [aN _ _ rfl]
 obtain ⟨LT, hLT⟩ : ∃ LT, LT = cS (lar p l) n (n + 1) := ⟨_, rfl⟩
 rw [<- hLT] at h1 h2 ⊢
 rcases h2 with ⟨i, res, v6, v7, v8, v9, v10, v11, v12, v13, v14, v15, v16, v17, v18, v19, v20, A', q1, q2, rfl⟩ | ⟨q1, A', rfl⟩
 ·rw [q1]
  have z := q2.frz 4 (fun x hx => by obtain ⟨w, _, rfl⟩ := List.mem_map.1 hx; rfl)
  have p1 : gT [v9] = v9 := rfl
  simp [Fi, Ag h1, z, -frz]
 ·rw [q1]
  simp [Fi, Ag h1, slA, ag]
end
def PS (L : List bZ) (n : Nat) (st : List Int) (k s v : Nat) (f : Nat -> Int) : Prop := (∀ w, w < n -> 0 <= f w /\ f w <= st.getD w 0) /\ ∀ k' s' v', v' < n -> s' < n -> (k' < k \/ (k' = k /\ (s' < s \/ (s' = s /\ v' < v)))) -> enc (bst L n k' s' v') <= f v'
section
variable {L : List bZ} {n : Nat} (hok : fC n L) (hlv : (a7 L n).2 = true)
include hok hlv
theorem D6 {k s v : Nat} (hs : s < n) (hv : v < n) : enc (bst L n k s v) <= (a7 L n).1.getD v 0 := by
 have hL : ∀ a ∈ L, a.1 < n /\ a.2.1 < n := fun a ha => ⟨(hok a ha).1, (hok a ha).2.1⟩
 obtain ⟨h1, h2, h3, h4, h5⟩ := dE hL
 have h6 : 0 <= (a7 L n).1.getD v 0 := h2 v
 rcases gA (j := k) hok hs hv with ⟨e, _⟩ | ⟨e, ⟨r, a1, a2, a3⟩, _⟩
 ·have e0 : enc noL = -1125899906842624 := rfl
  rw [e, e0]; exact Int.le_trans (by decide) h6
 ·have := h9 (h4 hlv) a1
  have := h2 s
  have e1 : enc (bst L n k s v) = (bst L n k s v).1 := by unfold enc; rw [if_pos e]
  omega
theorem CH {f : Nat -> Int} (h : PS L n (a7 L n).1 (n + 1) 0 0 f) : ∀ v, v < n -> f v = (a7 L n).1.getD v 0 := fun v hv => by
 have hL : ∀ a ∈ L, a.1 < n /\ a.2.1 < n := fun a ha => ⟨(hok a ha).1, (hok a ha).2.1⟩
 obtain ⟨h1, h2, h3, h4, h5⟩ := dE hL
 obtain ⟨p1, p2⟩ := h
 have hle := (p1 v hv).2
 obtain ⟨u, r, k1, k2, k3⟩ := h3 v hv
 obtain ⟨r', j1, j2, j3⟩ := BF hL ((g9 hL).1 hlv) _ r u v rfl k1 k2
 have hp := p2 r'.length u v hv k1 (.inl (by omega))
 rcases gA (j := r'.length) hok k1 hv with ⟨e, e2⟩ | ⟨e, _, e2⟩
 ·exact absurd ⟨r', j1, rfl, rfl⟩ (e2 (hJ r'))
 ·have e1 : enc (bst L n r'.length u v) = (bst L n r'.length u v).1 := by unfold enc; rw [if_pos e]
  have := e2 _ ⟨r', j1, rfl, rfl⟩
  omega
theorem PS.step {k s v : Nat} {f : Nat -> Int} (hs : s < n) (hv : v < n) (h : PS L n (a7 L n).1 k s v f) : PS L n (a7 L n).1 k s (v + 1) (fun w => if w = v then max (f v) (enc (bst L n k s v)) else f w) := by
 obtain ⟨p1, p2⟩ := h
 have he := D6 hok hlv (k := k) hs hv
 refine ⟨fun w hw => ?_, fun k' s' v' hv' hs' hh => ?_⟩
 ·have := p1 w hw
  dsimp only
  split
  ·rename_i e; subst e; omega
  ·exact this
 ·dsimp only
  by_cases hvv : v' = v
  ·subst hvv
   rw [if_pos rfl]
   by_cases hold : k' < k \/ (k' = k /\ (s' < s \/ (s' = s /\ v' < v')))
   ·have := p2 k' s' v' hv' hs' hold
    omega
   ·obtain ⟨rfl, rfl⟩ : k' = k /\ s' = s := by omega
    omega
  ·rw [if_neg hvv]
   exact p2 k' s' v' hv' hs' (by omega)
end
section
variable {n : Nat} {p : Int} {l : List aW}
theorem PS.nextS {L : List bZ} {st : List Int} {k s : Nat} {f : Nat -> Int} (h : PS L n st k s n f) : PS L n st k (s + 1) 0 f := ⟨h.1, fun k' s' v' hv hs hh => h.2 k' s' v' hv hs (by omega)⟩
theorem PS.nextK {L : List bZ} {st : List Int} {k : Nat} {f : Nat -> Int} (h : PS L n st k n 0 f) : PS L n st (k + 1) 0 0 f := ⟨h.1, fun k' s' v' hv hs hh => h.2 k' s' v' hv hs (by omega)⟩
def lj : List (FuncId × aL) := [(69, aF 4 M28), (71, aF 4 M29), (72, aF 4 M30)]
@[simp] theorem Hv : aB lj 69 = some (aF 4 M28) := rfl
@[simp] theorem Hu : aB lj 71 = some (aF 4 M29) := rfl
@[simp] theorem Ht : aB lj 72 = some (aF 4 M30) := rfl
theorem rM : ∀ f M, aB lj f = some M -> an Try.prog GC f M := ak (an.of_pure vu 4) (ak (an.of_pure vt 4) (ak (an.of_pure Ds 4) az))
theorem yH (fuel : Nat) {k s v : Nat} (hk : k <= n) (hs : s < n) (hv : v < n) (hn : n <= 32) (f : Nat -> Int) (L : List bZ) :
  run (au GC lj) fuel [.code kX] (jC (.int .i64 (n : Int)) (cS L n (n + 1)) (.sl 0 0 n) (.int .i64 (k : Int)) (.int .i64 (s : Int)) (.int .i64 (v : Int))) [.row 1 false (cj n f)] =
   some (.normal (jC (.int .i64 (n : Int)) (cS L n (n + 1)) (.sl 0 0 n) (.int .i64 (k : Int)) (.int .i64 (s : Int)) (.int .i64 ((v + 1 : Nat) : Int))) [.row 1 false (cj n fun w => if w = v then max (f v) (enc (bst L n k s v)) else f w)]) := by
 have b1 := bc v n .i64
 rw [decide_eq_true hv] at b1
 have b3 := aK v (by omega)
 obtain ⟨y1, y2, y3⟩ := wc (L := L) (n := n) (k := n + 1) (r := k) (t := s) (s := v) (by omega) hs hv
 have g := iy f hv
 have mx := IS (f v) (enc (bst L n k s v))
 have e := lW n f v (max (f v) (enc (bst L n k s v)))
 rw [<- e]
 obtain ⟨z, hz⟩ : ∃ z, z = enc (bst L n k s v) := ⟨_, rfl⟩
 rw [<- hz] at y3 mx ⊢
 obtain ⟨mz, hmz⟩ : ∃ mz, mz = max (f v) z := ⟨_, rfl⟩
 rw [<- hmz] at mx ⊢
 obtain ⟨LT, hLT⟩ : ∃ LT, LT = cS L n (n + 1) := ⟨_, rfl⟩
 obtain ⟨VT, hVT⟩ : ∃ T, zU L n k = .fs 1 T := ⟨_, rfl⟩
 rw [<- hLT] at y1 ⊢
 rw [hVT] at y1 y2
 obtain ⟨RR, hRR⟩ : ∃ R, R = cj n fun v => enc (bst L n k s v) := ⟨_, rfl⟩
 rw [<- hRR] at y2 y3
 obtain ⟨R, hR⟩ : ∃ R, R = cj n f := ⟨_, rfl⟩
 rw [<- hR] at g ⊢
 have k1 : ab 1 [.row 1 false R] (.sl 0 0 n) (.int .i64 (v : Int)) = some (.ptr 0 v 0) := by simp [ab, hv]
 obtain ⟨i1, hi1⟩ : ∃ i1 : Nat, i1 = v + 1 := ⟨_, rfl⟩
 rw [<- hi1] at b3 ⊢
 simp [kX, b1, b3, k1, y1, y2, y3, g, mx, aJ, -af, -ab, -cg]
theorem Co (fuel : Nat) (hf : 40 < fuel) {L : List bZ} (hok : fC n L) (hlv : (a7 L n).2 = true) {k s : Nat} (hk : k <= n) (hs : s < n) (hn : n <= 32) {f : Nat -> Int} (hP : PS L n (a7 L n).1 k s 0 f) :
  ∃ f', PS L n (a7 L n).1 k (s + 1) 0 f' /\ bg (evC (au GC lj) fuel kX) jU fuel (jC (.int .i64 (n : Int)) (cS L n (n + 1)) (.sl 0 0 n) (.int .i64 (k : Int)) (.int .i64 (s : Int)) (.int .i64 0)) [.row 1 false (cj n f)] = some (.exit 6 ((jC (.int .i64 (n : Int)) (cS L n (n + 1)) (.sl 0 0 n) (.int .i64 (k : Int)) (.int .i64 (s : Int)) (.int .i64 (n : Int))).set 19 (.bool false)) [.row 1 false (cj n f')]) := by
 obtain ⟨o, h1, f', h2, h3⟩ := da (E := au GC lj) (fuel := fuel) (a := kX) (mask := jU)
  (fun κ σ A => ∃ v f, v + κ = n /\ σ = jC (.int .i64 (n : Int)) (cS L n (n + 1)) (.sl 0 0 n) (.int .i64 (k : Int)) (.int .i64 (s : Int)) (.int .i64 (v : Int)) /\ A = [.row 1 false (cj n f)] /\ PS L n (a7 L n).1 k s v f)
  (fun o => ∃ f', PS L n (a7 L n).1 k (s + 1) 0 f' /\ o = .exit 6 ((jC (.int .i64 (n : Int)) (cS L n (n + 1)) (.sl 0 0 n) (.int .i64 (k : Int)) (.int .i64 (s : Int)) (.int .i64 (n : Int))).set 19 (.bool false)) [.row 1 false (cj n f')])
  (by
   rintro κ σ A ⟨v, f, hv, rfl, rfl, hI⟩
   rw [AQ]
   by_cases hvn : v < n
   ·exact .inl ⟨_, _, yH fuel hk hs hvn hn f L, κ - 1, by omega, v + 1, _, by omega, rfl, rfl, hI.step hok hlv hs hvn⟩
   ·obtain rfl : v = n := by omega
    refine .inr ⟨_, ?_, (fun _ _ h => by cases h), f, hI.nextS, rfl⟩
    obtain ⟨LT, hLT⟩ : ∃ LT, LT = cS L v (v + 1) := ⟨_, rfl⟩
    rw [<- hLT]
    simp [kX])
  fuel n (jC (.int .i64 (n : Int)) (cS L n (n + 1)) (.sl 0 0 n) (.int .i64 (k : Int)) (.int .i64 (s : Int)) (.int .i64 0)) _ (by omega) ⟨0, f, by omega, rfl, rfl, hP⟩
 exact ⟨f', h2, by rw [<- h3]; exact h1⟩
theorem Cp (fuel : Nat) (hf : 40 < fuel) {L : List bZ} (hok : fC n L) (hlv : (a7 L n).2 = true) {k : Nat} (hk : k <= n) (hn : n <= 32) {f : Nat -> Int} (hP : PS L n (a7 L n).1 k 0 0 f) :
  ∃ f', PS L n (a7 L n).1 (k + 1) 0 0 f' /\ bg (evC (au GC lj) fuel nd) jT fuel (kR (.int .i64 (n : Int)) (cS L n (n + 1)) (.sl 0 0 n) (.int .i64 (k : Int)) (.int .i64 0)) [.row 1 false (cj n f)] = some (.exit 4 ((kR (.int .i64 (n : Int)) (cS L n (n + 1)) (.sl 0 0 n) (.int .i64 (k : Int)) (.int .i64 (n : Int))).set 18 (.bool false)) [.row 1 false (cj n f')]) := by
 obtain ⟨o, h1, f', h2, h3⟩ := da (E := au GC lj) (fuel := fuel) (a := nd) (mask := jT)
  (fun κ σ A => ∃ s f, s + κ = n /\ σ = kR (.int .i64 (n : Int)) (cS L n (n + 1)) (.sl 0 0 n) (.int .i64 (k : Int)) (.int .i64 (s : Int)) /\ A = [.row 1 false (cj n f)] /\ PS L n (a7 L n).1 k s 0 f)
  (fun o => ∃ f', PS L n (a7 L n).1 (k + 1) 0 0 f' /\ o = .exit 4 ((kR (.int .i64 (n : Int)) (cS L n (n + 1)) (.sl 0 0 n) (.int .i64 (k : Int)) (.int .i64 (n : Int))).set 18 (.bool false)) [.row 1 false (cj n f')])
  (by
   rintro κ σ A ⟨s, f, hs, rfl, rfl, hI⟩
   rw [AP]
   by_cases hsn : s < n
   ·obtain ⟨f', c1, c2⟩ := Co fuel hf hok hlv hk hsn hn hI
    have b1 := bc s n .i64
    rw [decide_eq_true hsn] at b1
    have b3 := aK s (by omega)
    refine .inl ⟨kR (.int .i64 (n : Int)) (cS L n (n + 1)) (.sl 0 0 n) (.int .i64 (k : Int)) (.int .i64 ((s + 1 : Nat) : Int)), [.row 1 false (cj n f')], ?_, κ - 1, by omega, s + 1, f', by omega, rfl, rfl, c1⟩
    obtain ⟨i1, hi1⟩ : ∃ i1 : Nat, i1 = s + 1 := ⟨_, rfl⟩
    rw [<- hi1] at b3 ⊢
    obtain ⟨LT, hLT⟩ : ∃ LT, LT = cS L n (n + 1) := ⟨_, rfl⟩
    rw [<- hLT] at c2 ⊢
    simp [nd, b1, b3, DV c2, -af]
   ·obtain rfl : s = n := by omega
    refine .inr ⟨_, ?_, (fun _ _ h => by cases h), f, hI.nextK, rfl⟩
    obtain ⟨LT, hLT⟩ : ∃ LT, LT = cS L s (s + 1) := ⟨_, rfl⟩
    rw [<- hLT]
    simp [nd])
  fuel n (kR (.int .i64 (n : Int)) (cS L n (n + 1)) (.sl 0 0 n) (.int .i64 (k : Int)) (.int .i64 0)) _ (by omega) ⟨0, f, by omega, rfl, rfl, hP⟩
 exact ⟨f', h2, by rw [<- h3]; exact h1⟩
theorem Cq (fuel : Nat) (hf : 40 < fuel) {L : List bZ} (hok : fC n L) (hlv : (a7 L n).2 = true) (hn : n <= 32) {f : Nat -> Int} (hP : PS L n (a7 L n).1 0 0 0 f) :
  ∃ f', PS L n (a7 L n).1 (n + 1) 0 0 f' /\ bg (evC (au GC lj) fuel nc) jS fuel (kQ (.int .i64 (n : Int)) (cS L n (n + 1)) (.sl 0 0 n) (.int .i64 0)) [.row 1 false (cj n f)] = some (.exit 2 ((kQ (.int .i64 (n : Int)) (cS L n (n + 1)) (.sl 0 0 n) (.int .i64 ((n + 1 : Nat) : Int))).set 17 (.bool false)) [.row 1 false (cj n f')]) := by
 obtain ⟨o, h1, f', h2, h3⟩ := da (E := au GC lj) (fuel := fuel) (a := nc) (mask := jS)
  (fun κ σ A => ∃ k f, k + κ = n + 1 /\ σ = kQ (.int .i64 (n : Int)) (cS L n (n + 1)) (.sl 0 0 n) (.int .i64 (k : Int)) /\ A = [.row 1 false (cj n f)] /\ PS L n (a7 L n).1 k 0 0 f)
  (fun o => ∃ f', PS L n (a7 L n).1 (n + 1) 0 0 f' /\ o = .exit 2 ((kQ (.int .i64 (n : Int)) (cS L n (n + 1)) (.sl 0 0 n) (.int .i64 ((n + 1 : Nat) : Int))).set 17 (.bool false)) [.row 1 false (cj n f')])
  (by
   rintro κ σ A ⟨k, f, hk, rfl, rfl, hI⟩
   rw [AO]
   have b1 := uP (k : Int) n
   by_cases hkn : k <= n
   ·obtain ⟨f', c1, c2⟩ := Cp fuel hf hok hlv hkn hn hI
    rw [decide_eq_true (by omega)] at b1
    have b3 := aK k (by omega)
    refine .inl ⟨kQ (.int .i64 (n : Int)) (cS L n (n + 1)) (.sl 0 0 n) (.int .i64 ((k + 1 : Nat) : Int)), [.row 1 false (cj n f')], ?_, κ - 1, by omega, k + 1, f', by omega, rfl, rfl, c1⟩
    obtain ⟨i1, hi1⟩ : ∃ i1 : Nat, i1 = k + 1 := ⟨_, rfl⟩
    rw [<- hi1] at b3 ⊢
    obtain ⟨LT, hLT⟩ : ∃ LT, LT = cS L n (n + 1) := ⟨_, rfl⟩
    rw [<- hLT] at c2 ⊢
    simp [nc, b1, b3, DU c2, -af]
   ·obtain rfl : k = n + 1 := by omega
    rw [decide_eq_false (by omega)] at b1
    refine .inr ⟨_, ?_, (fun _ _ h => by cases h), f, hI, rfl⟩
    obtain ⟨LT, hLT⟩ : ∃ LT, LT = cS L n (n + 1) := ⟨_, rfl⟩
    rw [<- hLT]
    obtain ⟨i1, hi1⟩ : ∃ i1 : Nat, i1 = n + 1 := ⟨_, rfl⟩
    rw [<- hi1] at b1 ⊢
    simp [nc, b1, -af])
  fuel (n + 1) (kQ (.int .i64 (n : Int)) (cS L n (n + 1)) (.sl 0 0 n) (.int .i64 0)) _ (by omega) ⟨0, f, by omega, rfl, rfl, hP⟩
 exact ⟨f', h2, by rw [<- h3]; exact h1⟩
end
section
variable {n : Nat} {p : Int} {l : List aW} {a : AV}
theorem yI (fuel : Nat) (ha : aX a = some l) (hr : a6 n l p) {k : Nat} (hk1 : 1 <= k) (hk : k <= n) :
  (cn p l n k = none /\ run (au GC lj) fuel [.code dS] (en (.int .i64 (n : Int)) a (.int .i64 p) (cS (lar p l) n (n + 1)) (.int .i64 (k : Int))) [] = some (.normal (en (.int .i64 (n : Int)) a (.int .i64 p) (cS (lar p l) n (n + 1)) (.int .i64 ((k + 1 : Nat) : Int))) [])) \/
  (∃ res v6 v8 v9 v10 v11 v12 v13 v14 v15 v16 v17 v18 v19, cn p l n k = some res /\ run (au GC lj) fuel [.code dS] (en (.int .i64 (n : Int)) a (.int .i64 p) (cS (lar p l) n (n + 1)) (.int .i64 (k : Int))) [] = some (.ret [.int .i64 (n : Int), a, .int .i64 p, .nilS, slA 1 (ag res), .bool false, v6, cS (lar p l) n (n + 1), v8, v9, v10, v11, v12, v13, v14, v15, v16, v17, v18, v19] [])) := by
 have hv := hr.1.2.2
 have hn := hr.1.1
 have b1 := uP (k : Int) n
 rw [decide_eq_true (by omega)] at b1
 have m := EV ha hr hk1 hk
 have b3 := aK k (by omega)
 obtain ⟨i1, hi1⟩ : ∃ i1 : Nat, i1 = k + 1 := ⟨_, rfl⟩
 rw [<- hi1] at b3 ⊢
 have f1 : ∀ A n, frz A n a = a := fun A n => bX ha A n
 have f2 : ∀ A m, frz A m (cS (lar p l) n (n + 1)) = cS (lar p l) n (n + 1) := fun A m => by
  cases m <;> rfl
 have r1 : ∀ k, be k a = true := fun k => bL ha k
 have r2 : ∀ k, be k (cS (lar p l) n (n + 1)) = true := fun k => by cases k <;> rfl
 obtain ⟨LT, hLT⟩ : ∃ LT, LT = cS (lar p l) n (n + 1) := ⟨_, rfl⟩
 rw [<- hLT] at m f2 r2 ⊢
 cases hf : cn p l n k with
 | none =>
  left
  rw [hf] at m
  refine ⟨rfl, ?_⟩
  have e : slA 1 (ag ((none : Option (List Int)).getD [])) = .nilS := rfl
  rw [e] at m
  have b2 : af .gtr (.int .i64 0) (.int .i64 0) = some (.bool false) := by simp [af]
  simp [dS, b1, b2, b3, m, f1, f2, r1, r2, aS, -frz, -af]
 | some res =>
  right
  rw [hf, Option.getD_some] at m
  obtain ⟨u, xs, k1, k2, k3, k4⟩ := nm hv (by omega) hr.2 (show cn p l n (k - 1 + 1) = some res by rw [show k - 1 + 1 = k by omega]; exact hf)
  have hlen : res.length = k := by rw [k1]; simp; omega
  have hl2 : aj (slA 1 (ag res)) = some (.int .i64 (res.length : Int)) := by
   obtain ⟨x, r, rfl⟩ : ∃ x r, res = x :: r := by cases res with
    | nil => simp at hlen; omega
    | cons x r => exact ⟨x, r, rfl⟩
   simp [slA, ag, aj]
  have b2 : af .gtr (.int .i64 (res.length : Int)) (.int .i64 0) = some (.bool true) := by simp [af]; omega
  have f3 : ∀ A m, frz A m (slA 1 (ag res)) = slA 1 (ag res) := fun A m => jl A m 1 _
  obtain ⟨T, hT⟩ : ∃ T, T = slA 1 (ag res) := ⟨_, rfl⟩
  rw [<- hT] at m hl2 f3
  refine ⟨res, .undef, .int .i64 (k : Int), T, .undef, .undef, .undef, .undef, .undef, .bool true, .bool true, .undef, .undef, .undef, rfl, ?_⟩
  rw [<- hT]
  simp [dS, b1, b2, m, hl2, f1, f2, r1, r2, aS, -frz, -af, -aj]
theorem Cr (fuel : Nat) (hf : 40 < fuel) (ha : aX a = some l) (hr : a6 n l p) :
  (jz p l n = none /\ bg (evC (au GC lj) fuel dS) dz fuel (en (.int .i64 (n : Int)) a (.int .i64 p) (cS (lar p l) n (n + 1)) (.int .i64 1)) [] = some (.exit 0 ((en (.int .i64 (n : Int)) a (.int .i64 p) (cS (lar p l) n (n + 1)) (.int .i64 ((n + 1 : Nat) : Int))).set 15 (.bool false)) [])) \/
  (∃ res v6 v8 v9 v10 v11 v12 v13 v14 v15 v16 v17 v18 v19, jz p l n = some res /\ bg (evC (au GC lj) fuel dS) dz fuel (en (.int .i64 (n : Int)) a (.int .i64 p) (cS (lar p l) n (n + 1)) (.int .i64 1)) [] = some (.ret [.int .i64 (n : Int), a, .int .i64 p, .nilS, slA 1 (ag res), .bool false, v6, cS (lar p l) n (n + 1), v8, v9, v10, v11, v12, v13, v14, v15, v16, v17, v18, v19] [])) := by
 have hn := hr.1.1
 have hc : ∀ k res, k < n -> cn p l n (k + 1) = some res -> (∀ j, j < k -> cn p l n (j + 1) = none) -> jz p l n = some res := fun k res hk h1 h2 => by
  unfold jz
  rcases gv (fun j => cn p l n (j + 1)) (List.range n) with ⟨q1, q2⟩ | ⟨m, hm, r, q1, q2, q3⟩
  ·have := q2 k (by simp; omega)
   rw [h1] at this; cases this
  ·simp only [List.getElem_range] at q2 q3
   simp only [List.length_range] at hm
   rw [q1]
   rcases Nat.lt_trichotomy m k with h | h | h
   ·rw [h2 m h] at q2; cases q2
   ·rw [h] at q2; rw [h1] at q2; exact q2.symm
   ·rw [q3 k h] at h1; cases h1
 have hc2 : (∀ j, j < n -> cn p l n (j + 1) = none) -> jz p l n = none := fun h => by
  unfold jz
  rw [List.findSome?_eq_none_iff]
  intro j hj
  exact h j (by simpa using hj)
 obtain ⟨o, h1, h2⟩ := da (E := au GC lj) (fuel := fuel) (a := dS) (mask := dz)
  (fun κ σ A => ∃ k, k + κ = n + 1 /\ 1 <= k /\ σ = en (.int .i64 (n : Int)) a (.int .i64 p) (cS (lar p l) n (n + 1)) (.int .i64 (k : Int)) /\ A = [] /\ ∀ j, j + 1 < k -> cn p l n (j + 1) = none)
  (fun o => (jz p l n = none /\ o = .exit 0 ((en (.int .i64 (n : Int)) a (.int .i64 p) (cS (lar p l) n (n + 1)) (.int .i64 ((n + 1 : Nat) : Int))).set 15 (.bool false)) []) \/
   (∃ res v6 v8 v9 v10 v11 v12 v13 v14 v15 v16 v17 v18 v19, jz p l n = some res /\ o = .ret [.int .i64 (n : Int), a, .int .i64 p, .nilS, slA 1 (ag res), .bool false, v6, cS (lar p l) n (n + 1), v8, v9, v10, v11, v12, v13, v14, v15, v16, v17, v18, v19] []))
  (by
   rintro κ σ A ⟨k, hk, hk1, rfl, rfl, hno⟩
   rw [pj]
   by_cases hkn : k <= n
   ·rcases yI fuel ha hr hk1 hkn with ⟨q1, c1⟩ | ⟨res, v6, v8, v9, v10, v11, v12, v13, v14, v15, v16, v17, v18, v19, q1, c1⟩
    ·refine .inl ⟨_, _, c1, κ - 1, by omega, k + 1, by omega, by omega, rfl, rfl, fun j hj => ?_⟩
     by_cases hjk : j + 1 = k
     ·rw [hjk]; exact q1
     ·exact hno j (by omega)
    ·exact .inr ⟨_, c1, (fun _ _ h => by cases h), .inr ⟨res, v6, v8, v9, v10, v11, v12, v13, v14, v15, v16, v17, v18, v19, hc (k - 1) res (by omega) (by rw [show k - 1 + 1 = k by omega]; exact q1) fun j hj => hno j (by omega), rfl⟩⟩
   ·obtain rfl : k = n + 1 := by omega
    have b1 := uP ((n + 1 : Nat) : Int) n
    rw [decide_eq_false (by omega)] at b1
    refine .inr ⟨_, ?_, (fun _ _ h => by cases h), .inl ⟨hc2 fun j hj => hno j (by omega), rfl⟩⟩
    obtain ⟨LT, hLT⟩ : ∃ LT, LT = cS (lar p l) n (n + 1) := ⟨_, rfl⟩
    rw [<- hLT]
    obtain ⟨i1, hi1⟩ : ∃ i1 : Nat, i1 = n + 1 := ⟨_, rfl⟩
    rw [<- hi1] at b1 ⊢
    simp [dS, b1, -af])
  fuel n (en (.int .i64 (n : Int)) a (.int .i64 p) (cS (lar p l) n (n + 1)) (.int .i64 1)) [] (by omega) ⟨1, by omega, by omega, rfl, rfl, fun j hj => by omega⟩
 rcases h2 with ⟨q1, rfl⟩ | ⟨res, v6, v8, v9, v10, v11, v12, v13, v14, v15, v16, v17, v18, v19, q1, rfl⟩
 ·exact .inl ⟨q1, h1⟩
 ·exact .inr ⟨res, v6, v8, v9, v10, v11, v12, v13, v14, v15, v16, v17, v18, v19, q1, h1⟩
end
def M15 : aT := fun args => match args with
 | [.int .i64 n, a, .int .i64 p] => (aX a).map fun l => lvT (lvM n l p)
 | _ => none
open Classical in
theorem qr : aq Try.prog GC 50 M15 := by
 refine aq.of_ev (E := au GC lj) (av rM) rfl Ij xp 5 ?_
 intro args r h
 unfold M15 at h
 split at h
 rotate_left
 ·cases h
 rename_i n a p
 simp only [Option.map_eq_some_iff] at h
 obtain ⟨l, hl, rfl⟩ := h
 refine ⟨300, ?_⟩
 rw [aN _ _ rfl]
 have m1 : M28 [.int .i64 n, a, .int .i64 p] = some (.bool (decide (a6 n l p))) := by simp only [M28, hl, Option.map_some]
 have f1 : ∀ A n, frz A n a = a := fun A n => bX hl A n
 have r1 : ∀ k, be k a = true := fun k => bL hl k
 have ft : ∀ A x y z, frz A 5 (.tup [x, y, z]) = .tup [frz A 4 x, frz A 4 y, frz A 4 z] := fun _ _ _ _ => rfl
 have fn : ∀ A n, frz A n .nilS = .nilS := fun A n => by cases n <;> rfl
 by_cases hr : a6 n l p
 rotate_left
 ·have e : lvM n l p = ([], [], false) := if_neg hr
  rw [e]
  rw [show decide (a6 n l p) = false from decide_eq_false hr] at m1
  simp [vX, m1, f1, r1, ft, fn, aZ, aS, gT, lvT, slA, ag, -frz]
 rw [show decide (a6 n l p) = true from decide_eq_true hr] at m1
 obtain ⟨m, rfl⟩ : ∃ m : Nat, n = (m : Int) := ⟨n.toNat, by have := hr.1.1; omega⟩
 have m2 := x8 hl hr
 have hv := hr.1.2.2
 have hn := hr.1.1
 have lp := Cr 300 (by omega) hl hr
 obtain ⟨LT, hLT⟩ : ∃ LT, LT = cS (lar p l) m (m + 1) := ⟨_, rfl⟩
 by_cases hok : (a7 (lar p l) m).2 = true
 ·have e : lvM m l p = ((a7 (lar p l) m).1, [], true) := by
   unfold lvM; rw [if_pos hr, Int.toNat_natCast, if_pos hok]
  rw [e]
  have hno : jz p l m = none := by
   have h := hok
   rw [g9 (eQ hv)] at h
   exact (p9 hv (by omega) hr.2).2 h
  rcases lp with ⟨_, lp⟩ | ⟨res, v6, v8, v9, v10, v11, v12, v13, v14, v15, v16, v17, v18, v19, q, _⟩
  rotate_left
  ·rw [hno] at q; cases q
  have hok2 := lf (show m <= 32 by omega) hr.2 hv
  have hll := (dE (eQ hv (n := m) (p := p))).1
  obtain ⟨f', c1, c2⟩ := Cq 300 (by omega) hok2 hok (by omega) (f := fun _ => 0) ⟨fun w hw => ⟨Int.le_refl _, (dE (eQ hv)).2.1 w⟩, fun k' s' v' _ _ h => by omega⟩
  have c3 := CH hok2 hok c1
  have mk : bT 1 8 (.int .i64 0) [] (.int .i64 (m : Int)) (.int .i64 (m : Int)) = some (.sl 0 0 m, [.row 1 false (cj m fun _ => 0)]) := by
   have : cj m (fun _ => 0) = List.replicate m (.int .i64 0) := by
    unfold cj
    apply List.ext_getElem?
    intro i
    by_cases hi : i < m
    ·rw [List.getElem?_map, List.getElem?_range hi]; simp [hi]
    ·rw [List.getElem?_eq_none (by simp; omega), List.getElem?_eq_none (by simp; omega)]
   rw [this]; simp [bT]; omega
  obtain ⟨xs, hxs⟩ : ∃ xs, xs = (a7 (lar p l) m).1 := ⟨_, rfl⟩
  rw [<- hxs] at c3 hll ⊢
  have e2 : cj m f' = ag xs := by
   unfold cj ag
   apply List.ext_getElem?
   intro i
   by_cases hi : i < m
   ·rw [List.getElem?_map, List.getElem?_range hi, List.getElem?_map, List.getElem?_eq_getElem (by omega)]
    simp only [Option.map_some]
    rw [c3 i hi, List.getD_eq_getElem?_getD, List.getElem?_eq_getElem (by omega)]; rfl
   ·rw [List.getElem?_eq_none (by simp; omega), List.getElem?_eq_none (by simp; omega)]
  rw [e2] at c2
  have z : ∀ k, frz [.row 1 false (ag xs)] (k + 1) (.sl 0 0 m) = slA 1 (ag xs) := fun k => by
   obtain ⟨x, r, rfl⟩ : ∃ x r, xs = x :: r := by cases xs with
    | nil => simp at hll; omega
    | cons x r => exact ⟨x, r, rfl⟩
   simp only [Proofs.Ytemklhljjaniaaa.frz, List.getElem?_cons_zero, List.drop_zero]
   rw [List.take_of_length_le (by simp [ag]; simp at hll; omega)]
   simp [slA, ag]
  rw [<- hLT] at m2 lp c2
  obtain ⟨i1, hi1⟩ : ∃ i1 : Nat, i1 = m + 1 := ⟨_, rfl⟩
  rw [<- hi1] at lp c2
  obtain ⟨R, hR⟩ : ∃ R, R = cj m fun _ => 0 := ⟨_, rfl⟩
  rw [<- hR] at mk c2
  obtain ⟨R2, hR2⟩ : ∃ R2, R2 = ag xs := ⟨_, rfl⟩
  rw [<- hR2] at c2 z
  have p1 : ∀ x y z, gT [x, y, z] = .tup [x, y, z] := fun _ _ _ => rfl
  simp [vX, m1, m2, f1, r1, ft, fn, aZ, aS, mk, tM lp, DT c2, z, lvT, <- hR2, -bT, -frz]
  simp [slA, ag]
 ·have e : lvM m l p = ([], (jz p l m).getD [], false) := by
   unfold lvM; rw [if_pos hr, Int.toNat_natCast, if_neg hok]
  rw [e]
  obtain ⟨res, u, xs, k1, k2, k3, k4, k5, k6, k7⟩ := pe hr hok
  rcases lp with ⟨q, _⟩ | ⟨res', v6, v8, v9, v10, v11, v12, v13, v14, v15, v16, v17, v18, v19, q, lp⟩
  ·rw [q] at k1; cases k1
  rw [q, Option.getD_some]
  rw [<- hLT] at m2 lp
  have f3 : ∀ A m, frz A m (slA 1 (ag res')) = slA 1 (ag res') := fun A m => jl A m 1 _
  obtain ⟨T, hT⟩ : ∃ T, T = slA 1 (ag res') := ⟨_, rfl⟩
  rw [<- hT] at lp f3
  simp [vX, m1, m2, f1, f3, r1, ft, fn, aZ, aS, gT, tM lp, lvT, <- hT, -frz]
  simp [slA, ag]
def sk : List (FuncId × aL) := [(50, aF 4 M15), (69, aF 4 M28), (70, aF 4 M39)]
@[simp] theorem GQ : aB sk 50 = some (aF 4 M15) := rfl
@[simp] theorem GO : aB sk 69 = some (aF 4 M28) := rfl
@[simp] theorem GN : aB sk 70 = some (aF 4 M39) := rfl
theorem rI : ∀ f M, aB sk f = some M -> an Try.prog GC f M := ak (an.of_pure qr 4) (ak (an.of_pure vu 4) (ak (an.of_pure qn 4) az))
theorem vZ (fuel : Nat) {n p : Int} {l : List aW} {a c : AV} (v0 v3 : AV) (ha : aX a = some l) (hn : n <= 32) (hp : a8 p) (hv : ∀ x ∈ l, okA n x) {res : List Int} (hb : SlA 1 (ag res) c) (hlen : res.length <= 32) :
  ∀ (ys : List eM) (pre : List Int) (s t : Int) (m : Nat), res = pre ++ ys.map (fun y => (y.2 : Int)) -> (∀ y ∈ ys, y ∈ num l) -> (-(3000000 * (pre.length : Int)) <= s /\ s <= 3000000 * pre.length) -> (-(2 * (pre.length : Int)) <= t /\ t <= 2 * pre.length) -> ys.length < m ->
   bg (evC (au GC sk) fuel nb) mh m (oM v0 a v3 (.int .i64 p) c (.int .i64 s) (.int .i64 t) (.int .i64 (pre.length : Int))) [] =
    some (.exit 2 ((oM v0 a v3 (.int .i64 p) c (.int .i64 (s + ga p ys)) (.int .i64 (t + it ys)) (.int .i64 (res.length : Int))).set 16 (.bool false)) [])
 | [], pre, s, t, m, hres, _, _, _, hm => by
  obtain ⟨m, rfl⟩ : ∃ k, m = k + 1 := ⟨m - 1, by simp at hm; omega⟩
  have hlc := hb.len
  rw [aA] at hlc
  have e : pre.length = res.length := by rw [hres]; simp
  have e1 : s + ga p [] = s := by simp [ga]
  have e2 : t + it [] = t := by simp [it]
  rw [e, e1, e2, aQ, xG]
  simp [nb, hlc, -aj]
 | y :: ys, pre, s, t, m, hres, hmem, hs, ht, hm => by
  obtain ⟨m, rfl⟩ : ∃ k, m = k + 1 := ⟨m - 1, by simp at hm; omega⟩
  have hlc := hb.len
  rw [aA] at hlc
  obtain ⟨i, hi⟩ : ∃ i, i = pre.length := ⟨_, rfl⟩
  have hil : i < res.length := by rw [hres, hi]; simp
  have hri : res[i] = (y.2 : Int) := by
   simp only [hres, hi]
   rw [List.getElem_append_right (Nat.le_refl _)]
   simp
  have x1 := hb.int (A := []) _ _ (List.getElem?_eq_getElem hil) .i64
  rw [hri] at x1
  obtain ⟨hyl, hye⟩ := gi (hmem y (by simp))
  have x2 := de ha hyl [] .i64
  have hok := hv _ (List.getElem_mem hyl)
  have mm := m39 hn hok hp
  rw [hye] at x2 hok mm
  have hle := dT (n := 32) (a := y.1) ⟨by have := hok.1; omega, by have := hok.2.1; omega, hok.2.2.1, hok.2.2.2⟩ hp
  have hk := hok.2.2.2
  have b1 := bc i res.length .i64
  rw [decide_eq_true hil] at b1
  have b3 := aK i (by omega)
  rw [<- hi] at hs ht ⊢
  have b2 := oC (a := s) (b := y.1.len p) (by omega)
  have b4 := oC (a := t) (b := y.1.k) (by omega)
  have ih := vZ fuel v0 v3 ha hn hp hv hb hlen ys (pre ++ [(y.2 : Int)]) (s + y.1.len p) (t + y.1.k) m (by rw [hres]; simp) (fun z hz => hmem z (by simp [hz])) (by rw [List.length_append, <- hi]; simp only [List.length_cons, List.length_nil]; omega) (by rw [List.length_append, <- hi]; simp only [List.length_cons, List.length_nil]; omega) (by simp at hm; omega)
  have e1 : s + y.1.len p + ga p ys = s + ga p (y :: ys) := by simp only [ga, List.map_cons, List.sum_cons]; omega
  have e2 : t + y.1.k + it ys = t + it (y :: ys) := by simp only [it, List.map_cons, List.sum_cons]; omega
  have e3 : (pre ++ [(y.2 : Int)]).length = i + 1 := by simp [hi]
  rw [e1, e2, e3] at ih
  rw [aQ, xG]
  obtain ⟨S, hS⟩ : ∃ S, S = s + ga p (y :: ys) := ⟨_, rfl⟩
  obtain ⟨T, hT⟩ : ∃ T, T = t + it (y :: ys) := ⟨_, rfl⟩
  rw [<- hS, <- hT] at ih ⊢
  obtain ⟨i1, hi1⟩ : ∃ i1 : Nat, i1 = i + 1 := ⟨_, rfl⟩
  rw [<- hi1] at b3 ih
  obtain ⟨w, hw⟩ : ∃ w, w = y.1.len p := ⟨_, rfl⟩
  rw [<- hw] at mm b2 ih
  obtain ⟨s1, hs1⟩ : ∃ s1, s1 = s + w := ⟨_, rfl⟩
  rw [<- hs1] at b2 ih
  obtain ⟨t1, ht1⟩ : ∃ t1, t1 = t + y.1.k := ⟨_, rfl⟩
  rw [<- ht1] at b4 ih
  obtain ⟨y2, hy2⟩ : ∃ y2 : Nat, y2 = y.2 := ⟨_, rfl⟩
  rw [<- hy2] at x1 x2
  have hrun : run (au GC sk) fuel [.code nb] (oM v0 a v3 (.int .i64 p) c (.int .i64 s) (.int .i64 t) (.int .i64 (i : Int))) [] = some (.normal (oM v0 a v3 (.int .i64 p) c (.int .i64 s1) (.int .i64 t1) (.int .i64 (i1 : Int))) []) := by
   simp [nb, hlc, b1, b2, b3, b4, x1, x2, mm, -af, -ab, -aj]
  rw [hrun]
  exact ih
theorem AZ {l : List aW} : ∀ {ys : List eM} {a b : Int}, rv l a ys b -> ∀ x ∈ ys, x ∈ num l
 | [], _, _, _, x, hx => by cases hx
 | y :: r, a, b, ⟨k1, _, k3⟩, x, hx => by
  rcases List.mem_cons.1 hx with rfl | hx
  ·exact k1
  ·exact AZ k3 x hx
theorem s9 {n : Nat} {l : List aW} {hi : Int} : ∀ (m m' : Nat) (p : Int), hi - p + 1 < m -> hi - p + 1 < m' -> smL n l hi m p = smL n l hi m' p
 | 0, 0, p, _, _ => rfl
 | 0, m' + 1, p, h, _ => by
  unfold smL
  rw [if_neg (fun h2 => by have := h2.1; omega)]
 | m + 1, 0, p, _, h => by
  unfold smL
  rw [if_neg (fun h2 => by have := h2.1; omega)]
 | m + 1, m' + 1, p, h1, h2 => by
  unfold smL
  by_cases hp : p <= hi /\ a6 n l p
  rotate_left
  ·rw [if_neg hp, if_neg hp]
  rw [if_pos hp, if_pos hp]
  by_cases hl : (a7 (lar p l) n).2 = true
  ·rw [if_pos hl, if_pos hl]
  rw [if_neg hl, if_neg hl]
  obtain ⟨res, u, xs, k1, k2, k3, k4, k5, k6, k7⟩ := pe hp.2 hl
  rw [k1, Option.getD_some, k7, Option.getD_some]
  simp only
  by_cases ht : it xs <= 0
  ·rw [if_pos ht, if_pos ht]
  rw [if_neg ht, if_neg ht]
  obtain ⟨d1, _, _, _⟩ := lV k6 (show 0 < it xs by omega)
  exact s9 m m' _ (by omega) (by omega)
open Classical in
theorem zV (fuel : Nat) (hfu : 40 < fuel) {a : AV} {l : List aW} (ha : aX a = some l) (n : Int) {hi : Int} (hhi : a8 hi) : ∀ (m : Nat) (p : Int), 0 < m -> hi - p + 1 < m ->
  ∃ v4 v5 v6 v7 v8 v9 v10 v11 v12 v13 v14 v15 v16 v17, bg (evC (au GC sk) fuel gF) jN m (oL (.int .i64 n) a (.int .i64 hi) (.int .i64 p)) [] = some (.ret [.int .i64 n, a, .undef, .int .i64 hi, v4, v5, v6, v7, v8, v9, v10, v11, v12, v13, v14, v15, v16, v17] []) /\
   v4 = .int .i64 ((smL n.toNat l hi m p).getD 0) /\ v5 = .bool (smL n.toNat l hi m p).isSome
 | 0, p, h0, hm => by omega
 | m + 1, p, h0, hm => by
  have f1 : ∀ A n, frz A n a = a := fun A n => bX ha A n
  have r1 : ∀ k, be k a = true := fun k => bL ha k
  have m1 : M28 [.int .i64 n, a, .int .i64 p] = some (.bool (decide (a6 n l p))) := by simp only [M28, ha, Option.map_some]
  have m2 : M28 [.int .i64 n, a, .int .i64 hi] = some (.bool (decide (a6 n l hi))) := by simp only [M28, ha, Option.map_some]
  have b1 := wN p hi
  unfold smL
  rw [aQ, xF]
  by_cases hr : a6 n l p
  rotate_left
  ·rw [if_neg (fun h => hr (by
    have h2 := h.2
    have h3 := h2.1.1
    have : ((n.toNat : Nat) : Int) = n := by omega
    rw [this] at h2; exact h2))]
   rw [show decide (a6 n l p) = false from decide_eq_false hr] at m1
   obtain ⟨d, hd⟩ : ∃ d, d = decide (a6 n l hi) := ⟨_, rfl⟩
   rw [<- hd] at m2
   refine ⟨.int .i64 0, .bool false, .int .i64 p, .bool false, .bool d, .undef, .undef, .undef, .undef, .undef, .bool true, .undef, .undef, .undef, ?_, rfl, rfl⟩
   simp [gF, m1, m2, f1, r1, aS, -frz, -af]
  obtain ⟨k, rfl⟩ : ∃ k : Nat, n = (k : Int) := ⟨n.toNat, by have := hr.1.1; omega⟩
  rw [Int.toNat_natCast]
  have hr2 : a6 k l hi := ⟨hr.1, hhi⟩
  rw [show decide (a6 (k : Int) l p) = true from decide_eq_true hr] at m1
  rw [show decide (a6 (k : Int) l hi) = true from decide_eq_true hr2] at m2
  by_cases hp : p <= hi
  rotate_left
  ·rw [if_neg (fun h => hp h.1)]
   rw [decide_eq_true (by omega)] at b1
   refine ⟨.int .i64 0, .bool false, .int .i64 p, .bool true, .bool true, .undef, .undef, .undef, .undef, .undef, .bool true, .undef, .undef, .undef, ?_, rfl, rfl⟩
   simp [gF, b1, m1, m2, f1, r1, aS, -frz, -af]
  rw [if_pos ⟨hp, hr⟩]
  rw [decide_eq_false (by omega)] at b1
  have m3 : M15 [.int .i64 (k : Int), a, .int .i64 p] = some (lvT (lvM k l p)) := by simp only [M15, ha, Option.map_some]
  by_cases hok : (a7 (lar p l) k).2 = true
  ·rw [if_pos hok]
   have e : lvM k l p = ((a7 (lar p l) k).1, [], true) := by
    unfold lvM; rw [if_pos hr, Int.toNat_natCast, if_pos hok]
   rw [e] at m3
   unfold lvT at m3
   simp only at m3
   have f3 : ∀ A m, frz A m (slA 1 (ag (a7 (lar p l) k).1)) = slA 1 (ag (a7 (lar p l) k).1) := fun A m => jl A m 1 _
   obtain ⟨T, hT⟩ : ∃ T, T = slA 1 (ag (a7 (lar p l) k).1) := ⟨_, rfl⟩
   rw [<- hT] at m3 f3
   have e0 : slA 1 (ag []) = .nilS := rfl
   rw [e0] at m3
   refine ⟨.int .i64 p, .bool true, .int .i64 p, .bool true, .bool true, .nilS, .bool true, .undef, .undef, .undef, .bool false, .bool true, .undef, .undef, ?_, rfl, rfl⟩
   simp [gF, b1, m1, m2, m3, f1, r1, aS, -frz, -af]
  rw [if_neg hok]
  obtain ⟨res, u, xs, k1, k2, k3, k4, k5, k6, k7⟩ := pe hr hok
  have hbd := se (n := (k : Int)) (by have := hr.1.1; omega) hr.2 hr.1.2.2 k3
  have e : lvM k l p = ([], (jz p l k).getD [], false) := by
   unfold lvM; rw [if_pos hr, Int.toNat_natCast, if_neg hok]
  rw [e, k1, Option.getD_some] at m3
  unfold lvT at m3
  simp only at m3
  rw [k1, Option.getD_some, k7, Option.getD_some]
  have hlr : res.length = xs.length := by rw [k2]; simp
  have lp := vZ fuel (.int .i64 (k : Int)) (.int .i64 hi) ha (by have := hr.1.1; omega) hr.2 hr.1.2.2 (aI 1 (ag res)) (by omega) xs [] 0 0 fuel (by simpa using k2) (AZ k3) (by simp) (by simp) (by omega)
  rw [List.length_nil, Int.natCast_zero, Int.zero_add, Int.zero_add] at lp
  have hnc : ∀ n, be n (slA 1 (ag res)) = true := fun n => qz n 1 _
  have hfc : ∀ A n, frz A n (slA 1 (ag res)) = slA 1 (ag res) := fun A n => jl A n 1 _
  have e0 : slA 1 (ag []) = .nilS := rfl
  rw [e0] at m3
  obtain ⟨C, hC⟩ : ∃ C, C = slA 1 (ag res) := ⟨_, rfl⟩
  rw [<- hC] at m3 lp hnc hfc
  simp only
  obtain ⟨s, hs⟩ : ∃ s, s = ga p xs := ⟨_, rfl⟩
  obtain ⟨t, ht⟩ : ∃ t, t = it xs := ⟨_, rfl⟩
  rw [<- hs, <- ht] at lp hbd ⊢
  rw [<- hs] at k6
  obtain ⟨rl, hrl⟩ : ∃ rl : Nat, rl = res.length := ⟨_, rfl⟩
  rw [<- hrl] at lp
  have b2 := uP t 0
  by_cases ht0 : t <= 0
  ·rw [if_pos ht0]
   rw [decide_eq_true ht0] at b2
   refine ⟨.int .i64 0, .bool false, .int .i64 p, .undef, .undef, .undef, .undef, .int .i64 s, .int .i64 t, .undef, .undef, .undef, .undef, .bool true, ?_, rfl, rfl⟩
   simp [gF, b1, b2, m1, m2, m3, Al lp, f1, r1, aS, -frz, -af]
  rw [if_neg ht0]
  rw [decide_eq_false ht0] at b2
  obtain ⟨d1, d2, d3, d4⟩ := lV k6 (show 0 < t by omega)
  have hper := hr.2
  unfold a8 at hper hhi
  have b3 := oC (a := s) (b := t) (by omega)
  have b4 := wL (a := s + t) (b := 1) (by omega)
  have b5 : af .quo (.int .i64 (s + t - 1)) (.int .i64 t) = some (.int .i64 ((s + t - 1).tdiv t)) := by
   simp only [af]; rw [if_pos trivial, if_neg (show ¬ t = 0 by omega), dl (by unfold inI; omega)]
  obtain ⟨d, hd⟩ : ∃ d, d = (s + t - 1).tdiv t := ⟨_, rfl⟩
  rw [<- hd] at b5 d1 d2 ⊢
  have b6 := oC (a := p) (b := d) (by omega)
  have ih := zV fuel hfu ha (k : Int) hhi m (p + d) (by omega) (by omega)
  rw [Int.toNat_natCast] at ih
  obtain ⟨p2, hp2⟩ : ∃ p2, p2 = p + d := ⟨_, rfl⟩
  rw [<- hp2] at b6 ih ⊢
  obtain ⟨st, hst⟩ : ∃ st, st = s + t := ⟨_, rfl⟩
  rw [<- hst] at b3 b4 b5
  obtain ⟨st1, hst1⟩ : ∃ st1, st1 = st - 1 := ⟨_, rfl⟩
  rw [<- hst1] at b4 b5
  have hrun : run (au GC sk) fuel [.code gF] (oL (.int .i64 (k : Int)) a (.int .i64 hi) (.int .i64 p)) [] = some (.normal (oL (.int .i64 (k : Int)) a (.int .i64 hi) (.int .i64 p2)) []) := by
   simp [gF, b1, b2, b3, b4, b5, b6, m1, m2, m3, Al lp, f1, r1, aS, -frz, -af]
  rw [hrun]
  exact ih
open Classical in
theorem vx : aq Try.prog GC 49 M23 := by
 refine aq.of_ev (E := au GC sk) (av rI) rfl Ic xg 5 ?_
 intro args r h
 unfold M23 at h
 split at h
 rotate_left
 ·cases h
 rename_i n a lo hi
 simp only [Option.map_eq_some_iff] at h
 obtain ⟨l, hl, rfl⟩ := h
 have ft : ∀ A x y, frz A 5 (.tup [x, y]) = .tup [frz A 4 x, frz A 4 y] := fun _ _ _ => rfl
 have p1 : ∀ x y, gT [x, y] = .tup [x, y] := fun _ _ => rfl
 by_cases hp : a8 hi
 rotate_left
 ·refine ⟨1, ?_⟩
  have f1 : ∀ A n, frz A n a = a := fun A n => bX hl A n
  have r1 : ∀ k, be k a = true := fun k => bL hl k
  have m1 : M28 [.int .i64 n, a, .int .i64 lo] = some (.bool (decide (a6 n l lo))) := by simp only [M28, hl, Option.map_some]
  have m2 : M28 [.int .i64 n, a, .int .i64 hi] = some (.bool false) := by simp only [M28, hl, Option.map_some]; congr 2; exact decide_eq_false fun h => hp h.2
  obtain ⟨d, hd⟩ : ∃ d, d = decide (a6 n l lo) := ⟨_, rfl⟩
  rw [<- hd] at m1
  rw [show smM n l lo hi = none from if_neg hp]
  have lp : ∃ v6 v7 v8 v9 v10 v11 v12 v13 v14 v15 v16 v17, bg (evC (au GC sk) 1 gF) jN 1 (oL (.int .i64 n) a (.int .i64 hi) (.int .i64 lo)) [] = some (.ret [.int .i64 n, a, .undef, .int .i64 hi, .int .i64 0, .bool false, v6, v7, v8, v9, v10, v11, v12, v13, v14, v15, v16, v17] []) := by
   refine ⟨.int .i64 lo, .bool d, .bool false, .undef, .undef, .undef, .undef, .undef, .bool true, .undef, .undef, .undef, ?_⟩
   rw [aQ, xF]
   cases d <;> simp [gF, m1, m2, f1, r1, aS, -frz, -af]
  obtain ⟨v6, v7, v8, v9, v10, v11, v12, v13, v14, v15, v16, v17, lp⟩ := lp
  rw [aN _ _ rfl]
  simp [Cb, Ak lp, smT]
 rw [show smM n l lo hi = smL n.toNat l hi (hi - lo + 2).toNat lo from if_pos hp]
 obtain ⟨F, hF⟩ : ∃ F, F = (hi - lo + 2).toNat + 41 := ⟨_, rfl⟩
 obtain ⟨v4, v5, v6, v7, v8, v9, v10, v11, v12, v13, v14, v15, v16, v17, lp, e4, e5⟩ := zV F (by omega) hl n hp F lo (by omega) (by omega)
 have es : smL n.toNat l hi F lo = smL n.toNat l hi (hi - lo + 2).toNat lo := by
  exact s9 F _ lo (by omega) (by omega)
 rw [es] at e4 e5
 subst e4 e5
 refine ⟨F, ?_⟩
 rw [aN _ _ rfl]
 simp [Cb, Ak lp, smT]
end Cy
def cP : MC := .seq (.seq (.region [⟨none, .mv (.var 7), none⟩, ⟨none, .mv (.var 4), none⟩, ⟨none, .lenSl (.tmp 1), none⟩, ⟨some 13, .bin .lss (.tmp 0) (.tmp 2), none⟩]) (.cond (.var 13) .skip (.exit 0))) (.seq (.seq (.block 1 (.seq (.region [⟨none, .load true 5 (.var 1), none⟩, ⟨none, .mv (.var 4), none⟩, ⟨none, .mv (.var 7), none⟩, ⟨none, .indexSl 1 (.tmp 1) (.tmp 2), none⟩, ⟨none, .load false 1 (.tmp 3), none⟩, ⟨none, .call (.fn 20) [.tmp 0, .tmp 4], none⟩, ⟨none, .mv (.tmp 5), none⟩, ⟨none, .extract (.tmp 6) 0, none⟩, ⟨none, .extract (.tmp 6) 1, none⟩, ⟨some 8, .mv (.tmp 7), none⟩, ⟨none, .mv (.tmp 8), none⟩]) (.seq (.region [⟨none, .mv (.var 4), none⟩, ⟨none, .mv (.var 7), none⟩, ⟨none, .indexSl 1 (.tmp 0) (.tmp 1), none⟩, ⟨none, .load false 1 (.tmp 2), none⟩, ⟨none, .lenSl (.tmp 3), none⟩, ⟨none, .mv (.var 8), none⟩, ⟨none, .call (.fn 49) [.tmp 4, .tmp 5, .cst (.int .i64 1), .cst (.int .i64 1000000)], none⟩, ⟨none, .mv (.tmp 6), none⟩, ⟨none, .extract (.tmp 7) 0, none⟩, ⟨none, .extract (.tmp 7) 1, none⟩, ⟨some 9, .mv (.tmp 8), none⟩, ⟨some 10, .mv (.tmp 9), none⟩]) (.seq (.region [⟨none, .mv (.var 10), none⟩, ⟨none, .mv (.tmp 0), none⟩, ⟨none, .mv (.var 5), some (.tmp 1, true)⟩, ⟨none, .bin .lss (.tmp 2) (.cst (.int .i64 0)), some (.tmp 1, true)⟩, ⟨none, .mv (.tmp 3), some (.tmp 1, true)⟩, ⟨none, .mv (.var 9), some (.tmp 4, false)⟩, ⟨none, .mv (.var 6), some (.tmp 4, false)⟩, ⟨none, .bin .lss (.tmp 5) (.tmp 6), some (.tmp 4, false)⟩, ⟨none, .pick (.tmp 4) (.cst (.bool true)) (.tmp 7), some (.tmp 1, true)⟩, ⟨some 14, .pick (.tmp 1) (.tmp 8) (.cst (.bool false)), none⟩]) (.cond (.var 14) (.seq (.region [⟨none, .mv (.var 7), none⟩, ⟨some 5, .mv (.tmp 0), none⟩]) (.region [⟨none, .mv (.var 9), none⟩, ⟨some 6, .mv (.tmp 0), none⟩])) .skip))))) (.kill [0, 3, 8, 9, 10, 11, 12, 13, 14, 15, 16])) (.region [⟨none, .mv (.var 7), none⟩, ⟨none, .bin .add (.tmp 0) (.cst (.int .i64 1)), none⟩, ⟨some 7, .mv (.tmp 1), none⟩]))
def vV : ci := ⟨1, 17, .seq (.region [⟨some 1, .box (.var 0), none⟩, ⟨some 2, .alloc 4 (.agg [.int .i64 0, .nilS, .nilS, .nilS]), none⟩, ⟨some 3, .mv (.cst (.int .i64 0)), none⟩]) (.seq (.region [⟨none, .load true 5 (.var 1), none⟩, ⟨none, .call (.fn 15) [.tmp 0], none⟩, ⟨some 4, .mv (.tmp 1), none⟩]) (.seq (.region [⟨some 5, .mv (.cst (.int .i64 (-1))), none⟩]) (.seq (.region [⟨some 6, .mv (.cst (.int .i64 0)), none⟩]) (.seq (.seq (.region [⟨some 7, .mv (.cst (.int .i64 0)), none⟩]) (.seq (.block 0 (.loop [0, 3, 8, 9, 10, 11, 12, 13, 14, 15, 16] cP)) (.kill [0, 3, 7, 8, 9, 10, 11, 12, 13, 14, 15, 16]))) (.seq (.seq (.region [⟨none, .mv (.var 5), none⟩, ⟨some 15, .bin .lss (.tmp 0) (.cst (.int .i64 0)), none⟩]) (.cond (.var 15) (.seq (.region [⟨none, .build [.int .i64 0, .nilS, .nilS, .nilS] [], none⟩, ⟨none, .store 4 (.var 2) (.tmp 0), none⟩, ⟨some 3, .mv (.cst (.int .i64 130)), none⟩]) .ret) .skip)) (.seq (.region [⟨none, .load true 5 (.var 1), none⟩, ⟨none, .mv (.var 4), none⟩, ⟨none, .mv (.var 5), none⟩, ⟨none, .indexSl 1 (.tmp 1) (.tmp 2), none⟩, ⟨none, .load false 1 (.tmp 3), none⟩, ⟨none, .call (.fn 20) [.tmp 0, .tmp 4], none⟩, ⟨none, .mv (.tmp 5), none⟩, ⟨none, .extract (.tmp 6) 0, none⟩, ⟨none, .extract (.tmp 6) 1, none⟩, ⟨some 11, .mv (.tmp 7), none⟩, ⟨none, .mv (.tmp 8), none⟩]) (.seq (.region [⟨none, .mv (.var 6), none⟩, ⟨none, .mv (.var 4), none⟩, ⟨none, .mv (.var 5), none⟩, ⟨none, .indexSl 1 (.tmp 1) (.tmp 2), none⟩, ⟨none, .load false 1 (.tmp 3), none⟩, ⟨none, .build [.int .i64 0, .nilS, .nilS, .nilS] [(0, (1, .tmp 0)), (1, (1, .tmp 4))], none⟩, ⟨some 12, .alloc 4 (.agg [.int .i64 0, .nilS, .nilS, .nilS]), none⟩, ⟨none, .store 4 (.var 12) (.tmp 5), none⟩]) (.seq (.region [⟨none, .mv (.var 4), none⟩, ⟨none, .mv (.var 5), none⟩, ⟨none, .indexSl 1 (.tmp 0) (.tmp 1), none⟩, ⟨none, .load false 1 (.tmp 2), none⟩, ⟨none, .lenSl (.tmp 3), none⟩, ⟨none, .mv (.var 11), none⟩, ⟨none, .mv (.var 6), none⟩, ⟨none, .call (.fn 50) [.tmp 4, .tmp 5, .tmp 6], none⟩, ⟨none, .mv (.tmp 7), none⟩, ⟨none, .extract (.tmp 8) 0, none⟩, ⟨none, .extract (.tmp 8) 1, none⟩, ⟨none, .extract (.tmp 8) 2, none⟩, ⟨none, .fieldAddr 2 (.var 12), none⟩, ⟨none, .store 1 (.tmp 12) (.tmp 9), none⟩]) (.seq (.seq (.region [⟨none, .mv (.var 6), none⟩, ⟨some 16, .bin .gtr (.tmp 0) (.cst (.int .i64 1)), none⟩]) (.cond (.var 16) (.region [⟨none, .mv (.var 4), none⟩, ⟨none, .mv (.var 5), none⟩, ⟨none, .indexSl 1 (.tmp 0) (.tmp 1), none⟩, ⟨none, .load false 1 (.tmp 2), none⟩, ⟨none, .lenSl (.tmp 3), none⟩, ⟨none, .mv (.var 11), none⟩, ⟨none, .mv (.var 6), none⟩, ⟨none, .bin .sub (.tmp 6) (.cst (.int .i64 1)), none⟩, ⟨none, .call (.fn 50) [.tmp 4, .tmp 5, .tmp 7], none⟩, ⟨none, .mv (.tmp 8), none⟩, ⟨none, .extract (.tmp 9) 0, none⟩, ⟨none, .extract (.tmp 9) 1, none⟩, ⟨none, .extract (.tmp 9) 2, none⟩, ⟨none, .fieldAddr 3 (.var 12), none⟩, ⟨none, .store 1 (.tmp 13) (.tmp 11), none⟩]) .skip)) (.seq (.region [⟨none, .load true 4 (.var 12), none⟩, ⟨none, .store 4 (.var 2) (.tmp 0), none⟩, ⟨some 3, .mv (.cst (.int .i64 0)), none⟩]) .ret)))))))))), [.cell 2 true 4, .tmp 3]⟩
def dv : List Nat := [0, 3, 8, 9, 10, 11, 12, 13, 14, 15, 16]
abbrev eW (v1 v2 v4 v5 v6 v7 : AV) : List AV := [.undef, v1, v2, .undef, v4, v5, v6, v7, .undef, .undef, .undef, .undef, .undef, .undef, .undef, .undef, .undef]
theorem nM {d0 v1 v2 d3 v4 v5 v6 v7 d8 d9 d10 d11 d12 d13 d14 d15 d16 : AV} : clear dv [d0, v1, v2, d3, v4, v5, v6, v7, d8, d9, d10, d11, d12, d13, d14, d15, d16] = eW v1 v2 v4 v5 v6 v7 := rfl
theorem nh {E : Env} {fuel : Nat} {A : ac} {o : Out} {k : List KC} {d0 v1 v2 d3 v4 v5 v6 v7 d8 d9 d10 d11 d12 d13 d14 d15 d16 : AV} (h : bg (evC E fuel cP) dv fuel (eW v1 v2 v4 v5 v6 v7) A = some o) :
  run E fuel (.code (.loop [0, 3, 8, 9, 10, 11, 12, 13, 14, 15, 16] cP) :: k) [d0, v1, v2, d3, v4, v5, v6, v7, d8, d9, d10, d11, d12, d13, d14, d15, d16] A = after E fuel k o := aG dv _ _ (by rw [nM]; exact h)
theorem xh : aE Try.prog Try.f23 1 [0, 1, 2, 3, 4, 5, 6, 7, 8, 10, 11, 12, 14, 20, 51, 55, 86] [] true ([[0, 3, 8, 9, 10, 11, 12, 13, 14, 15, 16]], [[0, 3, 8, 9, 10, 11, 12, 13, 14, 15, 16], [0, 3, 7, 8, 9, 10, 11, 12, 13, 14, 15, 16]]) = some vV := by kernel_rfl
theorem Id : Try.prog.funcs[23]? = some Try.f23 := by kernel_rfl
def Cb : ci := ⟨2, 8, .seq (.region [⟨some 2, .box (.var 0), none⟩, ⟨some 3, .box (.var 1), none⟩, ⟨some 4, .mv (.cst (.bool false)), none⟩]) (.seq (.region [⟨none, .fieldAddr 1 (.var 2), none⟩, ⟨none, .load false 1 (.tmp 0), none⟩, ⟨none, .fieldAddr 1 (.var 3), none⟩, ⟨none, .load false 1 (.tmp 2), none⟩, ⟨none, .call (.fn 18) [.tmp 1, .tmp 3], none⟩, ⟨some 5, .mv (.tmp 4), none⟩]) (.seq (.region [⟨none, .fieldAddr 2 (.var 2), none⟩, ⟨none, .load false 1 (.tmp 0), none⟩, ⟨none, .fieldAddr 2 (.var 3), none⟩, ⟨none, .load false 1 (.tmp 2), none⟩, ⟨none, .call (.fn 18) [.tmp 1, .tmp 3], none⟩, ⟨some 6, .mv (.tmp 4), none⟩]) (.seq (.region [⟨none, .fieldAddr 3 (.var 2), none⟩, ⟨none, .load false 1 (.tmp 0), none⟩, ⟨none, .fieldAddr 3 (.var 3), none⟩, ⟨none, .load false 1 (.tmp 2), none⟩, ⟨none, .call (.fn 18) [.tmp 1, .tmp 3], none⟩, ⟨some 7, .mv (.tmp 4), none⟩]) (.seq (.region [⟨none, .fieldAddr 0 (.var 2), none⟩, ⟨none, .load false 1 (.tmp 0), none⟩, ⟨none, .fieldAddr 0 (.var 3), none⟩, ⟨none, .load false 1 (.tmp 2), none⟩, ⟨none, .bin .eql (.tmp 1) (.tmp 3), none⟩, ⟨none, .mv (.tmp 4), none⟩, ⟨none, .mv (.var 5), some (.tmp 5, true)⟩, ⟨none, .pick (.tmp 5) (.tmp 6) (.cst (.bool false)), none⟩, ⟨none, .mv (.tmp 7), none⟩, ⟨none, .mv (.var 6), some (.tmp 8, true)⟩, ⟨none, .pick (.tmp 8) (.tmp 9) (.cst (.bool false)), none⟩, ⟨none, .mv (.tmp 10), none⟩, ⟨none, .mv (.var 7), some (.tmp 11, true)⟩, ⟨none, .pick (.tmp 11) (.tmp 12) (.cst (.bool false)), none⟩, ⟨some 4, .mv (.tmp 13), none⟩]) .ret)))), [.tmp 4]⟩
theorem xg : aE Try.prog Try.f24 2 [0, 1, 2, 3, 4, 5, 6, 7] [] true ([], []) = some Cb := by kernel_rfl
theorem Ic : Try.prog.funcs[24]? = some Try.f24 := by kernel_rfl
def tz : ci := ⟨2, 12, .seq (.region [⟨some 2, .box (.var 0), none⟩, ⟨some 3, .box (.var 1), none⟩, ⟨some 4, .mv (.cst (.bool false)), none⟩]) (.seq (.region [⟨none, .load true 5 (.var 2), none⟩, ⟨none, .fieldAddr 1 (.var 3), none⟩, ⟨none, .load false 1 (.tmp 1), none⟩, ⟨none, .call (.fn 20) [.tmp 0, .tmp 2], none⟩, ⟨none, .mv (.tmp 3), none⟩, ⟨none, .extract (.tmp 4) 0, none⟩, ⟨none, .extract (.tmp 4) 1, none⟩, ⟨some 5, .mv (.tmp 5), none⟩, ⟨some 6, .mv (.tmp 6), none⟩]) (.seq (.seq (.region [⟨none, .mv (.var 6), none⟩, ⟨none, .bin .neq (.tmp 0) (.cst (.int .i64 0)), none⟩, ⟨none, .mv (.tmp 1), none⟩, ⟨none, .fieldAddr 0 (.var 3), some (.tmp 2, false)⟩, ⟨none, .load false 1 (.tmp 3), some (.tmp 2, false)⟩, ⟨none, .bin .lss (.tmp 4) (.cst (.int .i64 1)), some (.tmp 2, false)⟩, ⟨none, .pick (.tmp 2) (.cst (.bool true)) (.tmp 5), none⟩, ⟨none, .mv (.tmp 6), none⟩, ⟨none, .fieldAddr 0 (.var 3), some (.tmp 7, false)⟩, ⟨none, .load false 1 (.tmp 8), some (.tmp 7, false)⟩, ⟨none, .bin .gtr (.tmp 9) (.cst (.int .i64 1000000)), some (.tmp 7, false)⟩, ⟨some 9, .pick (.tmp 7) (.cst (.bool true)) (.tmp 10), none⟩]) (.cond (.var 9) (.seq (.region [⟨some 4, .mv (.cst (.bool false)), none⟩]) .ret) .skip)) (.seq (.region [⟨none, .fieldAddr 1 (.var 3), none⟩, ⟨none, .load false 1 (.tmp 0), none⟩, ⟨none, .lenSl (.tmp 1), none⟩, ⟨some 7, .mv (.tmp 2), none⟩]) (.seq (.region [⟨none, .mv (.var 7), none⟩, ⟨none, .mv (.var 5), none⟩, ⟨none, .fieldAddr 0 (.var 3), none⟩, ⟨none, .load false 1 (.tmp 2), none⟩, ⟨none, .fieldAddr 2 (.var 3), none⟩, ⟨none, .load false 1 (.tmp 4), none⟩, ⟨none, .call (.fn 52) [.tmp 0, .tmp 1, .tmp 3, .tmp 5], none⟩, ⟨some 8, .mv (.tmp 6), none⟩]) (.seq (.seq (.region [⟨none, .mv (.var 8), none⟩, ⟨some 10, .un .not (.tmp 0), none⟩]) (.cond (.var 10) (.seq (.region [⟨some 4, .mv (.cst (.bool false)), none⟩]) .ret) .skip)) (.seq (.seq (.region [⟨none, .fieldAddr 0 (.var 3), none⟩, ⟨none, .load false 1 (.tmp 0), none⟩, ⟨some 11, .bin .eql (.tmp 1) (.cst (.int .i64 1)), none⟩]) (.cond (.var 11) (.seq (.region [⟨none, .fieldAddr 3 (.var 3), none⟩, ⟨none, .load false 1 (.tmp 0), none⟩, ⟨none, .lenSl (.tmp 1), none⟩, ⟨none, .bin .eql (.tmp 2) (.cst (.int .i64 0)), none⟩, ⟨some 4, .mv (.tmp 3), none⟩]) .ret) .skip)) (.seq (.region [⟨none, .mv (.var 7), none⟩, ⟨none, .mv (.var 5), none⟩, ⟨none, .fieldAddr 0 (.var 3), none⟩, ⟨none, .load false 1 (.tmp 2), none⟩, ⟨none, .bin .sub (.tmp 3) (.cst (.int .i64 1)), none⟩, ⟨none, .fieldAddr 3 (.var 3), none⟩, ⟨none, .load false 1 (.tmp 5), none⟩, ⟨none, .call (.fn 53) [.tmp 0, .tmp 1, .tmp 4, .tmp 6], none⟩, ⟨some 4, .mv (.tmp 7), none⟩]) .ret))))))), [.tmp 4]⟩
theorem xd : aE Try.prog Try.f27 2 [0, 1, 2, 3, 4, 5, 6, 7, 8, 27, 39, 42] [] true ([], []) = some tz := by kernel_rfl
theorem H9 : Try.prog.funcs[27]? = some Try.f27 := by kernel_rfl
def om : MC := .seq (.region [⟨some 20, .bin .lss (.var 19) (.var 18), none⟩]) (.seq (.cond (.var 20) .skip (.exit 0)) (.seq (.seq (.block 1 (.seq (.region [⟨none, .indexSl 4 (.var 17) (.var 19), none⟩, ⟨none, .load true 4 (.tmp 0), none⟩, ⟨some 15, .alloc 4 (.agg [.int .i64 0, .nilS, .nilS, .nilS]), none⟩, ⟨none, .store 4 (.var 15) (.tmp 1), none⟩]) (.seq (.regionD [] [⟨none, .load true 5 (.var 9), none⟩, ⟨none, .load true 4 (.var 15), none⟩, ⟨none, .call (.fn 26) [.tmp 0, .tmp 1], none⟩, ⟨none, .load true 5 (.var 9), none⟩, ⟨none, .load true 4 (.var 15), none⟩, ⟨none, .call (.fn 27) [.tmp 3, .tmp 4], none⟩, ⟨some 21, .eqBool true (.tmp 2) (.tmp 5), none⟩] [(2, 3), (2, 4)]) (.cond (.var 21) (.seq (.region [⟨some 7, .mv (.cst (.bool false)), none⟩]) .ret) .skip)))) (.kill [0, 1, 2, 3, 4, 5, 6, 7, 10, 11, 12, 13, 14, 15, 16, 20, 21])) (.region [⟨none, .bin .add (.var 19) (.cst (.int .i64 1)), none⟩, ⟨some 19, .mv (.tmp 0), none⟩])))
def mf4 : ci := ⟨4, 22, .seq (.region [⟨some 4, .box (.var 0), none⟩, ⟨some 5, .box (.var 2), none⟩, ⟨some 6, .box (.var 3), none⟩, ⟨some 7, .mv (.cst (.bool false)), none⟩]) (.seq (.region [⟨none, .call (.fn 11) [], none⟩, ⟨some 8, .mv (.tmp 0), none⟩]) (.seq (.region [⟨none, .load true 5 (.var 4), none⟩, ⟨none, .mv (.var 1), none⟩, ⟨none, .call (.fn 13) [.tmp 0, .tmp 1], none⟩, ⟨some 9, .alloc 5 (.agg [.nilS, .int .i64 0, .int .i64 0, .int .i64 0, .int .i64 0]), none⟩, ⟨none, .store 5 (.var 9) (.tmp 2), none⟩]) (.seq (.region [⟨none, .load true 5 (.var 9), none⟩, ⟨none, .call (.fn 22) [.tmp 0], none⟩, ⟨none, .mv (.tmp 1), none⟩, ⟨none, .extract (.tmp 2) 0, none⟩, ⟨none, .extract (.tmp 2) 1, none⟩, ⟨some 10, .alloc 4 (.agg [.int .i64 0, .nilS, .nilS, .nilS]), none⟩, ⟨none, .store 4 (.var 10) (.tmp 3), none⟩, ⟨some 11, .mv (.tmp 4), none⟩]) (.seq (.region [⟨none, .load true 5 (.var 9), none⟩, ⟨none, .call (.fn 23) [.tmp 0], none⟩, ⟨none, .mv (.tmp 1), none⟩, ⟨none, .extract (.tmp 2) 0, none⟩, ⟨none, .extract (.tmp 2) 1, none⟩, ⟨some 12, .alloc 4 (.agg [.int .i64 0, .nilS, .nilS, .nilS]), none⟩, ⟨none, .store 4 (.var 12) (.tmp 3), none⟩, ⟨some 13, .mv (.tmp 4), none⟩]) (.seq (.seq (.region [⟨none, .mv (.var 11), none⟩, ⟨none, .mv (.var 13), none⟩, ⟨none, .bin .neq (.tmp 0) (.tmp 1), none⟩, ⟨none, .mv (.tmp 2), none⟩, ⟨none, .load true 4 (.var 10), some (.tmp 3, false)⟩, ⟨none, .load true 4 (.var 12), some (.tmp 3, false)⟩, ⟨none, .call (.fn 24) [.tmp 4, .tmp 5], some (.tmp 3, false)⟩, ⟨none, .un .not (.tmp 6), some (.tmp 3, false)⟩, ⟨some 16, .pick (.tmp 3) (.cst (.bool true)) (.tmp 7), none⟩]) (.cond (.var 16) (.seq (.region [⟨some 7, .mv (.cst (.bool false)), none⟩]) .ret) .skip)) (.seq (.region [⟨none, .load true 5 (.var 9), none⟩, ⟨none, .load true 4 (.var 5), none⟩, ⟨none, .call (.fn 12) [.tmp 0, .tmp 1], none⟩, ⟨none, .mv (.tmp 2), none⟩, ⟨none, .extract (.tmp 3) 0, none⟩, ⟨none, .extract (.tmp 3) 1, none⟩, ⟨none, .alloc 5 (.agg [.nilS, .int .i64 0, .int .i64 0, .int .i64 0, .int .i64 0]), none⟩, ⟨some 14, .alloc 4 (.agg [.int .i64 0, .nilS, .nilS, .nilS]), none⟩, ⟨none, .store 5 (.tmp 6) (.tmp 4), none⟩, ⟨none, .store 4 (.var 14) (.tmp 5), none⟩]) (.seq (.seq (.regionD [] [⟨none, .load true 4 (.var 10), none⟩, ⟨none, .load true 4 (.var 14), none⟩, ⟨none, .load true 4 (.var 10), none⟩, ⟨none, .load true 3 (.var 6), none⟩, ⟨none, .call (.fn 25) [.tmp 2, .tmp 3], none⟩, ⟨some 17, .buildSlice 4 [.tmp 0, .tmp 1, .tmp 4], none⟩, ⟨some 18, .lenSl (.var 17), none⟩, ⟨some 19, .mv (.cst (.int .i64 0)), none⟩] [(0, 4), (1, 4)]) (.seq (.block 0 (.loop [0, 1, 2, 3, 4, 5, 6, 7, 10, 11, 12, 13, 14, 15, 16, 20, 21] om)) (.kill [0, 1, 2, 3, 4, 5, 6, 7, 9, 10, 11, 12, 13, 14, 15, 16, 17, 18, 19, 20, 21]))) (.seq (.region [⟨none, .mv (.var 8), none⟩, ⟨some 7, .mv (.tmp 0), none⟩]) .ret)))))))), [.tmp 7]⟩
def pL : List Nat := [0, 1, 2, 3, 4, 5, 6, 7, 10, 11, 12, 13, 14, 15, 16, 20, 21]
abbrev lE (v8 v9 v17 v18 v19 : AV) : List AV := [.undef, .undef, .undef, .undef, .undef, .undef, .undef, .undef, v8, v9, .undef, .undef, .undef, .undef, .undef, .undef, .undef, v17, v18, v19, .undef, .undef]
theorem xv {d0 d1 d2 d3 d4 d5 d6 d7 v8 v9 d10 d11 d12 d13 d14 d15 d16 v17 v18 v19 d20 d21 : AV} : clear pL [d0, d1, d2, d3, d4, d5, d6, d7, v8, v9, d10, d11, d12, d13, d14, d15, d16, v17, v18, v19, d20, d21] = lE v8 v9 v17 v18 v19 := rfl
theorem F5 {E : Env} {fuel : Nat} {A : ac} {o : Out} {k : List KC} {d0 d1 d2 d3 d4 d5 d6 d7 v8 v9 d10 d11 d12 d13 d14 d15 d16 v17 v18 v19 d20 d21 : AV} (h : bg (evC E fuel om) pL fuel (lE v8 v9 v17 v18 v19) A = some o) :
  run E fuel (.code (.loop [0, 1, 2, 3, 4, 5, 6, 7, 10, 11, 12, 13, 14, 15, 16, 20, 21] om) :: k) [d0, d1, d2, d3, d4, d5, d6, d7, v8, v9, d10, d11, d12, d13, d14, d15, d16, v17, v18, v19, d20, d21] A = after E fuel k o := aG pL _ _ (by rw [xv]; exact h)
theorem HN : aE Try.prog Try.f4 4 [0, 1, 2, 3, 4, 6, 7, 8, 9, 10, 11, 12, 13, 14, 16, 18, 41, 53, 54, 55, 56, 65] [] true ([[0, 1, 2, 3, 4, 5, 6, 7, 10, 11, 12, 13, 14, 15, 16, 20, 21]], [[0, 1, 2, 3, 4, 5, 6, 7, 10, 11, 12, 13, 14, 15, 16, 20, 21], [0, 1, 2, 3, 4, 5, 6, 7, 9, 10, 11, 12, 13, 14, 15, 16, 17, 18, 19, 20, 21]]) = some mf4 := by kernel_rfl
theorem at4 : Try.prog.funcs[4]? = some Try.f4 := by kernel_rfl
end Go.Proofs.Ytemklhljjaniaaa
