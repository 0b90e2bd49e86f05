/-
  What the proof is built on (K31 to K36).
-/
import Derived.Test.YtemklhljjaniaaaS06
/-
  Cluster: the reference's Arcs, the loops.
-/
namespace Go.Proofs.Ytemklhljjaniaaa
open Go
open Cy (GC CArc arcA arcsOf isPer ValidA okA smM smT lvM lvT VerOk RefOk Ready Pos frz_i frz_b intsA_len M12_eq idxZ idxZ_some idxZ_none)

noncomputable def fs20 : List (FuncId × HModel) := [(29, pureH 4 M29), (47, pureH 4 M47), (48, pureH 4 M48)]
@[simp] theorem fs20_29 : lookM fs20 29 = some (pureH 4 M29) := rfl
@[simp] theorem fs20_47 : lookM fs20 47 = some (pureH 4 M47) := rfl
@[simp] theorem fs20_48 : lookM fs20 48 = some (pureH 4 M48) := rfl
theorem sound20 : ∀ f M, lookM fs20 f = some M → FnSpecY Try.prog GC f M := lookM_cons (FnSpecY.of_pure spec29 4) (lookM_cons (FnSpecY.of_pure spec47 4) (lookM_cons (FnSpecY.of_pure spec48 4) lookM_nil))

/-- the tool, the arcs so far -/
def G20 (A : Arena) (T : Tool) (chv v : AV) (l : List CArc) : Prop :=
  A[0]? = some (.row 5 false [toolA T chv]) ∧ ((v = .nilS ∧ l = []) ∨ ∃ id gr, v = .sl id 0 l.length ∧ l ≠ [] ∧ 0 < id ∧ A[id]? = some (.row 4 gr (l.map arcA)))
theorem G20.app {A : Arena} {T : Tool} {chv v : AV} {l : List CArc} (h : G20 A T chv v l) (X : Arena) : G20 (A ++ X) T chv v l := by
  have hk : ∀ (j : Nat) (e : Ent), A[j]? = some e → (A ++ X)[j]? = some e := fun j e h => by
    rw [List.getElem?_append_left (List.getElem?_eq_some_iff.1 h).1]; exact h
  refine ⟨hk _ _ h.1, ?_⟩
  rcases h.2 with h2 | ⟨id, gr, e1, e2, e3, e4⟩
  · exact .inl h2
  · exact .inr ⟨id, gr, e1, e2, e3, hk _ _ e4⟩
theorem G20.add {A : Arena} {T : Tool} {chv v : AV} {l : List CArc} (h : G20 A T chv v l) {xs : List CArc} (hx : xs ≠ []) (hb : l.length + xs.length ≤ 1000) : ∃ v' B, evAppend 4 32 A v (.fs 4 (xs.map arcA)) = some (v', B) ∧ G20 B T chv v' (l ++ xs) := by
  have hxl : 0 < xs.length := List.length_pos_iff.2 hx
  have h0 := (List.getElem?_eq_some_iff.1 h.1).1
  rcases h.2 with ⟨rfl, rfl⟩ | ⟨id, gr, rfl, hl, hid, hr⟩
  · refine ⟨.sl A.length 0 xs.length, A ++ [.row 4 false (xs.map arcA)], ?_, ?_, .inr ⟨A.length, false, rfl, hx, h0, by simp⟩⟩
    · simp only [evAppend, srcElems_fs, List.length_map]
      rw [if_neg (by omega), if_pos ⟨by omega, by omega, by simp at hb; omega⟩]
    · rw [List.getElem?_append_left h0]; exact h.1
  · have hlz : l.length ≠ 0 := fun e => hl (List.length_eq_zero_iff.1 e)
    have hidl := (List.getElem?_eq_some_iff.1 hr).1
    refine ⟨.sl id 0 (l.length + xs.length), A.set id (.row 4 true (l.map arcA ++ xs.map arcA)), ?_, ?_, .inr ⟨id, true, by simp, by simp [hl], hid, ?_⟩⟩
    · simp only [evAppend, srcElems_fs, List.length_map, hr]
      rw [if_pos ⟨trivial, by omega, by omega, by omega⟩, if_pos ⟨trivial, trivial, hlz⟩]
    · rw [List.getElem?_set_ne (by omega)]; exact h.1
    · rw [List.getElem?_set_self hidl]; simp
theorem G20.frz {A : Arena} {T : Tool} {chv v : AV} {l : List CArc} (h : G20 A T chv v l) : (∀ k, Proofs.Ytemklhljjaniaaa.frz A (k + 3) v = slA 4 (l.map arcA)) ∧ ∀ k, freshB A (k + 3) v = true := by
  rcases h.2 with ⟨rfl, rfl⟩ | ⟨id, gr, rfl, hl, hid, hr⟩
  · exact ⟨fun k => rfl, fun k => rfl⟩
  · have e : ((l.map arcA).drop 0).take l.length = l.map arcA := by
      rw [List.drop_zero]
      conv => lhs; rw [show l.length = (l.map arcA).length by simp]
      rw [List.take_length]
    refine ⟨fun k => ?_, fun k => ?_⟩
    · have hm : (l.map arcA).map (Proofs.Ytemklhljjaniaaa.frz A (k + 2)) = l.map arcA := by
        rw [List.map_map]
        exact List.map_congr_left fun x _ => by simp [arcA, Proofs.Ytemklhljjaniaaa.frz]
      rw [show k + 3 = (k + 2) + 1 from rfl]
      simp only [Proofs.Ytemklhljjaniaaa.frz, hr]
      rw [e, hm]
      cases l with
      | nil => exact absurd rfl hl
      | cons x r => rfl
    · rw [show k + 3 = (k + 2) + 1 from rfl]
      simp only [freshB, hr]
      rw [e, List.all_eq_true]
      intro y hy
      obtain ⟨x, _, rfl⟩ := List.mem_map.1 hy
      simp [arcA, freshB]

set_option maxRecDepth 100000 in
set_option maxHeartbeats 4000000 in
theorem round20a {T : Tool} {chv ov : AV} {o : List Int} (hO : o ∈ ordersM T) (ho : SlA 1 (intsA o) ov) {A : Arena} {v : AV} {l : List CArc} (hI : G20 A T chv v l) (hl : l.length ≤ 100) {i : Nat} (hi : i < o.length) :
    ∃ v' B, run (envOf GC fs20) 300 [.code lp20x0] (st20x0 ov (.ptr 0 0 0) (.int .i64 (workT T)) v (.int .i64 (i : Int))) A =
      some (.normal (st20x0 ov (.ptr 0 0 0) (.int .i64 (workT T)) v' (.int .i64 ((i + 1 : Nat) : Int))) B) ∧ G20 B T chv v' (l ++ [arcO T o i]) := by
  obtain ⟨hv, hol, _, _⟩ := orders_mem hO
  have hbd := orders_bd hO
  have hw := workT_bd hv
  have hch := hv.2.2.2.1
  have htr := hv.2.1.2.2
  have ht := hI.1
  have ht0 := (List.getElem?_eq_some_iff.1 ht).1
  have hlen := ho.len
  rw [intsA_len] at hlen
  have x1 := fun A => ho.int (A := A) _ _ (List.getElem?_eq_getElem hi) .i64
  have ho1 : o[i] = o.getD i 0 := by rw [List.getD_eq_getElem?_getD, List.getElem?_eq_getElem hi]; rfl
  have hb1 := hbd o[i] (List.getElem_mem hi)
  obtain ⟨t0, htt⟩ : ∃ t, t = o.getD i 0 := ⟨_, rfl⟩
  rw [ho1, ← htt] at x1 hb1
  obtain ⟨w, hww⟩ : ∃ w, w = workT T := ⟨_, rfl⟩
  obtain ⟨ch, pk, pl, tr, bd⟩ := T
  have ht : A[0]? = some (.row 5 false [.agg [chv, .int .i64 pk, .int .i64 pl, .int .i64 tr, .int .i64 bd]]) := ht
  have tl : ∀ X, (A ++ X)[0]? = some (.row 5 false [.agg [chv, .int .i64 pk, .int .i64 pl, .int .i64 tr, .int .i64 bd]]) := fun X => by rw [List.getElem?_append_left ht0]; exact ht
  have t3 : ∀ X, evFieldAddr 3 (A ++ X) (.ptr 0 0 0) = some (.ptr 0 0 3) := fun X => by simp [evFieldAddr, tl X]
  have t4 : ∀ X, evFieldAddr 4 (A ++ X) (.ptr 0 0 0) = some (.ptr 0 0 4) := fun X => by simp [evFieldAddr, tl X]
  have l3 : ∀ X, evLoad false 1 (A ++ X) (.ptr 0 0 3) = some (.int .i64 tr) := fun X => by simp [evLoad, tl X, loadElem_part]
  have l4 : ∀ X, evLoad false 1 (A ++ X) (.ptr 0 0 4) = some (.int .i64 bd) := fun X => by simp [evLoad, tl X, loadElem_part]
  have a2 : ∀ a b c d, evFieldAddr 2 (A ++ [.row 4 false [.agg [a, b, c, d]]]) (.ptr A.length 0 0) = some (.ptr A.length 0 2) := fun a b c d => top_fa (es := [a, b, c, d]) (k := 4) rfl (by omega)
  have r2 : ∀ a b c d, evLoad false 1 (A ++ [.row 4 false [.agg [a, b, c, d]]]) (.ptr A.length 0 2) = some c := fun a b c d => top_ld (es := [a, b, c, d]) (k := 4) rfl rfl
  have r4 : ∀ a b c d, evLoad true 4 (A ++ [.row 4 false [.agg [a, b, c, d]]]) (.ptr A.length 0 0) = some (.agg [a, b, c, d]) := fun a b c d => top_all (es := [a, b, c, d]) (k := 4) rfl (by omega)
  have s2 : ∀ a b c d z, evStore 1 (A ++ [.row 4 false [.agg [a, b, c, d]]]) (.ptr A.length 0 2) (.int .i64 z) = some (A ++ [.row 4 false [.agg [a, b, .int .i64 z, d]]]) := fun a b c d z => top_st (es := [a, b, c, d]) (k := 4) rfl (by omega) (by omega) rfl rfl
  have sA : ∀ a b c d x y z u, evStore 4 (A ++ [.row 4 false [.agg [a, b, c, d]]]) (.ptr A.length 0 0) (.agg [.int .i64 x, .int .i64 y, .int .i64 z, .int .i64 u]) = some (A ++ [.row 4 false [.agg [.int .i64 x, .int .i64 y, .int .i64 z, .int .i64 u]]]) := fun a b c d x y z u => by simp [evStore, storeElem]
  have b0 := lt_nat i o.length .i64
  rw [decide_eq_true hi] at b0
  have b1 := add1_nat i (by omega)
  have b2 := lt_nat (i + 1) o.length .i64
  have b3 : evBin .eql (.int .i64 bd) (.int .i64 2) = some (.bool (decide (bd = 2))) := evEqlI _ _
  have b4 : evBin .add (.int .i64 t0) (.int .i64 1) = some (.int .i64 (t0 + 1)) := evAddI (by simp only at hch hb1; omega)
  have b6 : evBin .add (.int .i64 w) (.int .i64 tr) = some (.int .i64 (w + tr)) := evAddI (by simp only at htr; omega)
  obtain ⟨nx, hnx⟩ : ∃ x, x = nextO o i := ⟨_, rfl⟩
  have b5 : evBin .neq (.int .i64 nx) (.int .i64 (t0 + 1)) = some (.bool (decide (nx ≠ t0 + 1))) := evNeqI _ _
  -- what is appended
  obtain ⟨ar, har⟩ : ∃ a, a = arcO ⟨ch, pk, pl, tr, bd⟩ o i := ⟨_, rfl⟩
  have hae : ar = ⟨t0, nx, w + (if bd = 2 ∨ nx ≠ t0 + 1 then tr else 0), if i + 1 < o.length then 0 else 1⟩ := by
    rw [har, hnx, htt, hww]; rfl
  obtain ⟨v', B, k1, k2⟩ := (hI.app [.row 4 false [arcA ar]]).add (xs := [ar]) (by simp) (by simp; omega)
  refine ⟨v', B, ?_, by rw [← har]; exact k2⟩
  rw [← hww]
  have k1 : evAppend 4 32 (A ++ [.row 4 false [arcA ar]]) v (.fs 4 [arcA ar]) = some (v', B) := k1
  rw [show arcA ar = .agg [.int .i64 t0, .int .i64 nx, .int .i64 (w + (if bd = 2 ∨ nx ≠ t0 + 1 then tr else 0)), .int .i64 (if i + 1 < o.length then 0 else 1)] by rw [hae]; rfl] at k1
  have hsl : ∀ x y z u : Int, evBuildF 4 [.agg [.int .i64 x, .int .i64 y, .int .i64 z, .int .i64 u]] = some (.fs 4 [.agg [.int .i64 x, .int .i64 y, .int .i64 z, .int .i64 u]]) := fun x y z u => rfl
  obtain ⟨N, hN⟩ : ∃ n, n = A.length := ⟨_, rfl⟩
  obtain ⟨i1, hi1⟩ : ∃ n, n = i + 1 := ⟨_, rfl⟩
  have x2 : i1 < o.length → ∀ A, evIndexSl 1 A ov (.int .i64 (i1 : Int)) = some (.fp [.int .i64 nx]) := fun h A => by
    have e : o[i1]? = some nx := by rw [hnx, nextO, if_pos (by omega), ← hi1, List.getD_eq_getElem?_getD, List.getElem?_eq_getElem h]; rfl
    exact ho.int (A := A) _ _ e .i64
  have hnx0 : ¬ i1 < o.length → nx = 0 := fun h => by rw [hnx, nextO, if_neg (by omega)]
  have bx : ∀ z, evBox 4 (.agg [.int .i64 z, .int .i64 z, .int .i64 z, .int .i64 z]) A = some (.ptr N 0 0, A ++ [.row 4 false [.agg [.int .i64 z, .int .i64 z, .int .i64 z, .int .i64 z]]]) := fun z => by rw [hN]; rfl
  rw [← hi1] at b1 b2 k1 ⊢
  rw [← hN] at a2 r2 r4 s2 sA
  obtain ⟨t1, ht1⟩ : ∃ x, x = t0 + 1 := ⟨_, rfl⟩
  rw [← ht1] at b4 b5 k1
  obtain ⟨w1, hw1⟩ : ∃ x, x = w + tr := ⟨_, rfl⟩
  rw [← hw1] at b6
  by_cases hc : i1 < o.length
  · rw [decide_eq_true hc] at b2
    have x2 := x2 hc
    rw [if_pos hc] at k1
    by_cases hd : bd = 2
    · rw [decide_eq_true hd] at b3
      rw [if_pos (.inl hd), ← hw1] at k1
      simp [lp20x0, b0, b1, b2, b3, b6, x1, x2, hlen, t3, t4, l3, l4, a2, r2, r4, s2, sA, bx, hsl, k1, -evBin, -evLoad, -evStore, -evFieldAddr, -evIndexSl, -evLenSl, -evBuildF, -evBox]
    · rw [decide_eq_false hd] at b3
      by_cases he : nx ≠ t1
      · rw [decide_eq_true he] at b5
        rw [if_pos (.inr he), ← hw1] at k1
        simp [lp20x0, b0, b1, b2, b3, b4, b5, b6, x1, x2, hlen, t3, t4, l3, l4, a2, r2, r4, s2, sA, bx, hsl, k1, -evBin, -evLoad, -evStore, -evFieldAddr, -evIndexSl, -evLenSl, -evBuildF, -evBox]
      · rw [decide_eq_false he] at b5
        rw [if_neg (fun h => h.elim hd he), Int.add_zero] at k1
        simp [lp20x0, b0, b1, b2, b3, b4, b5, x1, x2, hlen, t4, l4, r4, sA, bx, hsl, k1, -evBin, -evLoad, -evStore, -evFieldAddr, -evIndexSl, -evLenSl, -evBuildF, -evBox]
  · rw [decide_eq_false hc] at b2
    rw [if_neg hc] at k1
    have hnx0 := hnx0 hc
    rw [hnx0] at b5 k1
    by_cases hd : bd = 2
    · rw [decide_eq_true hd] at b3
      rw [if_pos (.inl hd), ← hw1] at k1
      simp [lp20x0, b0, b1, b2, b3, b6, x1, hlen, t3, t4, l3, l4, a2, r2, r4, s2, sA, bx, hsl, k1, -evBin, -evLoad, -evStore, -evFieldAddr, -evIndexSl, -evLenSl, -evBuildF, -evBox]
    · rw [decide_eq_false hd] at b3
      by_cases he : (0 : Int) ≠ t1
      · rw [decide_eq_true he] at b5
        rw [if_pos (.inr he), ← hw1] at k1
        simp [lp20x0, b0, b1, b2, b3, b4, b5, b6, x1, hlen, t3, t4, l3, l4, a2, r2, r4, s2, sA, bx, hsl, k1, -evBin, -evLoad, -evStore, -evFieldAddr, -evIndexSl, -evLenSl, -evBuildF, -evBox]
      · rw [decide_eq_false he] at b5
        rw [if_neg (fun h => h.elim hd he), Int.add_zero] at k1
        simp [lp20x0, b0, b1, b2, b3, b4, b5, x1, hlen, t4, l4, r4, sA, bx, hsl, k1, -evBin, -evLoad, -evStore, -evFieldAddr, -evIndexSl, -evLenSl, -evBuildF, -evBox]

set_option maxRecDepth 100000 in
set_option maxHeartbeats 4000000 in
theorem round20b {T : Tool} {chv ov : AV} {o : List Int} (hO : o ∈ ordersM T) (hcv : SlA 2 (T.ch.map chA) chv) (ho : SlA 1 (intsA o) ov) {A : Arena} {v : AV} {l : List CArc} (hI : G20 A T chv v l) (hl : l.length ≤ 100) {i : Nat} (hi : i < T.ch.length) :
    ∃ v' B, run (envOf GC fs20) 300 [.code lp20x1] (st20x1 ov (.ptr 0 0 0) (.int .i64 (workT T)) v (.int .i64 ((i + 1 : Nat) : Int))) A =
      some (.normal (st20x1 ov (.ptr 0 0 0) (.int .i64 (workT T)) v' (.int .i64 ((i + 1 + 1 : Nat) : Int))) B) ∧ G20 B T chv v' (l ++ arcC T o i) := by
  obtain ⟨hv, hol, _, _⟩ := orders_mem hO
  have hw := workT_bd hv
  have hch := hv.2.2.2.1
  have ht := hI.1
  have ht0 := (List.getElem?_eq_some_iff.1 ht).1
  have hlen := hcv.len
  rw [List.length_map] at hlen
  have hx0 : T.ch.getD i (0, 0) = T.ch[i] := by rw [List.getD_eq_getElem?_getD, List.getElem?_eq_getElem hi]; rfl
  have hxv := hv.1 _ (List.getElem_mem hi)
  have x1 : ∀ A, evIndexSl 2 A chv (.int .i64 (i : Int)) = some (.fp [.int .i64 (T.ch.getD i (0, 0)).1, .int .i64 (T.ch.getD i (0, 0)).2]) := fun A => by
    rw [hx0]
    exact hcv.index (A := A) (x := chA T.ch[i]) (by simp [hi]) rfl (by omega) .i64
  have m1 := M48_eq ho (by omega) ((i + 1 : Nat) : Int)
  have m2 := M48_eq ho (by omega) (i : Int)
  have fo : ∀ A n, frz A n ov = ov := fun A n => ho.frz n
  have fi : ∀ (A : Arena) (z : Int), frz A 4 (.int .i64 z) = .int .i64 z := fun A z => frz_i A 4 .i64 z
  have b7 := evLssI (idxZ (isI ((i + 1 : Nat) : Int)) o) (idxZ (isI (i : Int)) o)
  obtain ⟨X, hX⟩ : ∃ x, x = idxZ (isI ((i + 1 : Nat) : Int)) o := ⟨_, rfl⟩
  obtain ⟨Y, hY⟩ : ∃ x, x = idxZ (isI (i : Int)) o := ⟨_, rfl⟩
  have hk : lkT T o ((i : Int) + 1) = if T.blades = 2 then (((i + 1 : Nat) : Int), ((i + 1 : Nat) : Int), 1) else ((i : Int), ((i + 1 : Nat) : Int), if X < Y then 1 else 0) := by
    unfold lkT
    rw [show (i : Int) + 1 - 1 = (i : Int) by omega, show (i : Int) + 1 = ((i + 1 : Nat) : Int) by omega, hX, hY]
  rw [← hX] at m1 b7
  rw [← hY] at m2 b7
  obtain ⟨⟨tm, sy⟩, hx⟩ : ∃ x, x = T.ch.getD i (0, 0) := ⟨_, rfl⟩
  have ha : arcC T o i = [⟨(lkT T o (i + 1)).1, (lkT T o (i + 1)).2.1, workT T + tm, (lkT T o (i + 1)).2.2⟩, ⟨(lkT T o (i + 1)).2.1, (lkT T o (i + 1)).1, -(workT T + tm + sy), -(lkT T o (i + 1)).2.2⟩] := by
    unfold arcC; rw [← hx]
  rw [hx0] at hx
  rw [← hx] at hxv
  rw [hx0, ← hx] at x1
  simp only [okCh] at x1 hxv
  obtain ⟨w, hww⟩ : ∃ w, w = workT T := ⟨_, rfl⟩
  rw [← hww] at hw ha ⊢
  have b0 : evBin .leq (.int .i64 ((i + 1 : Nat) : Int)) (.int .i64 (T.ch.length : Int)) = some (.bool true) := by rw [evLeqI, decide_eq_true (by omega)]
  have b1 := add1_nat (i + 1) (by omega)
  have b2 : evBin .sub (.int .i64 ((i + 1 : Nat) : Int)) (.int .i64 1) = some (.int .i64 (i : Int)) := by rw [evSubI (by omega)]; congr 2; omega
  have b3 : evBin .add (.int .i64 w) (.int .i64 tm) = some (.int .i64 (w + tm)) := evAddI (by omega)
  have b4 : evBin .add (.int .i64 (w + tm)) (.int .i64 sy) = some (.int .i64 (w + tm + sy)) := evAddI (by omega)
  have b5 : evUn .neg (.int .i64 (w + tm + sy)) = some (.int .i64 (-(w + tm + sy))) := evNegI (by omega)
  have n1 : evUn .neg (.int .i64 1) = some (.int .i64 (-1)) := evNegI (by omega)
  have n0 : evUn .neg (.int .i64 0) = some (.int .i64 0) := evNegI (a := 0) (by omega)
  have b8 : evBin .eql (.int .i64 T.blades) (.int .i64 2) = some (.bool (decide (T.blades = 2))) := evEqlI _ _
  -- the rows
  have bx : evBox 2 (.agg [.int .i64 0, .int .i64 0]) A = some (.ptr A.length 0 0, A ++ [.row 2 false [.agg [.int .i64 0, .int .i64 0]]]) := rfl
  obtain ⟨A1, hA1⟩ : ∃ X, X = A ++ [Ent.row 2 false [.agg [.int .i64 tm, .int .i64 sy]]] := ⟨_, rfl⟩
  have s0 : evStore 2 (A ++ [.row 2 false [.agg [.int .i64 0, .int .i64 0]]]) (.ptr A.length 0 0) (.agg [.int .i64 tm, .int .i64 sy]) = some A1 := by simp [evStore, storeElem, hA1]
  have f0 : evFieldAddr 0 A1 (.ptr A.length 0 0) = some (.ptr A.length 0 0) := by rw [hA1]; exact top_fa (es := [.int .i64 tm, .int .i64 sy]) (k := 2) rfl (by omega)
  have f1 : evFieldAddr 1 A1 (.ptr A.length 0 0) = some (.ptr A.length 0 1) := by rw [hA1]; exact top_fa (es := [.int .i64 tm, .int .i64 sy]) (k := 2) rfl (by omega)
  have e0 : evLoad false 1 A1 (.ptr A.length 0 0) = some (.int .i64 tm) := by rw [hA1]; exact top_ld (es := [.int .i64 tm, .int .i64 sy]) (k := 2) rfl rfl
  have e1 : evLoad false 1 A1 (.ptr A.length 0 1) = some (.int .i64 sy) := by rw [hA1]; exact top_ld (es := [.int .i64 tm, .int .i64 sy]) (k := 2) rfl rfl
  have tl : ∀ X, (A ++ X)[0]? = some (.row 5 false [toolA T chv]) := fun X => by rw [List.getElem?_append_left ht0]; exact ht
  have t0 : evFieldAddr 0 A (.ptr 0 0 0) = some (.ptr 0 0 0) := by simp [evFieldAddr, ht]
  have l0 : evLoad false 1 A (.ptr 0 0 0) = some chv := by simp [evLoad, ht, toolA, loadElem_part]
  have t4 : evFieldAddr 4 A1 (.ptr 0 0 0) = some (.ptr 0 0 4) := by rw [hA1]; simp only [evFieldAddr, tl]; rfl
  have l4 : evLoad false 1 A1 (.ptr 0 0 4) = some (.int .i64 T.blades) := by rw [hA1]; simp only [evLoad, tl]; simp [toolA, loadElem_part]
  -- what is appended
  obtain ⟨v', B, q1, q2⟩ := (hI.app [Ent.row 2 false [.agg [.int .i64 tm, .int .i64 sy]]]).add (xs := arcC T o i) (by rw [ha]; simp) (by rw [ha]; simp; omega)
  refine ⟨v', B, ?_, q2⟩
  rw [← hA1, ha, hk] at q1
  obtain ⟨N, hN⟩ : ∃ n, n = A.length := ⟨_, rfl⟩
  rw [← hN] at bx s0 f0 f1 e0 e1
  obtain ⟨w1, hw1⟩ : ∃ x, x = w + tm := ⟨_, rfl⟩
  rw [← hw1] at b3 b4 b5 q1
  obtain ⟨w2, hw2⟩ : ∃ x, x = w1 + sy := ⟨_, rfl⟩
  rw [← hw2] at b4 b5 q1
  obtain ⟨w3, hw3⟩ : ∃ x, x = -w2 := ⟨_, rfl⟩
  rw [← hw3] at b5 q1
  obtain ⟨i2, hi2⟩ : ∃ n, n = i + 1 + 1 := ⟨_, rfl⟩
  rw [← hi2] at b1 ⊢
  obtain ⟨i1, hi1⟩ : ∃ n, n = i + 1 := ⟨_, rfl⟩
  rw [← hi1] at b0 b1 b2 m1 q1 ⊢
  have hsl : ∀ x y z u x' y' z' u' : Int, evBuildF 4 [.agg [.int .i64 x, .int .i64 y, .int .i64 z, .int .i64 u], .agg [.int .i64 x', .int .i64 y', .int .i64 z', .int .i64 u']] = some (.fs 4 [.agg [.int .i64 x, .int .i64 y, .int .i64 z, .int .i64 u], .agg [.int .i64 x', .int .i64 y', .int .i64 z', .int .i64 u']]) := fun _ _ _ _ _ _ _ _ => rfl
  by_cases hd : T.blades = 2
  · rw [decide_eq_true hd] at b8
    rw [if_pos hd] at q1
    have q1 : evAppend 4 32 A1 v (.fs 4 [.agg [.int .i64 (i1 : Int), .int .i64 (i1 : Int), .int .i64 w1, .int .i64 1], .agg [.int .i64 (i1 : Int), .int .i64 (i1 : Int), .int .i64 w3, .int .i64 (-1)]]) = some (v', B) := q1
    simp [lp20x1, b0, b1, b2, b3, b4, b5, b8, n1, x1, hlen, bx, s0, f0, f1, e0, e1, t0, l0, t4, l4, hsl, q1, -evBin, -evLoad, -evStore, -evFieldAddr, -evIndexSl, -evLenSl, -evBuildF, -evBox, -evUn]
  · rw [decide_eq_false hd] at b8
    rw [if_neg hd] at q1
    by_cases he : X < Y
    · rw [decide_eq_true he] at b7
      rw [if_pos he] at q1
      have q1 : evAppend 4 32 A1 v (.fs 4 [.agg [.int .i64 (i : Int), .int .i64 (i1 : Int), .int .i64 w1, .int .i64 1], .agg [.int .i64 (i1 : Int), .int .i64 (i : Int), .int .i64 w3, .int .i64 (-1)]]) = some (v', B) := q1
      simp [lp20x1, b0, b1, b2, b3, b4, b5, b7, b8, n1, m1, m2, fo, fi, x1, hlen, bx, s0, f0, f1, e0, e1, t0, l0, t4, l4, hsl, q1, -evBin, -evLoad, -evStore, -evFieldAddr, -evIndexSl, -evLenSl, -evBuildF, -evBox, -evUn, -frz]
    · rw [decide_eq_false he] at b7
      rw [if_neg he] at q1
      have q1 : evAppend 4 32 A1 v (.fs 4 [.agg [.int .i64 (i : Int), .int .i64 (i1 : Int), .int .i64 w1, .int .i64 0], .agg [.int .i64 (i1 : Int), .int .i64 (i : Int), .int .i64 w3, .int .i64 0]]) = some (v', B) := q1
      simp [lp20x1, b0, b1, b2, b3, b4, b5, b7, b8, n0, m1, m2, fo, fi, x1, hlen, bx, s0, f0, f1, e0, e1, t0, l0, t4, l4, hsl, q1, -evBin, -evLoad, -evStore, -evFieldAddr, -evIndexSl, -evLenSl, -evBuildF, -evBox, -evUn, -frz]
end Go.Proofs.Ytemklhljjaniaaa
/-
  Cluster: the reference's Arcs as a whole.
-/
namespace Go.Proofs.Ytemklhljjaniaaa
open Go
open Cy (GC CArc arcA arcsOf isPer ValidA okA smM smT lvM lvT VerOk RefOk Ready Pos frz_i frz_b intsA_len M12_eq idxZ idxZ_some idxZ_none)

theorem loop20a {T : Tool} {chv ov : AV} {o : List Int} (hO : o ∈ ordersM T) (ho : SlA 1 (intsA o) ov) : ∀ (c i : Nat) (v : AV) (A : Arena) (m : Nat), i + c = o.length → G20 A T chv v ((List.range i).map (arcO T o)) → c < m →
    ∃ v' B, iter (evC (envOf GC fs20) 300 lp20x0) mask20x0 m (st20x0 ov (.ptr 0 0 0) (.int .i64 (workT T)) v (.int .i64 (i : Int))) A =
      some (.exit 0 ((st20x0 ov (.ptr 0 0 0) (.int .i64 (workT T)) v' (.int .i64 (o.length : Int))).set 16 (.bool false)) B) ∧ G20 B T chv v' ((List.range o.length).map (arcO T o)) := by
  obtain ⟨hv, hol, _, _⟩ := orders_mem hO
  have hn4 := hv.2.2.2.1
  have hlen := ho.len
  rw [intsA_len] at hlen
  intro c
  induction c with
  | zero =>
    intro i v A m hi hI hm
    obtain ⟨m, rfl⟩ : ∃ j, m = j + 1 := ⟨m - 1, by omega⟩
    obtain rfl : i = o.length := by omega
    refine ⟨v, A, ?_, hI⟩
    have b0 := lt_nat o.length o.length .i64
    rw [decide_eq_false (by omega)] at b0
    rw [iter_succ, cl20x0]
    simp [lp20x0, b0, hlen, -evBin, -evLenSl]
  | succ c ih =>
    intro i v A m hi hI hm
    obtain ⟨m, rfl⟩ : ∃ j, m = j + 1 := ⟨m - 1, by omega⟩
    obtain ⟨v1, B, h1, h2⟩ := round20a hO ho hI (by simp; omega) (i := i) (by omega)
    rw [← arcsL_app] at h2
    obtain ⟨v2, C, h3, h4⟩ := ih (i + 1) v1 B m (by omega) h2 (by omega)
    refine ⟨v2, C, ?_, h4⟩
    rw [iter_succ, cl20x0, h1]
    exact h3
theorem loop20b {T : Tool} {chv ov : AV} {o : List Int} (hO : o ∈ ordersM T) (hcv : SlA 2 (T.ch.map chA) chv) (ho : SlA 1 (intsA o) ov) {l0 : List CArc} (hl0 : l0.length ≤ 50) : ∀ (c i : Nat) (v : AV) (A : Arena) (m : Nat), i + c = T.ch.length → G20 A T chv v (l0 ++ (List.range i).flatMap (arcC T o)) → c < m →
    ∃ v' B, iter (evC (envOf GC fs20) 300 lp20x1) mask20x1 m (st20x1 ov (.ptr 0 0 0) (.int .i64 (workT T)) v (.int .i64 ((i + 1 : Nat) : Int))) A =
      some (.exit 2 ((st20x1 ov (.ptr 0 0 0) (.int .i64 (workT T)) v' (.int .i64 ((T.ch.length + 1 : Nat) : Int))).set 19 (.bool false)) B) ∧ G20 B T chv v' (l0 ++ (List.range T.ch.length).flatMap (arcC T o)) := by
  obtain ⟨hv, hol, _, _⟩ := orders_mem hO
  have hn4 := hv.2.2.2.1
  have hlen := hcv.len
  rw [List.length_map] at hlen
  intro c
  induction c with
  | zero =>
    intro i v A m hi hI hm
    obtain ⟨m, rfl⟩ : ∃ j, m = j + 1 := ⟨m - 1, by omega⟩
    obtain rfl : i = T.ch.length := by omega
    refine ⟨v, A, ?_, hI⟩
    have t0 : evFieldAddr 0 A (.ptr 0 0 0) = some (.ptr 0 0 0) := by simp [evFieldAddr, hI.1]
    have l0 : evLoad false 1 A (.ptr 0 0 0) = some chv := by simp [evLoad, hI.1, toolA, loadElem_part]
    have b0 : evBin .leq (.int .i64 ((T.ch.length + 1 : Nat) : Int)) (.int .i64 (T.ch.length : Int)) = some (.bool false) := by rw [evLeqI, decide_eq_false (by omega)]
    obtain ⟨i1, hi1⟩ : ∃ n, n = T.ch.length + 1 := ⟨_, rfl⟩
    rw [← hi1] at b0 ⊢
    rw [iter_succ, cl20x1]
    simp [lp20x1, b0, t0, l0, hlen, -evBin, -evLoad, -evFieldAddr, -evLenSl]
  | succ c ih =>
    intro i v A m hi hI hm
    obtain ⟨m, rfl⟩ : ∃ j, m = j + 1 := ⟨m - 1, by omega⟩
    obtain ⟨v1, B, h1, h2⟩ := round20b hO hcv ho hI (by rw [List.length_append, arcsC_len]; omega) (i := i) (by omega)
    rw [List.append_assoc, ← arcsC_app] at h2
    obtain ⟨v2, C, h3, h4⟩ := ih (i + 1) v1 B m (by omega) h2 (by omega)
    refine ⟨v2, C, ?_, h4⟩
    rw [iter_succ, cl20x1, h1]
    exact h3

noncomputable def M20 : PModel := fun args => evF (envOf GC fs20) 300 mf20 4 args
theorem spec20 : PureSpecF Try.prog GC 20 M20 := PureSpecF.of_ev (E := envOf GC fs20) (envOf_sound sound20) rfl at20 comp20 4 fun _ _ h => ⟨300, h⟩

set_option maxRecDepth 100000 in
set_option maxHeartbeats 1000000 in
theorem M20_eq {T : Tool} {chv ov : AV} {o : List Int} (hcv : SlA 2 (T.ch.map chA) chv) (hl : T.ch.length ≤ 200) (ho : SlA 1 (intsA o) ov) (hol : o.length ≤ 200) (hoi : ∀ z ∈ o, inI z) : M20 [toolA T chv, ov] = some (arcsT (arcsM T o)) := by
  have m47 := M47_eq hcv hl ho hol hoi
  have ft := fun A => toolA_frz (T := T) (fun A n => hcv.frz (A := A) n) A 3
  have fo : ∀ A n, frz A n ov = ov := fun A n => ho.frz n
  have lt : ∀ X, evLoad true 5 (.row 5 false [toolA T chv] :: X) (.ptr 0 0 0) = some (toolA T chv) := fun X => rfl
  have bx0 : evBox 5 (toolA T chv) [] = some (.ptr 0 0 0, [.row 5 false [toolA T chv]]) := rfl
  unfold M20 arcsM
  rw [evF_run _ _ rfl]
  by_cases hO : o ∈ ordersM T
  · obtain ⟨hv, hol2, _, _⟩ := orders_mem hO
    have hn4 := hv.2.2.2.1
    rw [decide_eq_true hO] at m47
    rw [if_pos hO]
    have m29 := M29_eq chv hv
    obtain ⟨v1, B1, h1, h2⟩ := loop20a hO ho (chv := chv) o.length 0 .nilS [.row 5 false [toolA T chv]] 300 (by omega) ⟨rfl, .inl ⟨rfl, rfl⟩⟩ (by omega)
    have h2' : G20 B1 T chv v1 ((List.range o.length).map (arcO T o) ++ (List.range 0).flatMap (arcC T o)) := by simpa using h2
    obtain ⟨v2, B2, h3, h4⟩ := loop20b hO hcv ho (l0 := (List.range o.length).map (arcO T o)) (by simp; omega) T.ch.length 0 v1 B1 300 (by omega) h2' (by omega)
    obtain ⟨g2, g3⟩ := h4.frz
    have g2 := g2 0
    have g3 := g3 0
    obtain ⟨R, hR⟩ : ∃ R, R = slA 4 ((arcsL T o).map arcA) := ⟨_, rfl⟩
    rw [show (List.range o.length).map (arcO T o) ++ (List.range T.ch.length).flatMap (arcC T o) = arcsL T o from rfl, ← hR] at g2
    have hRR : arcsT (some (arcsL T o)) = .tup [R, .int .i64 0] := by rw [hR]; rfl
    rw [hRR]
    have h1 : iter (evC (envOf GC fs20) 300 lp20x0) mask20x0 300 (st20x0 ov (.ptr 0 0 0) (.int .i64 (workT T)) .nilS (.int .i64 0)) [.row 5 false [toolA T chv]] = _ := h1
    have h3 : iter (evC (envOf GC fs20) 300 lp20x1) mask20x1 300 (st20x1 ov (.ptr 0 0 0) (.int .i64 (workT T)) v1 (.int .i64 1)) B1 = _ := h3
    obtain ⟨t, htt⟩ : ∃ t, t = toolA T chv := ⟨_, rfl⟩
    obtain ⟨w, hw⟩ : ∃ F, F = workT T := ⟨_, rfl⟩
    rw [← htt] at m47 ft lt bx0 m29 h1 ⊢
    rw [← hw] at m29 h1 h3
    have ct : (cellsOf t).length = 5 := by rw [htt]; rfl
    have fT : frz B2 4 (.tup [v2, .int .i64 0]) = .tup [R, .int .i64 0] := by
      rw [← g2]; rfl
    have rT : freshB B2 4 (.tup [v2, .int .i64 0]) = true := by
      have g3 : freshB B2 3 v2 = true := g3
      simp [freshB, g3]
    simp [mf20, bx0, fT, rT, ct, lt, m47, m29, ft, fo, go20x0 h1, go20x1 h3, -evBox, -evLoad, -evFieldAddr, -evLenSl, -frz, -cellsOf]
  · rw [decide_eq_false hO] at m47
    rw [if_neg hO]
    obtain ⟨t, htt⟩ : ∃ t, t = toolA T chv := ⟨_, rfl⟩
    rw [← htt] at m47 ft lt bx0 ⊢
    have ct : (cellsOf t).length = 5 := by rw [htt]; rfl
    have fT : ∀ A, frz A 4 (.tup [.nilS, .int .i64 130]) = .tup [.nilS, .int .i64 130] := fun A => rfl
    have rT : ∀ A, freshB A 4 (.tup [.nilS, .int .i64 130]) = true := fun A => rfl
    simp [mf20, bx0, fT, rT, ct, lt, m47, ft, fo, -evBox, -evLoad, -evFieldAddr, -evLenSl, -frz, -cellsOf]
    rfl
end Go.Proofs.Ytemklhljjaniaaa
/-
  Cluster: few; the arguments of the law ClusterMatchesReference.
-/
namespace Go.Proofs.Ytemklhljjaniaaa
open Go
open Cy (GC CArc arcA arcsOf isPer ValidA okA smM smT lvM lvT VerOk RefOk Ready Pos frz_i frz_b intsA_len M12_eq idxZ idxZ_some idxZ_none)

theorem cut_sl {sz : Nat} {x : AV} {es : List AV} (hx : SlA sz es x) (n : Nat) : ∃ x', SlA sz (es.take n) x' ∧ ∀ A, evSliceSl sz A none (some (.int .i64 ((min es.length n : Nat) : Int))) x = some x' := by
  rcases hx with ⟨rfl, rfl⟩ | rfl
  · exact ⟨.nilS, .inl ⟨rfl, by simp⟩, fun A => by simp [evSliceSl, evBounds, hiB, loB]⟩
  · refine ⟨.fs sz (es.take n), .inr rfl, fun A => ?_⟩
    obtain ⟨q, hq⟩ : ∃ q, q = min es.length n := ⟨_, rfl⟩
    rw [← hq]
    have h : q ≤ es.length := by omega
    have e : evBounds es.length none (some (.int .i64 (q : Int))) = some (0, q) := by simp [evBounds, hiB, loB, h]
    simp only [evSliceSl, if_true, e, Option.map_some, List.drop_zero, Nat.sub_zero]
    congr 2
    rw [List.take_eq_take_iff]; omega
theorem minL_n (a n : Nat) : evMinL false (.int .i64 (a : Int)) [.int .i64 (n : Int)] = some (.int .i64 ((min a n : Nat) : Int)) := by
  by_cases h : (n : Int) < (a : Int)
  · rw [show min a n = n by omega]
    simp [evMinL, evMin2]; omega
  · rw [show min a n = a by omega]
    simp [evMinL, evMin2]; omega

/-! ### few -/
noncomputable def F12 : PModel := fun args => evP (envOf GC []) 0 mf12 4 args
theorem spec12 : PureSpec Try.prog GC 12 F12 := PureSpec.of_ev (E := envOf GC []) (envOf_sound lookM_nil) rfl at12 comp12 4 fun _ _ h => ⟨0, h⟩
set_option maxRecDepth 100000 in
set_option maxHeartbeats 1000000 in
theorem F12_eq {T : Tool} {chv : AV} (hcv : SlA 2 (T.ch.map chA) chv) : ∃ chv', SlA 2 ((T.ch.take 6).map chA) chv' ∧ F12 [toolA T chv, zA] = some (.tup [toolA { T with ch := T.ch.take 6 } chv', zA]) := by
  obtain ⟨chv', h1, sx⟩ := cut_sl hcv 6
  rw [← List.map_take] at h1
  refine ⟨chv', h1, ?_⟩
  have hlen := hcv.len
  rw [List.length_map] at hlen sx
  have mn : evMinL false (.int .i64 (T.ch.length : Int)) [.int .i64 6] = some (.int .i64 ((min T.ch.length 6 : Nat) : Int)) := minL_n T.ch.length 6
  have mn0 : evMinL false (.int .i64 0) [.int .i64 7] = some (.int .i64 0) := minL_n 0 7
  have mn1 : evMinL false (.int .i64 0) [.int .i64 12] = some (.int .i64 0) := minL_n 0 12
  have s0 : ∀ A, evSliceSl 1 A none (some (.int .i64 0)) .nilS = some .nilS := fun A => by simp [evSliceSl, evBounds, hiB, loB]
  have l0 : evLenSl .nilS = some (.int .i64 0) := rfl
  obtain ⟨ch, pk, pl, tr, bd⟩ := T
  simp only at hlen mn sx h1 ⊢
  obtain ⟨q, hq⟩ : ∃ q, q = min ch.length 6 := ⟨_, rfl⟩
  rw [← hq] at mn sx
  have fA : ∀ (c : AV) X, evFieldAddr 0 (.row 5 false [.agg [c, .int .i64 pk, .int .i64 pl, .int .i64 tr, .int .i64 bd]] :: X) (.ptr 0 0 0) = some (.ptr 0 0 0) := fun c X => rfl
  have ld : ∀ X, evLoad false 1 (.row 5 false [.agg [chv, .int .i64 pk, .int .i64 pl, .int .i64 tr, .int .i64 bd]] :: X) (.ptr 0 0 0) = some chv := fun X => rfl
  have st : ∀ X, evStore 1 (.row 5 false [.agg [chv, .int .i64 pk, .int .i64 pl, .int .i64 tr, .int .i64 bd]] :: X) (.ptr 0 0 0) chv' = some (.row 5 false [.agg [chv', .int .i64 pk, .int .i64 pl, .int .i64 tr, .int .i64 bd]] :: X) := fun X => by
    rcases h1 with ⟨rfl, _⟩ | rfl <;> simp [evStore, storeElem]
  have lT : ∀ X, evLoad true 5 (.row 5 false [.agg [chv', .int .i64 pk, .int .i64 pl, .int .i64 tr, .int .i64 bd]] :: X) (.ptr 0 0 0) = some (.agg [chv', .int .i64 pk, .int .i64 pl, .int .i64 tr, .int .i64 bd]) := fun X => rfl
  have f1 : ∀ a X j, j < 4 → evFieldAddr j (a :: .row 4 false [zA] :: X) (.ptr 1 0 0) = some (.ptr 1 0 j) := fun a X j hj => by simp [evFieldAddr, zA, hj]
  have ln : ∀ a X, evLoad false 1 (a :: .row 4 false [zA] :: X) (.ptr 1 0 1) = some .nilS ∧ evLoad false 1 (a :: .row 4 false [zA] :: X) (.ptr 1 0 2) = some .nilS ∧ evLoad false 1 (a :: .row 4 false [zA] :: X) (.ptr 1 0 3) = some .nilS := fun a X => ⟨rfl, rfl, rfl⟩
  have sn : ∀ a X, evStore 1 (a :: .row 4 false [zA] :: X) (.ptr 1 0 1) .nilS = some (a :: .row 4 false [zA] :: X) ∧ evStore 1 (a :: .row 4 false [zA] :: X) (.ptr 1 0 2) .nilS = some (a :: .row 4 false [zA] :: X) ∧ evStore 1 (a :: .row 4 false [zA] :: X) (.ptr 1 0 3) .nilS = some (a :: .row 4 false [zA] :: X) := fun a X => ⟨rfl, rfl, rfl⟩
  have lZ : ∀ a X, evLoad true 4 (a :: .row 4 false [zA] :: X) (.ptr 1 0 0) = some zA := fun a X => rfl
  have bx0 : evBox 5 (toolA ⟨ch, pk, pl, tr, bd⟩ chv) [] = some (.ptr 0 0 0, [.row 5 false [.agg [chv, .int .i64 pk, .int .i64 pl, .int .i64 tr, .int .i64 bd]]]) := rfl
  have ct : (cellsOf (toolA ⟨ch, pk, pl, tr, bd⟩ chv)).length = 5 := rfl
  have cz : (cellsOf zA).length = 4 := rfl
  have bx1 : ∀ a, evBox 4 zA [a] = some (.ptr 1 0 0, [a, .row 4 false [zA]]) := fun a => rfl
  have bx2 : ∀ a b, evBox 5 (.agg [.nilS, .int .i64 0, .int .i64 0, .int .i64 0, .int .i64 0]) [a, b] = some (.ptr 2 0 0, [a, b, .row 5 false [.agg [.nilS, .int .i64 0, .int .i64 0, .int .i64 0, .int .i64 0]]]) := fun a b => rfl
  have bx3 : ∀ a b c, evBox 4 (.agg [.int .i64 0, .nilS, .nilS, .nilS]) [a, b, c] = some (.ptr 3 0 0, [a, b, c, .row 4 false [zA]]) := fun a b c => rfl
  have sT : ∀ a b X, evStore 5 (a :: b :: .row 5 false [.agg [.nilS, .int .i64 0, .int .i64 0, .int .i64 0, .int .i64 0]] :: X) (.ptr 2 0 0) (.agg [chv', .int .i64 pk, .int .i64 pl, .int .i64 tr, .int .i64 bd]) = some (a :: b :: .row 5 false [.agg [chv', .int .i64 pk, .int .i64 pl, .int .i64 tr, .int .i64 bd]] :: X) := fun a b X => by
    rcases h1 with ⟨rfl, _⟩ | rfl <;> simp [evStore, storeElem]
  have sZ : ∀ a b c, evStore 4 [a, b, c, .row 4 false [zA]] (.ptr 3 0 0) zA = some [a, b, c, .row 4 false [zA]] := fun a b c => rfl
  have r2 : ∀ a b X, evLoad true 5 (a :: b :: .row 5 false [.agg [chv', .int .i64 pk, .int .i64 pl, .int .i64 tr, .int .i64 bd]] :: X) (.ptr 2 0 0) = some (.agg [chv', .int .i64 pk, .int .i64 pl, .int .i64 tr, .int .i64 bd]) := fun a b X => rfl
  have r3 : ∀ a b c, evLoad true 4 [a, b, c, .row 4 false [zA]] (.ptr 3 0 0) = some zA := fun a b c => rfl
  have fT : ∀ A, frz A 4 (.tup [.agg [chv', .int .i64 pk, .int .i64 pl, .int .i64 tr, .int .i64 bd], zA]) = .tup [.agg [chv', .int .i64 pk, .int .i64 pl, .int .i64 tr, .int .i64 bd], zA] := fun A => by
    have h2 := fun n => h1.frz (A := A) n
    simp [frz, h2, zA]
  rw [show toolA ⟨ch.take 6, pk, pl, tr, bd⟩ chv' = .agg [chv', .int .i64 pk, .int .i64 pl, .int .i64 tr, .int .i64 bd] from rfl]
  obtain ⟨t, ht⟩ : ∃ t, t = toolA ⟨ch, pk, pl, tr, bd⟩ chv := ⟨_, rfl⟩
  rw [← ht] at bx0 ct ⊢
  obtain ⟨Z, hZ⟩ : ∃ Z, Z = zA := ⟨_, rfl⟩
  simp only [← hZ] at f1 ln sn lZ cz bx1 bx3 sZ r3 fT ⊢
  unfold F12
  rw [evP_run _ _ rfl]
  simp [mf12, ct, cz, bx0, bx1, bx2, bx3, fA, ld, hlen, mn, sx, st, f1, ln, sn, l0, mn0, mn1, s0, lT, lZ, sT, sZ, r2, r3, fT, -evBin, -evLoad, -evStore, -evFieldAddr, -evBox, -evLenSl, -evSliceSl, -evMinL, -frz, -cellsOf]
end Go.Proofs.Ytemklhljjaniaaa
/-
  Cluster: the law ClusterMatchesReference, the loops.
-/
namespace Go.Proofs.Ytemklhljjaniaaa
open Go
open Cy (GC CArc arcA arcsOf isPer ValidA okA smM smT lvM lvT VerOk RefOk Ready Pos frz_i frz_b intsA_len M12_eq idxZ idxZ_some idxZ_none)

theorem outG_ap {B : Arena} {v : AV} {pl : List (Nat × List Int)} (h : OutG B v pl) {ov : AV} {ord : List Int} (ho : SlA 1 (intsA ord) ov) (hb : pl.length ≤ 1000) :
    ∃ id C, evAppend 1 24 B v (.fs 1 [ov]) = some (.sl id 0 (pl.length + 1), C) ∧ Step B C ∧ ∀ j (hj : j < (pl.map (·.2) ++ [ord]).length), ∃ e fe, evIndexSl 1 C (.sl id 0 (pl.length + 1)) (.int .i64 (j : Int)) = some (.ptr id j 0) ∧ evLoad false 1 C (.ptr id j 0) = some e ∧ frz C 4 e = fe ∧ SlA 1 (intsA (pl.map (·.2) ++ [ord])[j]) fe := by
  have key : ∃ id gr C, evAppend 1 24 B v (.fs 1 [ov]) = some (.sl id 0 (pl.length + 1), C) ∧ Step B C ∧ C[id]? = some (.row 1 gr (pl.map slOf ++ [ov])) ∧ ∀ x ∈ pl, x.2 ≠ [] ∧ ∃ g, C[x.1]? = some (.row 1 g (intsA x.2)) := by
    rcases h.2 with ⟨rfl, rfl⟩ | ⟨id, gr, rfl, hne, hr⟩
    · exact ⟨B.length, false, B ++ [.row 1 false [ov]], by simp [evAppend], Step.app _ _, by simp, fun x hx => by simp at hx⟩
    · have hidl := (List.getElem?_eq_some_iff.1 hr).1
      have hz : pl.length ≠ 0 := fun e => hne (List.length_eq_zero_iff.1 e)
      have hb2 : (pl.length + 1) * 24 ≤ 140737488355328 := by omega
      have hnp : ¬ plainE (.row 1 gr (pl.map slOf)) := by
        cases pl with
        | nil => exact absurd rfl hne
        | cons x r => exact not_plain_sl _ _ _ _ _ _
      have hst : Step B (B.set id (.row 1 true (pl.map slOf ++ [ov]))) := ⟨by simp, fun j e hj he => by
        have n2 : j ≠ id := fun e' => by
          subst e'; rw [hr] at hj; injection hj with hj; exact hnp (hj ▸ he)
        rw [List.getElem?_set_ne (fun e => n2 e.symm)]
        exact hj⟩
      refine ⟨id, true, B.set id (.row 1 true (pl.map slOf ++ [ov])), by simp [evAppend, hr, hz, hb2], hst, List.getElem?_set_self hidl, fun x hx => ?_⟩
      obtain ⟨h1, g, h2⟩ := h.1 x hx
      exact ⟨h1, g, hst.2 _ _ h2 (plain_ints h1 1 g)⟩
  obtain ⟨id, gr, C, k1, k2, k3, k4⟩ := key
  refine ⟨id, C, k1, k2, fun j hj => ?_⟩
  have hj2 : j < pl.length + 1 := by simpa using hj
  have hjm : j < (pl.map slOf ++ [ov]).length := by simpa using hj2
  obtain ⟨e, he⟩ : ∃ e, e = (pl.map slOf ++ [ov])[j] := ⟨_, rfl⟩
  have hge : (pl.map slOf ++ [ov])[j]? = some e := by rw [he]; exact List.getElem?_eq_getElem hjm
  have hS : ((∃ a b c, e = .sl a b c) ∨ e = .nilS ∨ ∃ a b, e = .fs a b) ∧ SlA 1 (intsA (pl.map (·.2) ++ [ord])[j]) (frz C 4 e) := by
    by_cases hjn : j < pl.length
    · have h1 : e = slOf pl[j] := by rw [he, List.getElem_append_left (by simpa using hjn)]; simp
      have h2 : (pl.map (·.2) ++ [ord])[j] = pl[j].2 := by rw [List.getElem_append_left (by simpa using hjn)]; simp
      obtain ⟨n1, g, n2⟩ := k4 _ (List.getElem_mem hjn)
      rw [h1, h2]
      refine ⟨.inl ⟨_, _, _, rfl⟩, ?_⟩
      show SlA 1 _ (frz C (3 + 1) (.sl pl[j].1 0 pl[j].2.length))
      rw [frz_ints n2]
      exact .inr rfl
    · have hjp : j = pl.length := by omega
      have h1 : e = ov := by rw [he, List.getElem_append_right (by simpa using hjp ▸ Nat.le_refl _)]; simp
      have h2 : (pl.map (·.2) ++ [ord])[j] = ord := by rw [List.getElem_append_right (by simpa using hjp ▸ Nat.le_refl _)]; simp
      rw [h1, h2, ho.frz]
      refine ⟨?_, ho⟩
      rcases ho with ⟨rfl, _⟩ | rfl
      · exact .inr (.inl rfl)
      · exact .inr (.inr ⟨_, _, rfl⟩)
  refine ⟨e, frz C 4 e, by simp [evIndexSl, k3]; omega, ?_, rfl, hS.2⟩
  rcases hS.1 with ⟨a, b, c, rfl⟩ | rfl | ⟨a, b, rfl⟩ <;> simp only [evLoad, k3, hge] <;> rfl

noncomputable def fsR : List (FuncId × HModel) := [(11, pureH 4 M11), (12, pureH 4 F12), (13, pureFH 4 M13), (14, pureFH 4 M14), (15, H15), (16, pureH 4 M16), (17, pureH 4 M17), (18, pureH 4 Cy.M18), (19, pureFH 4 M19), (20, pureFH 4 M20), (21, pureH 4 M21)]
@[simp] theorem fsR_11 : lookM fsR 11 = some (pureH 4 M11) := rfl
@[simp] theorem fsR_12 : lookM fsR 12 = some (pureH 4 F12) := rfl
@[simp] theorem fsR_13 : lookM fsR 13 = some (pureFH 4 M13) := rfl
@[simp] theorem fsR_14 : lookM fsR 14 = some (pureFH 4 M14) := rfl
@[simp] theorem fsR_15 : lookM fsR 15 = some H15 := rfl
@[simp] theorem fsR_16 : lookM fsR 16 = some (pureH 4 M16) := rfl
@[simp] theorem fsR_17 : lookM fsR 17 = some (pureH 4 M17) := rfl
@[simp] theorem fsR_18 : lookM fsR 18 = some (pureH 4 Cy.M18) := rfl
@[simp] theorem fsR_19 : lookM fsR 19 = some (pureFH 4 M19) := rfl
@[simp] theorem fsR_20 : lookM fsR 20 = some (pureFH 4 M20) := rfl
@[simp] theorem fsR_21 : lookM fsR 21 = some (pureH 4 M21) := rfl
set_option maxRecDepth 100000 in
theorem soundR : ∀ f M, lookM fsR f = some M → FnSpecY Try.prog GC f M := lookM_cons (FnSpecY.of_pure spec11 4) (lookM_cons (FnSpecY.of_pure spec12 4) (lookM_cons (FnSpecY.of_pureF spec13 4) (lookM_cons (FnSpecY.of_pureF spec14 4) (lookM_cons spec15H (lookM_cons (FnSpecY.of_pure spec16 4) (lookM_cons (FnSpecY.of_pure spec17 4) (lookM_cons (FnSpecY.of_pure Cy.spec18 4) (lookM_cons (FnSpecY.of_pureF spec19 4) (lookM_cons (FnSpecY.of_pureF spec20 4) (lookM_cons (FnSpecY.of_pure spec21 4) lookM_nil))))))))))

theorem arcs_len {T : Tool} {o : List Int} : ((arcsM T o).getD []).length ≤ 200 := by
  unfold arcsM
  split
  · rename_i hO
    obtain ⟨hv, hol, _, _⟩ := orders_mem hO
    have := hv.2.2.2.1
    simp only [Option.getD_some, arcsL]
    rw [List.length_append, arcsC_len]
    simp; omega
  · simp
set_option maxRecDepth 100000 in
set_option maxHeartbeats 4000000 in
theorem round3 {T : Tool} {chv : AV} (hcv : SlA 2 (T.ch.map chA) chv) (hl : T.ch.length ≤ 200) {A : Arena} {p id : Nat} (lt : evLoad true 5 A (.ptr p 0 0) = some (toolA T chv)) {j : Nat} {e fe : AV} {o : List Int}
    (hjn : j < (ordersM T).length + 1) (ix : evIndexSl 1 A (.sl id 0 ((ordersM T).length + 1)) (.int .i64 (j : Int)) = some (.ptr id j 0)) (le : evLoad false 1 A (.ptr id j 0) = some e) (fz : frz A 4 e = fe) (hfe : SlA 1 (intsA o) fe) (hol : o.length ≤ 200) (hoi : ∀ z ∈ o, inI z) (hoj : ∀ h : j < (ordersM T).length, o = (ordersM T)[j]) (v1 v17 v18 v19 : AV) :
    run (envOf GC fsR) 300 [.code lp3x0] (st3x0 v1 (.bool true) (.ptr p 0 0) (ordA (ordersM T)) (.sl id 0 ((ordersM T).length + 1)) (.int .i64 (j : Int)) v17 v18 v19) A =
      some (.normal (st3x0 v1 (.bool true) (.ptr p 0 0) (ordA (ordersM T)) (.sl id 0 ((ordersM T).length + 1)) (.int .i64 ((j + 1 : Nat) : Int)) v17 v18 v19) A) := by
  have m19 := M19_eq hcv hl hfe
  have m20 := M20_eq hcv hl hfe hol hoi
  have hll := orders_len T
  have ha := slA_holds 4 (((arcsM T o).getD []).map arcA)
  have m21 := M21_eq ha ha arcs_len arcs_len
  rw [decide_eq_true rfl] at m21
  have hio : intsOf fe = some o := intsOf_of hfe (by omega) hoi
  have ft := toolA_frz (T := T) (fun A n => hcv.frz (A := A) n) A 3
  have nt := toolA_noRef (T := T) (fun n => hcv.noRef n) 3
  have fw : frz A 4 (slA 4 (((arcsM T o).getD []).map arcA)) = slA 4 (((arcsM T o).getD []).map arcA) := ha.frz 4
  obtain ⟨W, hW⟩ : ∃ W, W = slA 4 (((arcsM T o).getD []).map arcA) := ⟨_, rfl⟩
  obtain ⟨q, hq⟩ : ∃ q : Int, q = (if (arcsM T o).isSome then 0 else 130) := ⟨_, rfl⟩
  have hT : arcsT (arcsM T o) = .tup [W, .int .i64 q] := by rw [hW, hq]; rfl
  rw [hT] at m19 m20
  rw [← hW] at m21 fw
  have hb := slA_holds 1 ((ordersM T).map fun l => slA 1 (intsA l))
  rw [show slA 1 ((ordersM T).map fun l => slA 1 (intsA l)) = ordA (ordersM T) from rfl] at hb
  have hlen := hb.len
  rw [List.length_map] at hlen
  have hl2 : ∀ k, evLenSl (.sl id 0 k) = some (.int .i64 (k : Int)) := fun k => rfl
  have b0 := lt_nat j ((ordersM T).length + 1) .i64
  rw [decide_eq_true hjn] at b0
  have b1 := lt_nat j (ordersM T).length .i64
  have b2 := add1_nat j (by omega)
  have b3 := evNeqI q q
  rw [decide_eq_false (by simp)] at b3
  obtain ⟨t, ht⟩ : ∃ t, t = toolA T chv := ⟨_, rfl⟩
  rw [← ht] at m19 m20 ft nt lt
  obtain ⟨j1, hj1⟩ : ∃ n, n = j + 1 := ⟨_, rfl⟩
  rw [← hj1] at b2 ⊢
  by_cases hjL : j < (ordersM T).length
  · have he : ((ordersM T).map fun l => slA 1 (intsA l))[j]? = some (slA 1 (intsA (ordersM T)[j])) := by simp [hjL]
    obtain ⟨q1, q2⟩ := slA_form (ordersM T)[j]
    have x1 := hb.index1 (A := A) he q1 q2 .i64
    rw [← hoj hjL] at x1
    have hs := slA_holds 1 (intsA o)
    have m18 := M18_eq (intsOf_of hs (by omega) hoi) hio
    rw [decide_eq_true rfl] at m18
    have fo : frz A 4 (slA 1 (intsA o)) = slA 1 (intsA o) := hs.frz 4
    rw [decide_eq_true hjL] at b1
    obtain ⟨Q, hQ⟩ : ∃ Q, Q = ordA (ordersM T) := ⟨_, rfl⟩
    rw [← hQ] at x1 hlen ⊢
    obtain ⟨N, hN⟩ : ∃ Q, Q = (ordersM T).length := ⟨_, rfl⟩
    rw [← hN] at hlen b0 b1 ix ⊢
    obtain ⟨N1, hN1⟩ : ∃ Q, Q = N + 1 := ⟨_, rfl⟩
    rw [← hN1] at b0 ix ⊢
    obtain ⟨V, hV⟩ : ∃ V, V = slA 1 (intsA o) := ⟨_, rfl⟩
    rw [← hV] at x1 m18 fo
    simp [lp3x0, lt, ft, x1, ix, le, fz, fo, fw, m18, m19, m20, m21, hlen, hl2, b0, b1, b2, b3, -evBin, -evLoad, -evIndexSl, -evLenSl, -frz]
  · rw [decide_eq_false hjL] at b1
    obtain ⟨Q, hQ⟩ : ∃ Q, Q = ordA (ordersM T) := ⟨_, rfl⟩
    rw [← hQ] at hlen ⊢
    obtain ⟨N, hN⟩ : ∃ Q, Q = (ordersM T).length := ⟨_, rfl⟩
    rw [← hN] at hlen b0 b1 ix ⊢
    obtain ⟨N1, hN1⟩ : ∃ Q, Q = N + 1 := ⟨_, rfl⟩
    rw [← hN1] at b0 ix ⊢
    simp [lp3x0, lt, ft, ix, le, fz, fw, m19, m20, m21, hlen, hl2, b0, b1, b2, b3, -evBin, -evLoad, -evIndexSl, -evLenSl, -frz]
end Go.Proofs.Ytemklhljjaniaaa
/-
  Cluster: the law ClusterMatchesReference, run.
-/
namespace Go.Proofs.Ytemklhljjaniaaa
open Go
open Cy (GC CArc arcA arcsOf isPer ValidA okA smM smT lvM lvT VerOk RefOk Ready Pos frz_i frz_b intsA_len M12_eq idxZ idxZ_some idxZ_none)

theorem loop3 {T : Tool} {chv : AV} (hcv : SlA 2 (T.ch.map chA) chv) (hl : T.ch.length ≤ 200) {A : Arena} {p id : Nat} (lt : evLoad true 5 A (.ptr p 0 0) = some (toolA T chv)) {ord : List Int} (hol : ord.length ≤ 200) (hoi : ∀ z ∈ ord, inI z)
    (H : ∀ j (hj : j < (ordersM T ++ [ord]).length), ∃ e fe, evIndexSl 1 A (.sl id 0 ((ordersM T).length + 1)) (.int .i64 (j : Int)) = some (.ptr id j 0) ∧ evLoad false 1 A (.ptr id j 0) = some e ∧ frz A 4 e = fe ∧ SlA 1 (intsA (ordersM T ++ [ord])[j]) fe) (v1 v17 v18 v19 : AV) :
    ∀ (c j m : Nat), j + c = (ordersM T).length + 1 → c < m →
    iter (evC (envOf GC fsR) 300 lp3x0) mask3x0 m (st3x0 v1 (.bool true) (.ptr p 0 0) (ordA (ordersM T)) (.sl id 0 ((ordersM T).length + 1)) (.int .i64 (j : Int)) v17 v18 v19) A =
      some (.exit 2 ((st3x0 v1 (.bool true) (.ptr p 0 0) (ordA (ordersM T)) (.sl id 0 ((ordersM T).length + 1)) (.int .i64 (((ordersM T).length + 1 : Nat) : Int)) v17 v18 v19).set 22 (.bool false)) A) := by
  intro c
  induction c with
  | zero =>
    intro j m hj hm
    obtain ⟨m, rfl⟩ : ∃ j, m = j + 1 := ⟨m - 1, by omega⟩
    obtain rfl : j = (ordersM T).length + 1 := by omega
    have hl2 : ∀ k, evLenSl (.sl id 0 k) = some (.int .i64 (k : Int)) := fun k => rfl
    have b0 := lt_nat ((ordersM T).length + 1) ((ordersM T).length + 1) .i64
    rw [decide_eq_false (by omega)] at b0
    obtain ⟨n1, hn1⟩ : ∃ n, n = (ordersM T).length + 1 := ⟨_, rfl⟩
    rw [← hn1] at b0 ⊢
    rw [iter_succ, cl3x0]
    simp [lp3x0, b0, hl2, -evBin, -evLenSl]
  | succ c ih =>
    intro j m hj hm
    obtain ⟨m, rfl⟩ : ∃ j, m = j + 1 := ⟨m - 1, by omega⟩
    have hjl : j < (ordersM T ++ [ord]).length := by simp; omega
    obtain ⟨e, fe, ix, le, fz, hfe⟩ := H j hjl
    have hob : (ordersM T ++ [ord])[j].length ≤ 200 ∧ ∀ z ∈ (ordersM T ++ [ord])[j], inI z := by
      by_cases hjn : j < (ordersM T).length
      · rw [List.getElem_append_left hjn]
        have h0 := List.getElem_mem hjn
        have h1 := orders_mem h0
        have h2 := orders_bd h0
        have h3 := h1.1.2.2.2.1
        exact ⟨by have := h1.2.1; omega, fun z hz => by have := h2 z hz; unfold inI; omega⟩
      · rw [List.getElem_append_right (by omega)]
        simpa using ⟨hol, hoi⟩
    rw [iter_succ, cl3x0, round3 hcv hl lt (by omega) ix le fz hfe hob.1 hob.2 (fun h => List.getElem_append_left h) v1 v17 v18 v19]
    exact ih (j + 1) m (by omega) (by omega)

set_option maxRecDepth 100000 in
set_option maxHeartbeats 4000000 in
theorem round3b {T : Tool} {chv : AV} (hcv : SlA 2 (T.ch.map chA) chv) (hl : T.ch.length ≤ 200) {A : Arena} {q i : Nat} (ix : evIndexSl 5 A (.sl q 0 2) (.int .i64 (i : Int)) = some (.ptr q i 0)) (ld : evLoad true 5 A (.ptr q i 0) = some (toolA T chv)) (hi : i < 2) {ov : AV} {ord : List Int} (ho : SlA 1 (intsA ord) ov) (hol : ord.length ≤ 200) (hoi : ∀ z ∈ ord, inI z) :
    ∃ B, run (envOf GC fsR) 300 [.code lp3x1] (st3x1 ov (.bool true) (.sl q 0 2) (.int .i64 2) (.int .i64 (i : Int))) A =
      some (.normal (st3x1 ov (.bool true) (.sl q 0 2) (.int .i64 2) (.int .i64 ((i + 1 : Nat) : Int))) B) ∧ Step A B := by
  have m14 := M14_eq hcv hl
  have m16 := M16_eq hcv hl
  have m17 := M17_eq hcv hl
  have ft := fun A => toolA_frz (T := T) (fun A n => hcv.frz (A := A) n) A 3
  have nt := toolA_noRef (T := T) (fun n => hcv.noRef n) 3
  obtain ⟨p, hpe⟩ : ∃ p, p = A.length := ⟨_, rfl⟩
  obtain ⟨A1, hA1⟩ : ∃ B, B = A ++ [Ent.row 5 false [toolA T chv]] := ⟨_, rfl⟩
  have bx : evBox 5 (.agg [.nilS, .int .i64 0, .int .i64 0, .int .i64 0, .int .i64 0]) A = some (.ptr p 0 0, A ++ [.row 5 false [.agg [.nilS, .int .i64 0, .int .i64 0, .int .i64 0, .int .i64 0]]]) := by rw [hpe]; rfl
  have sA : evStore 5 (A ++ [.row 5 false [.agg [.nilS, .int .i64 0, .int .i64 0, .int .i64 0, .int .i64 0]]]) (.ptr p 0 0) (toolA T chv) = some A1 := by
    rw [hpe, hA1]
    rcases hcv with ⟨rfl, _⟩ | rfl <;> simp [evStore, storeElem, toolA]
  have hp : A1[p]? = some (.row 5 false [toolA T chv]) := by rw [hpe, hA1]; simp
  have plT : plainE (.row 5 false [toolA T chv]) := by simp [plainE, toolA]
  have ldp : ∀ {X : Arena}, X[p]? = some (.row 5 false [toolA T chv]) → evLoad true 5 X (.ptr p 0 0) = some (toolA T chv) := fun {X} h => by simp [evLoad, h, toolA, loadElem_agg]
  have lt1 := ldp hp
  obtain ⟨v, B, pl, h15, hO, hpl, hs1⟩ := H15_eq (fun _ _ _ => none) A1 hcv hl
  have lt2 := ldp (hs1.2 _ _ hp plT)
  have hpn : pl.length = (ordersM T).length := by rw [← hpl]; simp
  have hv : evLenSl v = some (.int .i64 ((ordersM T).length : Int)) := by
    rw [← hpn]
    rcases hO.2 with ⟨rfl, rfl⟩ | ⟨id, gr, rfl, _, _⟩ <;> rfl
  have hob := orders_len T
  obtain ⟨id, C, ap, hs2, H⟩ := outG_ap hO ho (by omega)
  rw [hpn] at ap
  simp only [hpl, hpn] at H
  have lt3 := ldp (hs2.2 _ _ (hs1.2 _ _ hp plT) plT)
  have lp := loop3 hcv hl lt3 hol hoi H ov (.sl q 0 2) (.int .i64 2) (.int .i64 (i : Int)) ((ordersM T).length + 1) 0 300 (by omega) (by omega)
  refine ⟨C, ?_, ((by rw [hA1]; exact Step.app _ _ : Step A A1).trans hs1).trans hs2⟩
  have hlen : evLenSl (ordA (ordersM T)) = some (.int .i64 ((ordersM T).length : Int)) := by
    have := (slA_holds 1 ((ordersM T).map fun l => slA 1 (intsA l))).len
    rwa [List.length_map] at this
  have fO : ∀ A, frz A 4 (ordA (ordersM T)) = ordA (ordersM T) := fun A => (slA_holds 1 _).frz 4
  have b0 : evBin .lss (.int .i64 (i : Int)) (.int .i64 2) = some (.bool true) := by rw [evLssI, decide_eq_true (by omega)]
  have b1 := add1_nat i (by omega)
  have b2 := evNeqI ((ordersM T).length : Int) ((ordersM T).length : Int)
  rw [decide_eq_false (by simp)] at b2
  have lp : iter (evC (envOf GC fsR) 300 lp3x0) mask3x0 300 (st3x0 ov (.bool true) (.ptr p 0 0) (ordA (ordersM T)) (.sl id 0 ((ordersM T).length + 1)) (.int .i64 0) (.sl q 0 2) (.int .i64 2) (.int .i64 (i : Int))) C = _ := lp
  have cov : cellsOf ov = [ov] ∧ ov.solid = true := by rcases ho with ⟨rfl, _⟩ | rfl <;> exact ⟨rfl, rfl⟩
  have bF : evBuildF 1 [ov] = some (.fs 1 [ov]) := by
    rcases ho with ⟨rfl, _⟩ | rfl <;> rfl
  obtain ⟨i1, hi1⟩ : ∃ n, n = i + 1 := ⟨_, rfl⟩
  rw [← hi1] at b1 ⊢
  obtain ⟨d, hd⟩ : ∃ d, d = decide (ValidC T) := ⟨_, rfl⟩
  rw [← hd] at m16 m17
  obtain ⟨t, ht⟩ : ∃ t, t = toolA T chv := ⟨_, rfl⟩
  rw [← ht] at m14 m16 m17 ft nt ld sA lt1 lt2 lt3 h15
  obtain ⟨Q, hQ⟩ : ∃ Q, Q = ordA (ordersM T) := ⟨_, rfl⟩
  rw [← hQ] at m14 hlen fO lp
  obtain ⟨N, hN⟩ : ∃ Q, Q = (ordersM T).length := ⟨_, rfl⟩
  rw [← hN] at hlen hv ap b2 lp
  obtain ⟨N1, hN1⟩ : ∃ Q, Q = N + 1 := ⟨_, rfl⟩
  rw [← hN1] at ap lp
  have hk : ∀ r : AV, keptB B (some (r, B)) p = true := fun r => by simp [keptB]
  cases d <;> simp [lp3x1, ix, ld, bx, sA, lt1, lt2, ft, nt, m14, m16, m17, h15, hv, hlen, b0, b1, b2, bF, ap, hk, go3x0 lp, -evBin, -evLoad, -evStore, -evBox, -evIndexSl, -evLenSl, -evBuildF, -frz]
end Go.Proofs.Ytemklhljjaniaaa
/-
  Cluster: the law ClusterMatchesReference.
-/
namespace Go.Proofs.Ytemklhljjaniaaa
open Go
open Cy (GC CArc arcA arcsOf isPer ValidA okA smM smT lvM lvT VerOk RefOk Ready Pos frz_i frz_b intsA_len M12_eq idxZ idxZ_some idxZ_none)

set_option maxRecDepth 100000 in
theorem ch_arg {x : AV} {n : Nat} (h : TA Try.prog (n + 2) 60 x) : ∃ y : Int × Int, x = chA y ∧ inI y.1 ∧ inI y.2 := by
  obtain ⟨ls, rfl, hc, hl⟩ := TA.agg (show aggT Try.prog 60 = true by kernel_rfl) h
  unfold TC at hc
  rw [Try.underlying60] at hc
  simp only [TCs] at hc
  obtain ⟨a, _, rfl, ha, la, b, _, rfl, hb, lb, rfl⟩ := hc
  simp only [TC, Try.underlying3] at ha hb
  obtain ⟨z, rfl, hz⟩ := ha
  obtain ⟨w, rfl, hw⟩ := hb
  exact ⟨(z, w), rfl, hz, hw⟩
set_option maxRecDepth 100000 in
theorem tool_arg {x : AV} {n : Nat} (h : TA Try.prog (n + 4) 24 x) : ∃ T chv, x = toolA T chv ∧ SlA 2 (T.ch.map chA) chv := by
  obtain ⟨ls, rfl, hc, hl⟩ := TA.agg (show aggT Try.prog 24 = true by kernel_rfl) h
  rw [show n + 4 = (n + 3) + 1 from rfl] at hc
  unfold TC at hc
  rw [Try.underlying24] at hc
  simp only [TCs] at hc
  obtain ⟨a, _, rfl, ha, la, b, _, rfl, hb, lb, c, _, rfl, hc, lc, d, _, rfl, hd, ld, e, _, rfl, he, le, rfl⟩ := hc
  rw [show Try.prog.cellsOf 22 = 1 by kernel_rfl] at la
  obtain ⟨chv, rfl⟩ := List.length_eq_one_iff.1 la
  obtain ⟨es, h1, h2, h3⟩ := TA.sl Try.underlying22 (n := n + 2) (a := chv) ⟨[chv], ha, by rw [show Try.prog.cellsOf 22 = 1 by kernel_rfl]; rfl, by
    unfold wholeA
    rw [if_neg (by rw [show aggT Try.prog 22 = false by kernel_rfl]; simp)]; rfl⟩
  rw [show Try.prog.cellsOf 60 = 2 by kernel_rfl] at h1
  obtain ⟨ys, rfl, hy⟩ := map_of_forall (f := chA) (p := fun y => inI y.1 ∧ inI y.2) fun x hx => ch_arg (n := n) (h3 x hx)
  simp only [TC, Try.underlying3] at hb hc hd he
  obtain ⟨z1, rfl, _⟩ := hb
  obtain ⟨z2, rfl, _⟩ := hc
  obtain ⟨z3, rfl, _⟩ := hd
  obtain ⟨z4, rfl, _⟩ := he
  exact ⟨⟨ys, z1, z2, z3, z4⟩, chv, rfl, h1⟩

set_option maxRecDepth 100000 in
set_option maxHeartbeats 4000000 in
theorem ev3 {T : Tool} {chv ov yv : AV} {ord : List Int} {x : X5} {ys : List (Int × Int)} (hcv : SlA 2 (T.ch.map chA) chv) (ho : SlA 1 (intsA ord) ov) (hoi : ∀ z ∈ ord, inI z) (hx : x.inR) (hys : ∀ y ∈ ys, inI y.1 ∧ inI y.2) (hy : SlA 2 (ys.map chA) yv) :
    evP (envOf GC fsR) 300 mf3 1 [toolA T chv, ov, x5A x, yv] = some (.bool true) := by
  obtain ⟨cv6, h6, f12⟩ := F12_eq hcv
  obtain ⟨T6, hT6⟩ : ∃ T', T' = ({ T with ch := T.ch.take 6 } : Tool) := ⟨_, rfl⟩
  have h6 : SlA 2 (T6.ch.map chA) cv6 := by rw [hT6]; exact h6
  have hl6 : T6.ch.length ≤ 200 := by rw [hT6]; simp; omega
  rw [← hT6] at f12
  have m13 := M13_eq hx hys hy
  have mch := mk_ch x ys
  have mlen := mk_len x ys
  obtain ⟨ov7, h7, sx⟩ := cut_sl ho 7
  have hlo := ho.len
  rw [intsA_len] at hlo sx
  have h7 : SlA 1 (intsA (ord.take 7)) ov7 := by
    have e : (intsA ord).take 7 = intsA (ord.take 7) := by unfold intsA; rw [List.map_take]
    rw [← e]; exact h7
  have hi7 : ∀ z ∈ ord.take 7, inI z := fun z hz => hoi z (List.mem_of_mem_take hz)
  have hl7 : (ord.take 7).length ≤ 200 := by simp; omega
  have mn : evMinL false (.int .i64 (ord.length : Int)) [.int .i64 7] = some (.int .i64 ((min ord.length 7 : Nat) : Int)) := minL_n ord.length 7
  -- the memory
  have mkE : mkA x ys = toolA (makeT x ys) (slA 2 ((makeT x ys).ch.map chA)) := rfl
  obtain ⟨A5, hA5⟩ : ∃ A, A = [Ent.row 5 false [toolA T chv], .row 5 false [x5A x], .row 5 false [toolA T6 cv6], .row 4 false [zA], .row 5 false [toolA T6 cv6, mkA x ys]] := ⟨_, rfl⟩
  have g4 : A5[4]? = some (.row 5 false [toolA T6 cv6, mkA x ys]) := by rw [hA5]; rfl
  have pl4 : plainE (.row 5 false [toolA T6 cv6, mkA x ys]) := by simp [plainE, toolA]
  have ix : ∀ {A : Arena} {i : Nat}, A[4]? = some (.row 5 false [toolA T6 cv6, mkA x ys]) → i < 2 → evIndexSl 5 A (.sl 4 0 2) (.int .i64 (i : Int)) = some (.ptr 4 i 0) := fun {A i} h hi => by simp [evIndexSl, h]; omega
  have ld0 : ∀ {A : Arena}, A[4]? = some (.row 5 false [toolA T6 cv6, mkA x ys]) → evLoad true 5 A (.ptr 4 0 0) = some (toolA T6 cv6) := fun {A} h => by simp [evLoad, h, toolA, loadElem_agg]
  have ld1 : ∀ {A : Arena}, A[4]? = some (.row 5 false [toolA T6 cv6, mkA x ys]) → evLoad true 5 A (.ptr 4 1 0) = some (toolA (makeT x ys) (slA 2 ((makeT x ys).ch.map chA))) := fun {A} h => by simp [evLoad, h, mkE, toolA, loadElem_agg]
  obtain ⟨B1, r1, s1⟩ := round3b h6 hl6 (ix g4 (i := 0) (by omega)) (ld0 g4) (by omega) h7 hl7 hi7
  have g41 := s1.2 _ _ g4 pl4
  obtain ⟨B2, r2, s2⟩ := round3b mch (by omega) (ix g41 (i := 1) (by omega)) (ld1 g41) (by omega) h7 hl7 hi7
  have lp : iter (evC (envOf GC fsR) 300 lp3x1) mask3x1 300 (st3x1 ov7 (.bool true) (.sl 4 0 2) (.int .i64 2) (.int .i64 0)) A5 = some (.exit 0 ((st3x1 ov7 (.bool true) (.sl 4 0 2) (.int .i64 2) (.int .i64 2)).set 20 (.bool false)) B2) := by
    have b0 : evBin .lss (.int .i64 2) (.int .i64 2) = some (.bool false) := by rw [evLssI]; rfl
    have r1 : run (envOf GC fsR) 300 [.code lp3x1] (st3x1 ov7 (.bool true) (.sl 4 0 2) (.int .i64 2) (.int .i64 0)) A5 = some (.normal (st3x1 ov7 (.bool true) (.sl 4 0 2) (.int .i64 2) (.int .i64 1)) B1) := r1
    have r2 : run (envOf GC fsR) 300 [.code lp3x1] (st3x1 ov7 (.bool true) (.sl 4 0 2) (.int .i64 2) (.int .i64 1)) B1 = some (.normal (st3x1 ov7 (.bool true) (.sl 4 0 2) (.int .i64 2) (.int .i64 2)) B2) := r2
    rw [show (300 : Nat) = 297 + 1 + 1 + 1 from rfl]
    rw [iter_succ, cl3x1, show (297 + 1 + 1 + 1 : Nat) = 300 from rfl, r1]
    simp only
    rw [iter_succ, cl3x1, r2]
    simp only
    rw [iter_succ, cl3x1]
    simp [lp3x1, b0, -evBin]
  -- the run
  have ft := fun A => toolA_frz (T := T) (fun A n => hcv.frz (A := A) n) A 3
  have nt := toolA_noRef (T := T) (fun n => hcv.noRef n) 3
  have fx : ∀ A, frz A 4 (x5A x) = x5A x := fun A => by simp [x5A, frz]
  have fy : ∀ A, frz A 4 yv = yv := fun A => hy.frz 4
  have fz : ∀ A, frz A 4 zA = zA := fun A => by simp [zA, frz]
  have nz : noRefB 4 zA = true := rfl
  have f6 := fun A => toolA_frz (T := T6) (fun A n => h6.frz (A := A) n) A 3
  have bx0 : evBox 5 (toolA T chv) [] = some (.ptr 0 0 0, [.row 5 false [toolA T chv]]) := rfl
  have bx1 : ∀ t : AV, evBox 5 (x5A x) [.row 5 false [t]] = some (.ptr 1 0 0, [.row 5 false [t], .row 5 false [x5A x]]) := fun t => rfl
  have ct : (cellsOf (toolA T chv)).length = 5 := rfl
  have cx : (cellsOf (x5A x)).length = 5 := rfl
  have lt0 : ∀ X, evLoad true 5 (.row 5 false [toolA T chv] :: X) (.ptr 0 0 0) = some (toolA T chv) := fun X => rfl
  have lx : ∀ a X, evLoad true 5 (a :: .row 5 false [x5A x] :: X) (.ptr 1 0 0) = some (x5A x) := fun a X => rfl
  have bx2 : ∀ a b : Ent, evBox 5 (.agg [.nilS, .int .i64 0, .int .i64 0, .int .i64 0, .int .i64 0]) [a, b] = some (.ptr 2 0 0, [a, b, .row 5 false [.agg [.nilS, .int .i64 0, .int .i64 0, .int .i64 0, .int .i64 0]]]) := fun a b => rfl
  have bx3 : ∀ a b c : Ent, evBox 4 (.agg [.int .i64 0, .nilS, .nilS, .nilS]) [a, b, c] = some (.ptr 3 0 0, [a, b, c, .row 4 false [zA]]) := fun a b c => rfl
  have sT : ∀ a b X, evStore 5 (a :: b :: .row 5 false [.agg [.nilS, .int .i64 0, .int .i64 0, .int .i64 0, .int .i64 0]] :: X) (.ptr 2 0 0) (toolA T6 cv6) = some (a :: b :: .row 5 false [toolA T6 cv6] :: X) := fun a b X => by
    rcases h6 with ⟨rfl, _⟩ | rfl <;> simp [evStore, storeElem, toolA]
  have sZ : ∀ a b c, evStore 4 [a, b, c, .row 4 false [zA]] (.ptr 3 0 0) zA = some [a, b, c, .row 4 false [zA]] := fun a b c => rfl
  have lt2 : ∀ a b X, evLoad true 5 (a :: b :: .row 5 false [toolA T6 cv6] :: X) (.ptr 2 0 0) = some (toolA T6 cv6) := fun a b X => rfl
  have bS : ∀ a b c d, evBuildSlice 5 [toolA T6 cv6, mkA x ys] [a, b, c, d] = some (.sl 4 0 2, [a, b, c, d, .row 5 false [toolA T6 cv6, mkA x ys]]) := fun a b c d => by
    rcases h6 with ⟨rfl, _⟩ | rfl <;> simp [evBuildSlice, toolA, mkE]
  have hl2 : evLenSl (.sl 4 0 2) = some (.int .i64 2) := rfl
  obtain ⟨q, hq⟩ : ∃ q, q = min ord.length 7 := ⟨_, rfl⟩
  rw [← hq] at mn sx
  obtain ⟨M, hM⟩ : ∃ M, M = mkA x ys := ⟨_, rfl⟩
  rw [← hM] at m13 hA5
  simp only [← hM] at bS
  obtain ⟨t, ht⟩ : ∃ t, t = toolA T chv := ⟨_, rfl⟩
  rw [← ht] at ft nt f12 ct bx0 hA5 ⊢
  simp only [← ht] at lt0
  obtain ⟨t6, ht6⟩ : ∃ t, t = toolA T6 cv6 := ⟨_, rfl⟩
  rw [← ht6] at f12 hA5
  simp only [← ht6] at f6 sT lt2 bS
  obtain ⟨X, hX⟩ : ∃ X, X = x5A x := ⟨_, rfl⟩
  rw [← hX] at m13 cx hA5 ⊢
  simp only [← hX] at fx bx1 lx
  have hz : AV.agg [.int .i64 0, .nilS, .nilS, .nilS] = zA := rfl
  obtain ⟨Z, hZ⟩ : ∃ Z, Z = zA := ⟨_, rfl⟩
  rw [← hZ] at f12 hA5 hz nz
  simp only [← hZ] at fz bx3 sZ
  rw [hA5] at lp
  rw [hz] at bx3
  rw [evP_run _ _ rfl]
  simp [mf3, bx0, bx1, bx2, bx3, ct, cx, lt0, lx, ft, fx, fy, fz, nt, nz, f12, hz, sT, sZ, hlo, mn, sx, lt2, m13, bS, hl2, go3x1 lp, frz_b, -evBin, -evLoad, -evStore, -evBox, -evLenSl, -evSliceSl, -evMinL, -evBuildSlice, -frz, -cellsOf]
theorem ev3L (args : List AV) (h : LawArgs Try.prog 8 Try.f3.params.toList args) : ∃ fuel, evP (envOf GC fsR) fuel mf3 1 args = some (.bool true) := by
  rw [Try.params3] at h
  obtain ⟨a, r, rfl, h0, h⟩ := h.cons
  obtain ⟨b, r, rfl, h1, h⟩ := h.cons
  obtain ⟨c, r, rfl, h2, h⟩ := h.cons
  obtain ⟨d, r, rfl, h3, h⟩ := h.cons
  obtain rfl := h.nil
  obtain ⟨T, chv, rfl, hcv⟩ := tool_arg (n := 4) h0
  obtain ⟨ord, ho, _, hoi⟩ := ints_arg (n := 7) h1
  obtain ⟨x, rfl, hx⟩ := x5_arg (n := 6) h2
  obtain ⟨ys, hy, hys, _⟩ := twos_arg (n := 5) h3
  exact ⟨300, ev3 hcv ho hoi hx hys hy⟩
end Go.Proofs.Ytemklhljjaniaaa
