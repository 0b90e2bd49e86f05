/-
  What the proof is built on (L40 to L42).
-/
import Derived.Test.YtfidjdlmmcaplaaT06
/-
  Link: MatchesReference, a call, whole.
-/
namespace Go.Proofs.Ytfidjdlmmcaplaa
open Go

theorem M15_nat {a : Int} {n : Nat} (ha : inI a) (hn : 0 < n) : ∃ k : Nat, k < n ∧ M15 [.int .i64 a, .int .i64 (n : Int)] = some (.int .i64 (k : Int)) := by
  have h := pick_range a n (by omega)
  refine ⟨(pick a n).toNat, by omega, ?_⟩
  rw [M15_eq ha (by omega)]
  congr 2
  omega
def z0F : FrS := ⟨0, 0, 0, 0, []⟩
set_option maxRecDepth 100000 in
set_option maxHeartbeats 16000000 in
theorem qDef {K : List KC} {A : Arena} {P : List Nat} {pa pb y : Nat} {fv v0 v1 v3 v12 v27 v28 v32 v34 v37 : AV} {S : Nat → EndS} {fl : List (Nat × FrS)} (h : Inv A P pa pb fv S S fl) (hy : y ∈ P) {c0 c1 c2 : Int} (hr : A[y]? = some (row3 c0 c1 c2)) (hc0 : inI c0) (hc2 : inI c2) {rs : List FrS} (hv1 : SlA 5 (rs.map frA) v1) (hfl : ∀ x ∈ fl, x.1 < 2) {s n : Nat} (hs : s < 2) (hw : ∀ t, t < 2 → Wf n (S t)) (hn : n ≤ 200) :
    ∃ B S', run (envOf GW fsM) 300 (.code QDEF :: .blk 4 :: .code QKILL4 :: K) (sq v0 v1 v3 (.ptr pa 0 0) (.ptr pb 0 0) fv v12 (.ptr y 0 0) (.int .i64 (s : Int)) v27 v28 v32 v34 v37) A = run (envOf GW fsM) 300 K (st3x2 v0 v1 v3 (.ptr pa 0 0) (.ptr pb 0 0) fv v12 (.ptr y 0 0) .undef) B ∧
      Inv B P pa pb fv S' S' fl ∧ (∀ t, t < 2 → Wf (n + 1) (S' t)) ∧ ∀ j, j ∈ P → B[j]? = A[j]? := by
  obtain ⟨A1, hA1⟩ : ∃ A1, A1 = A ++ [Ent.row 6 false [flA (s, z0F)]] := ⟨_, rfl⟩
  have F1 : Fr A A1 [] := by rw [hA1]; exact Fr.app _ _ _
  have l1 : A1.length = A.length + 1 := by rw [hA1]; simp
  obtain ⟨i1, p1', _, _⟩ := h.more F1 [A.length] (fun j hj => by simp at hj; omega)
  have rw1 : A1[A.length]? = some (.row 6 false [flA (s, z0F)]) := by rw [hA1]; simp
  have hr1 : A1[y]? = some (.row 3 false [.agg [.int .i64 c0, .int .i64 c1, .int .i64 c2]]) := (p1' y hy).trans hr
  have hP1 : ∀ j, j ∈ P → j < A.length := fun j hj => by
    obtain ⟨_, _, _, _, _, _, _, h0⟩ := h
    exact (h0.p j hj).2
  have m0 := M15_eq hc0 (show (0 : Int) < 10 by omega)
  have b0 := evEql (pick c0 10) 8
  have hn1 := hv1.len
  rw [List.length_map] at hn1
  have b1 := evGtr (rs.length : Int) 0
  obtain ⟨gs, _⟩ := i1.frames
  have hn2 := gs.len
  rw [List.length_map] at hn2
  have b2 := evGtr (fl.length : Int) 0
  -- the end of it
  have fin : ∀ (t : Nat) (g : FrS) (A2 : Arena) (v29 v30 : AV), t < 2 → A2 = A1.set A.length (.row 6 false [flA (t, g)]) →
      run (envOf GW fsM) 300 (.code QDEF :: .blk 4 :: .code QKILL4 :: K) (sq v0 v1 v3 (.ptr pa 0 0) (.ptr pb 0 0) fv v12 (.ptr y 0 0) (.int .i64 (s : Int)) v27 v28 v32 v34 v37) A =
        run (envOf GW fsM) 300 (.code QD2 :: .blk 4 :: .code QKILL4 :: K) (sd v0 v1 v3 (.ptr pa 0 0) (.ptr pb 0 0) fv v12 (.ptr y 0 0) (.int .i64 (s : Int)) (.ptr A.length 0 0) v27 v28 v29 v30 v32 v34 v37) A2 →
      ∃ B S', run (envOf GW fsM) 300 (.code QDEF :: .blk 4 :: .code QKILL4 :: K) (sq v0 v1 v3 (.ptr pa 0 0) (.ptr pb 0 0) fv v12 (.ptr y 0 0) (.int .i64 (s : Int)) v27 v28 v32 v34 v37) A = run (envOf GW fsM) 300 K (st3x2 v0 v1 v3 (.ptr pa 0 0) (.ptr pb 0 0) fv v12 (.ptr y 0 0) .undef) B ∧
        Inv B P pa pb fv S' S' fl ∧ (∀ t, t < 2 → Wf (n + 1) (S' t)) ∧ ∀ j, j ∈ P → B[j]? = A[j]? := by
    intro t g A2 v29 v30 ht hA2 hrun
    have i2 : Inv A2 ([A.length] ++ P) pa pb fv S S fl := by rw [hA2]; exact i1.set (by simp) _
    have rw2 : A2[A.length]? = some (.row 6 false [flA (t, g)]) := by rw [hA2, List.getElem?_set_self (by omega)]
    obtain ⟨B, S', e, iB, wB, pB⟩ := qRecv (K := K) (v0 := v0) (v1 := v1) (v3 := v3) (v12 := v12) (v13 := .ptr y 0 0) (v14 := .int .i64 (s : Int)) (v27 := v27) (v28 := v28) (v29 := v29) (v30 := v30) (v32 := v32) (v34 := v34) (v37 := v37) i2 (by simp) ht rw2 hw hn
    refine ⟨B, S', by rw [hrun, e], iB.less fun j hj => List.mem_append.2 (.inr hj), wB, fun j hj => ?_⟩
    have := hP1 j hj
    rw [pB j (List.mem_append.2 (.inr hj)), hA2, List.getElem?_set_ne (by omega), p1' j hj]
  have st0 : evStore 6 (A ++ [Ent.row 6 false [.agg [.int .i64 0, .int .i64 0, .int .i64 0, .int .i64 0, .int .i64 0, .str []]]]) (.ptr A.length 0 0) (.agg [.int .i64 (s : Int), .int .i64 0, .int .i64 0, .int .i64 0, .int .i64 0, .str []]) = some A1 := by
    rw [hA1]
    simp [evStore, flA, z0F]
  obtain ⟨pk, hpk⟩ : ∃ pk, pk = pick c0 10 := ⟨_, rfl⟩
  rw [← hpk] at m0 b0
  by_cases hraw : pk = 8 ∧ 0 < rs.length
  · obtain ⟨k, hk, mk⟩ := M15_nat hc2 hraw.2
    rw [decide_eq_true hraw.1] at b0
    rw [decide_eq_true (by omega)] at b1
    have he : (rs.map frA)[k]? = some (frA rs[k]) := by simp [hk]
    have ix := hv1.index (A := A1) he rfl (by omega) .i64
    obtain ⟨g, hg⟩ : ∃ g, g = rs[k] := ⟨_, rfl⟩
    rw [← hg] at ix
    have ld : evLoad true 5 A1 (.fp (cellsOf (frA g))) = some (.agg [.int .i64 g.fr, .int .i64 g.to, .int .i64 g.seq, .int .i64 g.ack, .str g.body]) := rfl
    obtain ⟨A2, hA2⟩ : ∃ A2, A2 = A1.set A.length (.row 6 false [flA (s, g)]) := ⟨_, rfl⟩
    have st : evStore 5 A1 (.ptr A.length 0 1) (.agg [.int .i64 g.fr, .int .i64 g.to, .int .i64 g.seq, .int .i64 g.ack, .str g.body]) = some A2 := by
      rw [hA2]
      simp [evStore, rw1, flA]
    have ldy0 : evLoad false 1 A1 (.ptr y 0 0) = some (.int .i64 c0) := by simp [evLoad, hr1]
    have ldy2 : evLoad false 1 A1 (.ptr y 0 2) = some (.int .i64 c2) := by simp [evLoad, hr1]
    obtain ⟨C, hC⟩ : ∃ C, C = cellsOf (frA g) := ⟨_, rfl⟩
    rw [← hC] at ix ld
    refine fin s g A2 (.bool true) .undef hs hA2 ?_
    rw [QDEF_eq]
    simp [QD0, QD1, st0, rw1, hr1, ldy0, ldy2, evIndexArr, pH2, m0, b0, hn1, b1, mk, ix, ld, st, -evBin, -pureH, -evLenSl, -evIndexSl, -evLoad, -evStore]
  · have v29f : ∃ X : Arena, True := ⟨A, trivial⟩
    have ldy0 : evLoad false 1 A1 (.ptr y 0 0) = some (.int .i64 c0) := by simp [evLoad, hr1]
    have ldy2 : evLoad false 1 A1 (.ptr y 0 2) = some (.int .i64 c2) := by simp [evLoad, hr1]
    by_cases hf0 : 0 < fl.length
    · obtain ⟨k, hk, mk⟩ := M15_nat hc2 hf0
      rw [decide_eq_true (by omega)] at b2
      obtain ⟨r, es, e1, e2, e3, e4⟩ := gs.index (i := k) (by simpa using hk) (by omega) .i64
      rw [List.getElem_map] at e3
      obtain ⟨x, hx⟩ : ∃ x, x = fl[k] := ⟨_, rfl⟩
      rw [← hx] at e3
      have hx2 : x.1 < 2 := hfl x (by rw [hx]; exact List.getElem_mem hk)
      obtain ⟨t, g⟩ := x
      have ld : evLoad true 6 A1 (.ptr r k 0) = some (.agg [.int .i64 (t : Int), .int .i64 g.fr, .int .i64 g.to, .int .i64 g.seq, .int .i64 g.ack, .str g.body]) := by
        simp only [evLoad, e2, e3]
        rfl
      obtain ⟨A2, hA2⟩ : ∃ A2, A2 = A1.set A.length (.row 6 false [flA (t, g)]) := ⟨_, rfl⟩
      have st : evStore 6 A1 (.ptr A.length 0 0) (.agg [.int .i64 (t : Int), .int .i64 g.fr, .int .i64 g.to, .int .i64 g.seq, .int .i64 g.ack, .str g.body]) = some A2 := by
        rw [hA2]
        simp [evStore, rw1, flA]
      refine fin t g A2 (.bool false) (.bool true) hx2 hA2 ?_
      rw [QDEF_eq]
      by_cases h8 : pk = 8
      · rw [decide_eq_true h8] at b0
        rw [decide_eq_false (fun hh => hraw ⟨h8, by omega⟩)] at b1
        simp [QD0, QD1, st0, rw1, hr1, ldy0, ldy2, evIndexArr, pH2, m0, b0, hn1, b1, hn2, b2, mk, e4, ld, st, -evBin, -pureH, -evLenSl, -evIndexSl, -evLoad, -evStore]
      · rw [decide_eq_false h8] at b0
        simp [QD0, QD1, st0, rw1, hr1, ldy0, ldy2, evIndexArr, pH2, m0, b0, hn2, b2, mk, e4, ld, st, -evBin, -pureH, -evLenSl, -evIndexSl, -evLoad, -evStore]
    · rw [decide_eq_false (by omega)] at b2
      have hA2 : A1 = A1.set A.length (.row 6 false [flA (s, z0F)]) := by
        apply List.ext_getElem?
        intro j
        by_cases e : A.length = j
        · subst e
          rw [List.getElem?_set_self (by omega)]
          exact rw1
        · rw [List.getElem?_set_ne e]
      refine fin s z0F A1 (.bool false) (.bool false) hs hA2 ?_
      rw [QDEF_eq]
      by_cases h8 : pk = 8
      · rw [decide_eq_true h8] at b0
        rw [decide_eq_false (fun hh => hraw ⟨h8, by omega⟩)] at b1
        simp [QD0, QD1, st0, rw1, hr1, ldy0, ldy2, evIndexArr, pH2, m0, b0, hn1, b1, hn2, b2, -evBin, -pureH, -evLenSl, -evIndexSl, -evLoad, -evStore]
      · rw [decide_eq_false h8] at b0
        simp [QD0, QD1, st0, rw1, hr1, ldy0, ldy2, evIndexArr, pH2, m0, b0, hn2, b2, -evBin, -pureH, -evLenSl, -evIndexSl, -evLoad, -evStore]
end Go.Proofs.Ytfidjdlmmcaplaa
/-
  Link: MatchesReference, run.
-/
namespace Go.Proofs.Ytfidjdlmmcaplaa
open Go

def c3A (c : Int × Int × Int) : AV := .agg [.int .i64 c.1, .int .i64 c.2.1, .int .i64 c.2.2]
def QX : MC := .seq QTST1 (.cond (.var 32) QSEND (.seq QTST2 (.cond (.var 34) QTICK (.seq QTST3 (.cond (.var 37) QNEW QDEF)))))
set_option maxRecDepth 100000 in
set_option maxHeartbeats 8000000 in
theorem qPre {A : Arena} {v0 v1 v3 v4 v5 fv : AV} {cs : List (Int × Int × Int)} (hv0 : SlA 3 (cs.map c3A) v0) {i : Nat} (hi : i < cs.length) (hi60 : i < 60) (hin : ∀ c ∈ cs, inI c.1 ∧ inI c.2.1 ∧ inI c.2.2) :
    ∃ (c0 c1 c2 : Int) (s pk : Nat), inI c0 ∧ inI c2 ∧ s < 2 ∧ pk < 10 ∧ run (envOf GW fsM) 300 [.code lp3x3] (st3x3 v0 v1 v3 v4 v5 fv (.int .i64 (i : Int))) A =
      run (envOf GW fsM) 300 (.code QX :: .blk 4 :: .code QKILL4 :: [.code QTAIL, .blk 3, .code QKILLM, .code QINC]) (sq v0 v1 v3 v4 v5 fv (.int .i64 (i : Int)) (.ptr A.length 0 0) (.int .i64 (s : Int)) (.bool true) (.int .i64 (pk : Int)) .undef .undef .undef) (A ++ [row3 c0 c1 c2]) := by
  obtain ⟨c, hc⟩ : ∃ c, c = cs[i] := ⟨_, rfl⟩
  have hci := hin c (by rw [hc]; exact List.getElem_mem hi)
  obtain ⟨c0, c1, c2⟩ := c
  simp only at hci
  obtain ⟨s, hs, m1⟩ := M15_nat (n := 2) hci.2.1 (by omega)
  obtain ⟨pk, hpk, m2⟩ := M15_nat (n := 10) hci.1 (by omega)
  refine ⟨c0, c1, c2, s, pk, hci.1, hci.2.2, hs, hpk, ?_⟩
  have hn := hv0.len
  rw [List.length_map] at hn
  have b1 := evLss (i : Int) (cs.length : Int)
  rw [decide_eq_true (by omega)] at b1
  have b2 := evLss (i : Int) 60
  rw [decide_eq_true (by omega)] at b2
  have he : (cs.map c3A)[i]? = some (c3A (c0, c1, c2)) := by simp [hi, ← hc]
  have ix := hv0.index (A := A) he rfl (by omega) .i64
  have ld : evLoad true 3 A (.fp (cellsOf (c3A (c0, c1, c2)))) = some (.agg [.int .i64 c0, .int .i64 c1, .int .i64 c2]) := rfl
  obtain ⟨C, hC⟩ : ∃ C, C = cellsOf (c3A (c0, c1, c2)) := ⟨_, rfl⟩
  rw [← hC] at ix ld
  obtain ⟨A1, hA1⟩ : ∃ A1, A1 = A ++ [row3 c0 c1 c2] := ⟨_, rfl⟩
  have st : evStore 3 (A ++ [Ent.row 3 false [.agg [.int .i64 0, .int .i64 0, .int .i64 0]]]) (.ptr A.length 0 0) (.agg [.int .i64 c0, .int .i64 c1, .int .i64 c2]) = some A1 := by
    rw [hA1]
    simp [evStore, row3]
  have hr : A1[A.length]? = some (.row 3 false [.agg [.int .i64 c0, .int .i64 c1, .int .i64 c2]]) := by rw [hA1]; simp [row3]
  have l0 : evLoad false 1 A1 (.ptr A.length 0 0) = some (.int .i64 c0) := by simp [evLoad, hr]
  have l1 : evLoad false 1 A1 (.ptr A.length 0 1) = some (.int .i64 c1) := by simp [evLoad, hr]
  have m1' : M15 [.int .i64 c1, .int .i64 2] = some (.int .i64 (s : Int)) := m1
  have m2' : M15 [.int .i64 c0, .int .i64 10] = some (.int .i64 (pk : Int)) := m2
  rw [← hA1, lp3x3_eq]
  simp [QPA, QR0, QR1, QSW0, QX, hn, b1, b2, ix, ld, st, hr, l0, l1, evIndexArr, pH2, m1', m2', -evBin, -evLenSl, -evIndexSl, -evLoad, -evStore, -pureH]
set_option maxRecDepth 100000 in
theorem qPost {A : Arena} {pa pb y i : Nat} {v0 v1 v3 fv : AV} {S : Nat → EndS} {fl : List (Nat × FrS)} (h : Inv A [y] pa pb fv S S fl) {c0 c1 c2 : Int} (hr : A[y]? = some (row3 c0 c1 c2)) (hc2 : inI c2) {n : Nat} (hw : ∀ t, t < 2 → Wf n (S t)) (hn : n ≤ 200) (hi : i < 1000) :
    ∃ B S', run (envOf GW fsM) 300 [.code QTAIL, .blk 3, .code QKILLM, .code QINC] (st3x2 v0 v1 v3 (.ptr pa 0 0) (.ptr pb 0 0) fv (.int .i64 (i : Int)) (.ptr y 0 0) .undef) A = some (.normal (st3x3 v0 v1 v3 (.ptr pa 0 0) (.ptr pb 0 0) fv (.int .i64 ((i + 1 : Nat) : Int))) B) ∧
      Inv B [] pa pb fv S' S' fl ∧ ∀ t, t < 2 → Wf n (S' t) := by
  obtain ⟨B, S', lp, iB, wB⟩ := loop3c (v0 := v0) (v1 := v1) (v3 := v3) (v12 := .int .i64 (i : Int)) h (by simp) hr hc2 hw hn
  have b2 := evAdd (a := (i : Int)) (b := 1) (by omega)
  rw [show (i : Int) + 1 = ((i + 1 : Nat) : Int) by omega] at b2
  obtain ⟨k1, hk1⟩ : ∃ k1, k1 = i + 1 := ⟨_, rfl⟩
  rw [← hk1] at b2 ⊢
  refine ⟨B, S', ?_, iB.less (by simp), wB⟩
  simp [QTAIL, QKILLM, QINC, go3x2 lp, b2, -evBin]
set_option maxRecDepth 100000 in
set_option maxHeartbeats 8000000 in
theorem qRound {A : Arena} {pa pb i : Nat} {v0 v1 v3 fv : AV} {S : Nat → EndS} {fl : List (Nat × FrS)} (h : Inv A [] pa pb fv S S fl) {cs : List (Int × Int × Int)} (hv0 : SlA 3 (cs.map c3A) v0) (hi : i < cs.length) (hi60 : i < 60) (hin : ∀ c ∈ cs, inI c.1 ∧ inI c.2.1 ∧ inI c.2.2) {rs : List FrS} (hv1 : SlA 5 (rs.map frA) v1) (hw : ∀ t, t < 2 → Wf i (S t)) (hfl : fl.length ≤ 9 * i) (hfl2 : ∀ x ∈ fl, x.1 < 2) :
    ∃ (B : Arena) (fv' : AV) (S' : Nat → EndS) (fl' : List (Nat × FrS)), run (envOf GW fsM) 300 [.code lp3x3] (st3x3 v0 v1 v3 (.ptr pa 0 0) (.ptr pb 0 0) fv (.int .i64 (i : Int))) A = some (.normal (st3x3 v0 v1 v3 (.ptr pa 0 0) (.ptr pb 0 0) fv' (.int .i64 ((i + 1 : Nat) : Int))) B) ∧
      Inv B [] pa pb fv' S' S' fl' ∧ (∀ t, t < 2 → Wf (i + 1) (S' t)) ∧ fl'.length ≤ 9 * (i + 1) ∧ ∀ x ∈ fl', x.1 < 2 := by
  obtain ⟨c0, c1, c2, s, pk, hc0, hc2, hs, hpk, e⟩ := qPre (A := A) (v1 := v1) (v3 := v3) (v4 := .ptr pa 0 0) (v5 := .ptr pb 0 0) (fv := fv) hv0 hi hi60 hin
  rw [e]
  obtain ⟨A1, hA1⟩ : ∃ A1, A1 = A ++ [row3 c0 c1 c2] := ⟨_, rfl⟩
  rw [← hA1]
  obtain ⟨y, hy⟩ : ∃ y, y = A.length := ⟨_, rfl⟩
  rw [← hy]
  have hr : A1[y]? = some (row3 c0 c1 c2) := by rw [hA1, hy]; simp
  have i1 : Inv A1 [y] pa pb fv S S fl := by
    have := (h.more (B := A1) (by rw [hA1]; exact Fr.app _ _ _) [y] (fun j hj => by
      rw [List.mem_singleton] at hj
      subst hj
      rw [hA1, hy]
      simp)).1
    simpa using this
  have post : ∀ (B : Arena) (fv' : AV) (S' : Nat → EndS) (fl' : List (Nat × FrS)), Inv B [y] pa pb fv' S' S' fl' → (∀ t, t < 2 → Wf (i + 1) (S' t)) → (∀ j, j ∈ [y] → B[j]? = A1[j]?) → fl'.length ≤ 9 * (i + 1) → (∀ x ∈ fl', x.1 < 2) →
      ∃ (C : Arena) (fv'' : AV) (S'' : Nat → EndS) (fl'' : List (Nat × FrS)), run (envOf GW fsM) 300 [.code QTAIL, .blk 3, .code QKILLM, .code QINC] (st3x2 v0 v1 v3 (.ptr pa 0 0) (.ptr pb 0 0) fv' (.int .i64 (i : Int)) (.ptr y 0 0) .undef) B = some (.normal (st3x3 v0 v1 v3 (.ptr pa 0 0) (.ptr pb 0 0) fv'' (.int .i64 ((i + 1 : Nat) : Int))) C) ∧
        Inv C [] pa pb fv'' S'' S'' fl'' ∧ (∀ t, t < 2 → Wf (i + 1) (S'' t)) ∧ fl''.length ≤ 9 * (i + 1) ∧ ∀ x ∈ fl'', x.1 < 2 := by
    intro B fv' S' fl' iB wB pB lB tB
    obtain ⟨C, S'', e2, iC, wC⟩ := qPost (v0 := v0) (v1 := v1) (v3 := v3) (i := i) iB ((pB y (by simp)).trans hr) hc2 wB (by omega) (by omega)
    exact ⟨C, fv', S'', fl', e2, iC, wC, lB, tB⟩
  have d0 := evEql (pk : Int) 0
  have d1 := evEql (pk : Int) 1
  have d2 := evEql (pk : Int) 2
  have d3 := evEql (pk : Int) 3
  have d4 := evEql (pk : Int) 4
  have d5 := evEql (pk : Int) 5
  have d9 := evEql (pk : Int) 9
  by_cases hA : pk < 3
  · have e1 : ∀ (K : List KC) (σ : List AV), σ = sq v0 v1 v3 (.ptr pa 0 0) (.ptr pb 0 0) fv (.int .i64 (i : Int)) (.ptr y 0 0) (.int .i64 (s : Int)) (.bool true) (.int .i64 (pk : Int)) .undef .undef .undef → run (envOf GW fsM) 300 (.code QX :: K) σ A1 = run (envOf GW fsM) 300 (.code QSEND :: K) (sq v0 v1 v3 (.ptr pa 0 0) (.ptr pb 0 0) fv (.int .i64 (i : Int)) (.ptr y 0 0) (.int .i64 (s : Int)) (.bool true) (.int .i64 (pk : Int)) (.bool true) .undef .undef) A1 := by
      intro K σ hσ
      subst hσ
      rcases (show pk = 0 ∨ pk = 1 ∨ pk = 2 by omega) with rfl | rfl | rfl
      · simp [QX, QTST1]
      · simp [QX, QTST1]
      · simp [QX, QTST1]
    obtain ⟨B, S', e2, iB, wB, pB⟩ := qSend (K := [.code QTAIL, .blk 3, .code QKILLM, .code QINC]) (v0 := v0) (v1 := v1) (v3 := v3) (v13 := .ptr y 0 0) (v27 := .bool true) (v28 := .int .i64 (pk : Int)) (v32 := .bool true) (v34 := .undef) (v37 := .undef) (i := i) i1 hs (by omega) hw (by omega)
    rw [e1 _ _ rfl, e2]
    exact post B fv S' fl iB wB pB (by omega) hfl2
  by_cases hB : pk < 6
  · have e1 : ∀ (K : List KC) (σ : List AV), σ = sq v0 v1 v3 (.ptr pa 0 0) (.ptr pb 0 0) fv (.int .i64 (i : Int)) (.ptr y 0 0) (.int .i64 (s : Int)) (.bool true) (.int .i64 (pk : Int)) .undef .undef .undef → run (envOf GW fsM) 300 (.code QX :: K) σ A1 = run (envOf GW fsM) 300 (.code QTICK :: K) (sq v0 v1 v3 (.ptr pa 0 0) (.ptr pb 0 0) fv (.int .i64 (i : Int)) (.ptr y 0 0) (.int .i64 (s : Int)) (.bool true) (.int .i64 (pk : Int)) (.bool false) (.bool true) .undef) A1 := by
      intro K σ hσ
      subst hσ
      rcases (show pk = 3 ∨ pk = 4 ∨ pk = 5 by omega) with rfl | rfl | rfl
      · simp [QX, QTST1, QTST2]
      · simp [QX, QTST1, QTST2]
      · simp [QX, QTST1, QTST2]
    obtain ⟨B, fv', S', xs, e2, iB, lx, wB, pB⟩ := qTick (K := [.code QTAIL, .blk 3, .code QKILLM, .code QINC]) (v0 := v0) (v1 := v1) (v3 := v3) (v12 := .int .i64 (i : Int)) (v13 := .ptr y 0 0) (v27 := .bool true) (v28 := .int .i64 (pk : Int)) (v32 := .bool false) (v34 := .bool true) (v37 := .undef) i1 hs (by omega) hw (by omega)
    rw [e1 _ _ rfl, e2]
    refine post B fv' S' _ iB wB pB (by simp; omega) fun x hx => ?_
    rcases List.mem_append.1 hx with hx | hx
    · exact hfl2 x hx
    · obtain ⟨f, _, rfl⟩ := List.mem_map.1 hx
      simp only
      omega
  by_cases hC : pk = 9
  · subst hC
    have e1 : ∀ (K : List KC) (σ : List AV), σ = sq v0 v1 v3 (.ptr pa 0 0) (.ptr pb 0 0) fv (.int .i64 (i : Int)) (.ptr y 0 0) (.int .i64 (s : Int)) (.bool true) (.int .i64 ((9 : Nat) : Int)) .undef .undef .undef → run (envOf GW fsM) 300 (.code QX :: K) σ A1 = run (envOf GW fsM) 300 (.code QNEW :: K) (sq v0 v1 v3 (.ptr pa 0 0) (.ptr pb 0 0) fv (.int .i64 (i : Int)) (.ptr y 0 0) (.int .i64 (s : Int)) (.bool true) (.int .i64 ((9 : Nat) : Int)) (.bool false) (.bool false) (.bool true)) A1 := by
      intro K σ hσ
      subst hσ
      simp [QX, QTST1, QTST2, QTST3]
    obtain ⟨B, S', e2, iB, wB, pB⟩ := qNew (K := [.code QTAIL, .blk 3, .code QKILLM, .code QINC]) (v0 := v0) (v1 := v1) (v3 := v3) (v12 := .int .i64 (i : Int)) (v27 := .bool true) (v28 := .int .i64 ((9 : Nat) : Int)) (v32 := .bool false) (v34 := .bool false) (v37 := .bool true) i1 (by simp) hr hc2 hs hw (by omega)
    rw [e1 _ _ rfl, e2]
    exact post B fv S' fl iB wB pB (by omega) hfl2
  · have e1 : ∀ (K : List KC) (σ : List AV), σ = sq v0 v1 v3 (.ptr pa 0 0) (.ptr pb 0 0) fv (.int .i64 (i : Int)) (.ptr y 0 0) (.int .i64 (s : Int)) (.bool true) (.int .i64 (pk : Int)) .undef .undef .undef → run (envOf GW fsM) 300 (.code QX :: K) σ A1 = run (envOf GW fsM) 300 (.code QDEF :: K) (sq v0 v1 v3 (.ptr pa 0 0) (.ptr pb 0 0) fv (.int .i64 (i : Int)) (.ptr y 0 0) (.int .i64 (s : Int)) (.bool true) (.int .i64 (pk : Int)) (.bool false) (.bool false) (.bool false)) A1 := by
      intro K σ hσ
      subst hσ
      rcases (show pk = 6 ∨ pk = 7 ∨ pk = 8 by omega) with rfl | rfl | rfl
      · simp [QX, QTST1, QTST2, QTST3]
      · simp [QX, QTST1, QTST2, QTST3]
      · simp [QX, QTST1, QTST2, QTST3]
    obtain ⟨B, S', e2, iB, wB, pB⟩ := qDef (K := [.code QTAIL, .blk 3, .code QKILLM, .code QINC]) (v0 := v0) (v3 := v3) (v12 := .int .i64 (i : Int)) (v27 := .bool true) (v28 := .int .i64 (pk : Int)) (v32 := .bool false) (v34 := .bool false) (v37 := .bool false) i1 (by simp) hr hc0 hc2 hv1 hfl2 hs hw (by omega)
    rw [e1 _ _ rfl, e2]
    exact post B fv S' fl iB wB pB (by omega) hfl2
end Go.Proofs.Ytfidjdlmmcaplaa
/-
  Link: MatchesReference, whole.
-/
namespace Go.Proofs.Ytfidjdlmmcaplaa
open Go

def rowp (p q : AV) : Ent := .row 2 false [.agg [p, q]]
def sc (p : AV) : Prop := (cellsOf p).length = 1 ∧ p.solid = true
set_option maxRecDepth 100000 in
set_option maxHeartbeats 8000000 in
theorem round3a {A : Arena} {v0 v1 v3 p q p' q' : AV} (h0 : A[0]? = some (rowp p q)) (h1 : A[1]? = some (rowp p' q')) {i : Nat} (hi : i < 2) :
    ∃ (B : Arena) (b : Nat), run (envOf GW fsM) 300 [.code lp3x0] (st3x0 v0 v1 v3 (.ptr 0 0 0) (.ptr 1 0 0) (.int .i64 (i : Int))) A = some (.normal (st3x0 v0 v1 v3 (.ptr 0 0 0) (.ptr 1 0 0) (.int .i64 ((i + 1 : Nat) : Int))) B) ∧
      B[0]? = some (if i = 0 then rowp (.ptr A.length 0 0) q else rowp p (.ptr A.length 0 0)) ∧ B[1]? = some (if i = 0 then rowp (.ptr b 0 0) q' else rowp p' (.ptr b 0 0)) ∧
      EndAt B A.length (newS 1) .nilS .nilS ∧ EndAt B b (newS 1) .nilS .nilS ∧ A.length < b ∧ b < B.length ∧ ∀ j, 2 ≤ j → j < A.length → B[j]? = A[j]? := by
  have hl0 := (List.getElem?_eq_some_iff.1 h0).1
  have hl1 := (List.getElem?_eq_some_iff.1 h1).1
  obtain ⟨A1, v1', g1, F1⟩ := (ev13 (fun _ _ _ => none) A 1).1 (by omega)
  obtain ⟨A2, v2', g2, F2⟩ := (ev14 (fun _ _ _ => none) A1 1).1 (by omega)
  have l1 : A.length < A1.length := g1.low A.length (mem_own.2 (.inl rfl))
  have l2 : A1.length < A2.length := g2.low A1.length (mem_own.2 (.inl rfl))
  have g1' := g1.beside F2 (fun j _ => by simp)
  have F12 : Fr A A2 [] := F1.trans F2 fun j hj => by simp at hj
  have e0 : A2[0]? = some (rowp p q) := (F12.2 0 hl0 (by simp)).trans h0
  have e1 : A2[1]? = some (rowp p' q') := (F12.2 1 hl1 (by simp)).trans h1
  obtain ⟨A3, hA3⟩ : ∃ A3, A3 = A2.set 0 (if i = 0 then rowp (.ptr A.length 0 0) q else rowp p (.ptr A.length 0 0)) := ⟨_, rfl⟩
  obtain ⟨A4, hA4⟩ : ∃ A4, A4 = A3.set 1 (if i = 0 then rowp (.ptr A1.length 0 0) q' else rowp p' (.ptr A1.length 0 0)) := ⟨_, rfl⟩
  have l3 : A3.length = A2.length := by rw [hA3]; simp
  have l4 : A4.length = A2.length := by rw [hA4, List.length_set, l3]
  have e31 : A3[1]? = some (rowp p' q') := by rw [hA3, List.getElem?_set_ne (by omega)]; exact e1
  have hk : ∀ j, 2 ≤ j → A4[j]? = A2[j]? := fun j hj => by rw [hA4, List.getElem?_set_ne (by omega), hA3, List.getElem?_set_ne (by omega)]
  have b1 := evLss (i : Int) 2
  rw [decide_eq_true (by omega)] at b1
  have b2 := evAdd (a := (i : Int)) (b := 1) (by omega)
  rw [show (i : Int) + 1 = ((i + 1 : Nat) : Int) by omega] at b2
  have n1 : evBin .neq (.int .i64 0) (.int .i64 0) = some (.bool false) := rfl
  refine ⟨A4, A1.length, ?_, by rw [hA4, List.getElem?_set_ne (by omega), hA3, List.getElem?_set_self (by omega)], by rw [hA4, List.getElem?_set_self (by omega)], g1'.keep fun j hj => ?_, g2.keep fun j hj => ?_, l1, by omega, fun j h2 hj => by rw [hk j h2]; exact F12.2 j hj (by simp)⟩
  · obtain ⟨k1, hk1⟩ : ∃ k1, k1 = i + 1 := ⟨_, rfl⟩
    rw [← hk1] at b2 ⊢
    unfold rowp at e0 e1 e31 hA3 hA4
    rcases (show i = 0 ∨ i = 1 by omega) with rfl | rfl
    · rw [if_pos rfl] at hA3 hA4
      have st3 : evStore 1 A2 (.ptr 0 0 0) (.ptr A.length 0 0) = some A3 := by
        rw [hA3]; simp [evStore, e0]
      have st4 : evStore 1 A3 (.ptr 1 0 0) (.ptr A1.length 0 0) = some A4 := by
        rw [hA4]; simp [evStore, e31]
      have b1' : evBin .lss (.int .i64 0) (.int .i64 2) = some (.bool true) := rfl
      have b2' : evBin .add (.int .i64 0) (.int .i64 1) = some (.int .i64 (k1 : Int)) := b2
      simp [lp3x0, b1', b2', v1', v2', n1, evIndexArr, e0, e31, st3, st4, -evBin, -evStore]
    · rw [if_neg (by omega)] at hA3 hA4
      have st3 : evStore 1 A2 (.ptr 0 0 1) (.ptr A.length 0 0) = some A3 := by
        rw [hA3]; simp [evStore, e0]
      have st4 : evStore 1 A3 (.ptr 1 0 1) (.ptr A1.length 0 0) = some A4 := by
        rw [hA4]; simp [evStore, e31]
      have b1' : evBin .lss (.int .i64 1) (.int .i64 2) = some (.bool true) := rfl
      have b2' : evBin .add (.int .i64 1) (.int .i64 1) = some (.int .i64 (k1 : Int)) := b2
      simp [lp3x0, b1', b2', v1', v2', n1, evIndexArr, e0, e31, st3, st4, -evBin, -evStore]
  · rw [own_nil0, List.mem_singleton] at hj
    subst hj
    exact hk _ (by omega)
  · rw [own_nil0, List.mem_singleton] at hj
    subst hj
    exact hk _ (by omega)
theorem loop3a {v0 v1 v3 : AV} : ∃ B, iter (evC (envOf GW fsM) 300 lp3x0) mask3x0 300 (st3x0 v0 v1 v3 (.ptr 0 0 0) (.ptr 1 0 0) (.int .i64 0)) [rowp .nilP .nilP, rowp .nilP .nilP] = some (.exit 0 ((st3x0 v0 v1 v3 (.ptr 0 0 0) (.ptr 1 0 0) (.int .i64 2)).set 25 (.bool false)) B) ∧
    Inv B [] 0 1 .nilS (fun _ => newS 1) (fun _ => newS 1) [] := by
  obtain ⟨B, b0, r1, e0, e1, ga0, gb0, lb0, lB, kB⟩ := round3a (v0 := v0) (v1 := v1) (v3 := v3) (A := [rowp .nilP .nilP, rowp .nilP .nilP]) (i := 0) rfl rfl (by omega)
  rw [if_pos rfl] at e0 e1
  obtain ⟨C, b1, r2, f0, f1, ga1, gb1, lb1, lC, kC⟩ := round3a (v0 := v0) (v1 := v1) (v3 := v3) (A := B) (i := 1) e0 e1 (by omega)
  rw [if_neg (by omega)] at f0 f1
  have r1' : run (envOf GW fsM) 300 [.code lp3x0] (st3x0 v0 v1 v3 (.ptr 0 0 0) (.ptr 1 0 0) (.int .i64 0)) [rowp .nilP .nilP, rowp .nilP .nilP] = some (.normal (st3x0 v0 v1 v3 (.ptr 0 0 0) (.ptr 1 0 0) (.int .i64 1)) B) := r1
  have r2' : run (envOf GW fsM) 300 [.code lp3x0] (st3x0 v0 v1 v3 (.ptr 0 0 0) (.ptr 1 0 0) (.int .i64 1)) B = some (.normal (st3x0 v0 v1 v3 (.ptr 0 0 0) (.ptr 1 0 0) (.int .i64 2)) C) := r2
  have ha0 : ([rowp .nilP .nilP, rowp .nilP .nilP] : Arena).length = 2 := rfl
  rw [ha0] at f0 ga0 lb0
  refine ⟨C, ?_, ?_⟩
  · rw [iter_succ, cl3x0, r1']
    simp only
    rw [iter_succ, cl3x0, r2']
    simp only
    rw [iter_succ, cl3x0]
    simp [lp3x0]
  · have keepB : ∀ (id : Nat), 2 ≤ id → id < B.length → EndAt B id (newS 1) .nilS .nilS → EndAt C id (newS 1) .nilS .nilS := fun id h1 h2 hE => hE.keep fun j hj => by
      rw [own_nil0, List.mem_singleton] at hj
      subst hj
      exact kC j h1 h2
    have gA := keepB 2 (by omega) (by omega) ga0
    have gB := keepB b0 (by omega) lB gb0
    refine ⟨fun s => if s = 0 then 2 else B.length, fun s => if s = 0 then b0 else b1, fun _ => .nilS, fun _ => .nilS, fun _ => .nilS, fun _ => .nilS, fun j => if j = 0 then 5 else if j = 1 then 6 else if j = 2 then 1 else if j = b0 then 3 else if j = B.length then 2 else if j = b1 then 4 else 0, ?_, ?_, ?_, ?_, f0, f1, rfl, rfl, .inl ⟨rfl, rfl⟩, fun j hj => by simp [idsOf] at hj, fun j hj => by simp at hj⟩
    · intro s hs
      rcases (show s = 0 ∨ s = 1 by omega) with rfl | rfl
      · exact gA
      · exact ga1
    · intro s hs j hj
      rw [own_nil0, List.mem_singleton] at hj
      subst hj
      rcases (show s = 0 ∨ s = 1 by omega) with rfl | rfl
      · rfl
      · simp only [show ¬ (1 = 0) by omega, if_false]
        rw [if_neg (by omega), if_neg (by omega), if_neg (by omega), if_neg (by omega), if_pos trivial]
    · intro s hs
      rcases (show s = 0 ∨ s = 1 by omega) with rfl | rfl
      · exact gB
      · exact gb1
    · intro s hs j hj
      rw [own_nil0, List.mem_singleton] at hj
      subst hj
      rcases (show s = 0 ∨ s = 1 by omega) with rfl | rfl
      · simp only [if_true]
        rw [if_neg (by omega), if_neg (by omega), if_neg (by omega)]
      · simp only [show ¬ (1 = 0) by omega, if_false]
        rw [if_neg (by omega), if_neg (by omega), if_neg (by omega), if_neg (by omega), if_neg (by omega), if_pos trivial]
theorem loop3d {A : Arena} {v0 v1 v3 : AV} (h : Inv A [] 0 1 .nilS (fun _ => newS 1) (fun _ => newS 1) []) {cs : List (Int × Int × Int)} (hv0 : SlA 3 (cs.map c3A) v0) (hin : ∀ c ∈ cs, inI c.1 ∧ inI c.2.1 ∧ inI c.2.2) {rs : List FrS} (hv1 : SlA 5 (rs.map frA) v1) :
    ∃ B fv v12 v27, iter (evC (envOf GW fsM) 300 lp3x3) mask3x3 300 (st3x3 v0 v1 v3 (.ptr 0 0 0) (.ptr 1 0 0) .nilS (.int .i64 0)) A = some (.exit 2 ((st3x3 v0 v1 v3 (.ptr 0 0 0) (.ptr 1 0 0) fv v12).set 27 v27) B) := by
  obtain ⟨N, hN⟩ : ∃ N, N = min cs.length 60 := ⟨_, rfl⟩
  obtain ⟨o, h1, B, fv, v12, v27, rfl⟩ := iter_inv (E := envOf GW fsM) (fuel := 300) (a := lp3x3) (mask := mask3x3)
    (fun κ σ A' => ∃ (i : Nat) (fv : AV) (S : Nat → EndS) (fl : List (Nat × FrS)), i + κ = N ∧ σ = st3x3 v0 v1 v3 (.ptr 0 0 0) (.ptr 1 0 0) fv (.int .i64 (i : Int)) ∧ Inv A' [] 0 1 fv S S fl ∧ (∀ t, t < 2 → Wf i (S t)) ∧ fl.length ≤ 9 * i ∧ ∀ x ∈ fl, x.1 < 2)
    (fun o => ∃ B fv v12 v27, o = .exit 2 ((st3x3 v0 v1 v3 (.ptr 0 0 0) (.ptr 1 0 0) fv v12).set 27 v27) B)
    (by
      rintro κ σ A' ⟨i, fv, S, fl, hik, rfl, g1, g2, g3, g4⟩
      rw [cl3x3]
      by_cases hi : i < N
      · obtain ⟨B, fv', S', fl', e, k1, k2, k3, k4⟩ := qRound (v3 := v3) g1 hv0 (show i < cs.length by omega) (by omega) hin hv1 g2 g3 g4
        exact .inl ⟨_, B, e, κ - 1, by omega, i + 1, fv', S', fl', by omega, rfl, k1, k2, k3, k4⟩
      · obtain rfl : i = N := by omega
        have hn := hv0.len
        rw [List.length_map] at hn
        have b1 := evLss (i : Int) (cs.length : Int)
        have b2 := evLss (i : Int) 60
        refine .inr ⟨_, ?_, (fun _ _ h => by cases h), A', fv, .int .i64 (i : Int), .bool false, rfl⟩
        rw [lp3x3_eq]
        by_cases h1 : i < cs.length
        · rw [decide_eq_true (by omega)] at b1
          rw [decide_eq_false (by omega)] at b2
          simp [QPA, hn, b1, b2, -evBin, -evLenSl]
        · rw [decide_eq_false (by omega)] at b1
          simp [QPA, hn, b1, -evBin, -evLenSl])
    300 N (st3x3 v0 v1 v3 (.ptr 0 0 0) (.ptr 1 0 0) .nilS (.int .i64 0)) A (by omega) ⟨0, .nilS, fun _ => newS 1, [], by omega, rfl, h, fun t _ => Wf.new 0 (by omega), by simp, by simp⟩
  exact ⟨B, fv, v12, v27, h1⟩
set_option maxRecDepth 100000 in
theorem ev3 {v0 v1 : AV} {cs : List (Int × Int × Int)} (hv0 : SlA 3 (cs.map c3A) v0) (hin : ∀ c ∈ cs, inI c.1 ∧ inI c.2.1 ∧ inI c.2.2) {rs : List FrS} (hv1 : SlA 5 (rs.map frA) v1) : evP (envOf GW fsM) 300 mf3 1 [v0, v1] = some (.bool true) := by
  obtain ⟨B, lp, iB⟩ := loop3a (v0 := v0) (v1 := v1) (v3 := .bool true)
  obtain ⟨C, fv, v12, v27, lp2⟩ := loop3d (v3 := .bool true) iB hv0 hin hv1
  have lp' : iter (evC (envOf GW fsM) 300 lp3x0) mask3x0 300 (st3x0 v0 v1 (.bool true) (.ptr 0 0 0) (.ptr 1 0 0) (.int .i64 0)) [.row 2 false [.agg [.nilP, .nilP]], .row 2 false [.agg [.nilP, .nilP]]] = _ := lp
  rw [evP_run _ _ rfl]
  simp [mf3, go3x0 lp', go3x3 lp2]
set_option maxRecDepth 100000 in
theorem three_arg {x : AV} {n : Nat} (h : TA Try.prog (n + 2) 35 x) : ∃ c : Int × Int × Int, x = c3A c ∧ inI c.1 ∧ inI c.2.1 ∧ inI c.2.2 := by
  obtain ⟨ls, rfl, hc, hl⟩ := TA.agg (show aggT Try.prog 35 = true by kernel_rfl) h
  simp only [TC, Try.underlying35] at hc
  rw [show Try.prog.cellsOf 3 = 1 by kernel_rfl] at hc
  simp only [TCa, TC, Try.underlying3] at hc
  obtain ⟨_, _, rfl, ⟨a, rfl, ha⟩, _, _, _, rfl, ⟨b, rfl, hb⟩, _, _, _, rfl, ⟨c, rfl, hc'⟩, _, rfl⟩ := hc
  exact ⟨(a, b, c), rfl, ha, hb, hc'⟩
theorem calls_arg {x : AV} {n : Nat} (h : TA Try.prog (n + 3) 22 x) : ∃ cs : List (Int × Int × Int), SlA 3 (cs.map c3A) x ∧ ∀ c ∈ cs, inI c.1 ∧ inI c.2.1 ∧ inI c.2.2 := by
  obtain ⟨es, h1, h2, h3⟩ := TA.sl Try.underlying22 h
  rw [show Try.prog.cellsOf 35 = 3 by kernel_rfl] at h1
  obtain ⟨cs, rfl, h4⟩ := map_of_forall (f := c3A) (p := fun c => inI c.1 ∧ inI c.2.1 ∧ inI c.2.2) (fun x hx => three_arg (n := n) (h3 x hx))
  exact ⟨cs, h1, h4⟩
theorem frs_arg {x : AV} {n : Nat} (h : TA Try.prog (n + 3) 23 x) : ∃ rs : List FrS, SlA 5 (rs.map frA) x := by
  obtain ⟨es, h1, h2, h3⟩ := TA.sl Try.underlying23 h
  rw [show Try.prog.cellsOf 42 = 5 by kernel_rfl] at h1
  obtain ⟨rs, rfl, _⟩ := map_of_forall (f := frA) (p := fun _ => True) (fun x hx => by
    obtain ⟨f, e, _⟩ := fr_arg (n := n) (h3 x hx)
    exact ⟨f, e, trivial⟩)
  exact ⟨rs, h1⟩
theorem ev3L (args : List AV) (h : LawArgs Try.prog 8 Try.f3.params.toList args) : ∃ fuel, evP (envOf GW fsM) fuel mf3 1 args = some (.bool true) := by
  rw [Try.params3] at h
  obtain ⟨a, r, rfl, h0, h⟩ := h.cons
  obtain ⟨b, r, rfl, h1, h⟩ := h.cons
  obtain rfl := h.nil
  obtain ⟨cs, hv0, hin⟩ := calls_arg (n := 5) h0
  obtain ⟨rs, hv1⟩ := frs_arg (n := 5) h1
  exact ⟨300, ev3 hv0 hin hv1⟩
end Go.Proofs.Ytfidjdlmmcaplaa
