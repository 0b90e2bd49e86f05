/-
  What the proof is built on (L55 to L76).
-/
import Derived.Test.YtfidjdlmmcaplaaY06
/-
  Link: the number of a body; forget.
-/
namespace Go.Proofs.Ytfidjdlmmcaplaa
open Go

noncomputable def fs56 : List (FuncId × HModel) := []
theorem sound56 : ∀ f M, lookM fs56 f = some M → FnSpecY Try.prog GW f M := lookM_nil
noncomputable def M56 : PModel := fun args => evP (envOf GW fs56) 300 mf56 5 args
theorem spec56 : PureSpec Try.prog GW 56 M56 := PureSpec.of_ev (E := envOf GW fs56) (envOf_sound sound56) rfl at56 comp56 5 fun _ _ h => ⟨300, h⟩
def digF (a : Nat) (b : UInt8) : Nat := 10 * a + (b.toNat - 48)
theorem loop56 {s : Bytes} (hl : s.length ≤ 9) (hd : ∀ b ∈ s, 48 ≤ b.toNat ∧ b.toNat ≤ 57) (A : Arena) : ∀ (k j a n : Nat), j + k = s.length → a < 10 ^ j → k < n →
    iter (evC (envOf GW fs56) 300 lp56x0) mask56x0 n (st56x0 (.str s) (.int .i64 (a : Int)) (.int .i64 (j : Int))) A = some (.exit 0 ((st56x0 (.str s) (.int .i64 ((s.drop j).foldl digF a : Nat)) (.int .i64 (s.length : Int))).set 4 (.bool false)) A)
  | _, _, _, 0, _, _, h => by omega
  | 0, j, a, n + 1, hj, ha, hn => by
    obtain rfl : j = s.length := by omega
    rw [iter_succ, cl56x0, List.drop_length]
    have b1 := evLss (s.length : Int) (s.length : Int)
    rw [decide_eq_false (by omega)] at b1
    simp [lp56x0, b1, -evBin]
  | k + 1, j, a, n + 1, hj, ha, hn => by
    have hjl : j < s.length := by omega
    have ha9 : a < 1000000000 := Nat.lt_of_lt_of_le ha (show 10 ^ j ≤ 10 ^ 9 from Nat.pow_le_pow_right (by omega) (by omega))
    obtain ⟨b, hb⟩ : ∃ b, b = s[j] := ⟨_, rfl⟩
    have hbd := hd b (by rw [hb]; exact List.getElem_mem hjl)
    have b1 := evLss (j : Int) (s.length : Int)
    rw [decide_eq_true (by omega)] at b1
    have b2 := evLss (j : Int) 9
    rw [decide_eq_true (by omega)] at b2
    have b3 : evBin .mul (.int .i64 10) (.int .i64 (a : Int)) = some (.int .i64 ((10 * a : Nat) : Int)) := by
      simp only [evBin]
      rw [if_pos trivial, wrapI (by unfold inI; omega), Int.natCast_mul]
      rfl
    have x1 : evIndexStr (.str s) (.int .i64 (j : Int)) = some (.int .u8 (b.toNat : Int)) := by
      simp only [evIndexStr]
      rw [if_pos (by omega), Int.toNat_natCast, List.getElem?_eq_getElem hjl, ← hb]
      rfl
    have b4 : evBin .sub (.int .u8 (b.toNat : Int)) (.int .u8 48) = some (.int .u8 ((b.toNat - 48 : Nat) : Int)) := by
      simp only [evBin]
      rw [if_pos trivial, wrapU8 (by omega)]
      congr 2
      omega
    have b5 : evConvInt .i64 (.int .u8 ((b.toNat - 48 : Nat) : Int)) = some (.int .i64 ((b.toNat - 48 : Nat) : Int)) := by
      simp only [evConvInt]
      rw [wrapI (by unfold inI; omega)]
    have b6 := evAdd (a := ((10 * a : Nat) : Int)) (b := ((b.toNat - 48 : Nat) : Int)) (by omega)
    rw [← Int.natCast_add] at b6
    have b7 := evAdd (a := (j : Int)) (b := 1) (by omega)
    rw [show (j : Int) + 1 = ((j + 1 : Nat) : Int) by omega] at b7
    have e : (s.drop j).foldl digF a = (s.drop (j + 1)).foldl digF (10 * a + (b.toNat - 48)) := by
      rw [List.drop_eq_getElem_cons hjl, ← hb]
      rfl
    have ih := loop56 hl hd A k (j + 1) (10 * a + (b.toNat - 48)) n (by omega) (by rw [Nat.pow_succ]; omega) (by omega)
    rw [iter_succ, cl56x0, e]
    obtain ⟨u, hu⟩ : ∃ u, u = 10 * a := ⟨_, rfl⟩
    obtain ⟨v, hv⟩ : ∃ v, v = b.toNat - 48 := ⟨_, rfl⟩
    obtain ⟨z, hz⟩ : ∃ z, z = u + v := ⟨_, rfl⟩
    obtain ⟨t, ht⟩ : ∃ t, t = j + 1 := ⟨_, rfl⟩
    rw [← hu] at b3 b6 ih ⊢
    rw [← hv] at b4 b5 b6 ih ⊢
    rw [← hz] at b6 ih ⊢
    rw [← ht] at b7 ih ⊢
    have r : run (envOf GW fs56) 300 [.code lp56x0] (st56x0 (.str s) (.int .i64 (a : Int)) (.int .i64 (j : Int))) A = some (.normal (st56x0 (.str s) (.int .i64 (z : Int)) (.int .i64 (t : Int))) A) := by
      simp [lp56x0, b1, b2, b3, x1, b4, b5, b6, b7, -evBin, -evConvInt, -evIndexStr]
    rw [r]
    exact ih
theorem M56_dig {s : Bytes} (hl : s.length ≤ 9) (hd : ∀ b ∈ s, 48 ≤ b.toNat ∧ b.toNat ≤ 57) : M56 [.str s] = some (.int .i64 (numB s : Int)) := by
  have lp := loop56 hl hd [] s.length 0 0 300 (by omega) (by omega) (by omega)
  have e : s.foldl digF 0 = numB s := by
    unfold numB
    rw [List.take_of_length_le hl]
    rfl
  rw [List.drop_zero, e] at lp
  have lp' : iter (evC (envOf GW fs56) 300 lp56x0) mask56x0 300 (st56x0 (.str s) (.int .i64 0) (.int .i64 0)) [] = some (.exit 0 ((st56x0 (.str s) (.int .i64 (numB s : Int)) (.int .i64 (s.length : Int))).set 4 (.bool false)) []) := lp
  unfold M56
  rw [evP_run _ _ rfl]
  simp [mf56, go56x0 lp']
theorem M56_eq {n : Nat} (hn : n < 300) : M56 [.str (txt n)] = some (.int .i64 (n : Int)) := by
  have h : ∀ n : Fin 300, (txt n).length ≤ 9 ∧ ∀ b ∈ txt n, 48 ≤ b.toNat ∧ b.toNat ≤ 57 := by decide +kernel
  have := h ⟨n, hn⟩
  rw [M56_dig this.1 this.2, numB_txt n hn]
noncomputable def fs57 : List (FuncId × HModel) := [(28, H28), (56, pureH 4 M56)]
@[simp] theorem fs57_28 : lookM fs57 28 = some (H28) := rfl
@[simp] theorem fs57_56 : lookM fs57 56 = some (pureH 4 M56) := rfl
theorem sound57 : ∀ f M, lookM fs57 f = some M → FnSpecY Try.prog GW f M := lookM_cons spec28 (lookM_cons (FnSpecY.of_pure spec56 4) lookM_nil)
noncomputable def H57 : HModel := fun _ => evFun (envOf GW fs57) 300 mf57
theorem spec57 : FnSpecY Try.prog GW 57 H57 := (evFun_sound (envOf_sound sound57) rfl at57 comp57 (by first | exact PureIn.nil | (repeat (first | exact PureIn.nil | refine PureIn.cons (M := _) rfl ?_)))).y
/-- a string of a list -/
theorem strAt {A : Arena} {v : AV} {xs : List Bytes} (h : SlP 1 A v (xs.map .str)) {i : Nat} (hi : i < xs.length) : ∃ r, evIndexSl 1 A v (.int .i64 (i : Int)) = some (.ptr r i 0) ∧ evLoad false 1 A (.ptr r i 0) = some (.str xs[i]) := by
  obtain ⟨r, es, h1, h2, h3, h4⟩ := h.index (i := i) (by simpa using hi) (by decide) .i64
  refine ⟨r, h4, ?_⟩
  simp only [evLoad, h2, Bool.false_and, Bool.false_eq_true, if_false, h3, List.getElem_map]
  rfl
theorem strLen {A : Arena} {v : AV} {xs : List Bytes} (h : SlP 1 A v (xs.map .str)) : evLenSl v = some (.int .i64 (xs.length : Int)) := by
  have := h.len
  rwa [List.length_map] at this
/-- what is noted as lost: numbers of the end's messages -/
def LostOk (X : PS) (s : Nat) (xs : List Bytes) : Prop := (∀ b ∈ xs, 1 ≤ numB b ∧ numB b < X.N ∧ X.sd (numB b) = s ∧ X.ls (numB b) = false ∧ b = txt (numB b)) ∧ (xs.map numB).Nodup
set_option maxRecDepth 100000 in
set_option maxHeartbeats 4000000 in
theorem round57 {A : Arena} {x : Nat} {X : PS} {P : List Nat} {i : Nat → Nat} {q l w : Nat → AV} (h : Ln A x X.e (cont X) X.la P i q l w) {s : Nat} {lv : AV} {xs : List Bytes} (hl : SlP 1 A lv (xs.map .str)) {j : Nat} (hj : j < xs.length) (hx : xs.length ≤ 1000) {n : Nat} (hb : xs[j] = txt n) (h1 : 1 ≤ n) (h2 : n < X.N) (h3 : X.sd n = s) (h4 : X.ls n = false) (hN : X.N < 300) :
    ∃ B, run (envOf GW fs57) 300 [.code lp57x0] (st57x0 (.ptr x 0 0) (.int .i64 (s : Int)) lv (.int .i64 (j : Int))) A = some (.normal (st57x0 (.ptr x 0 0) (.int .i64 (s : Int)) lv (.int .i64 ((j + 1 : Nat) : Int))) B) ∧
      Ln B x X.e (cont { X with ls := upd X.ls n true }) X.la P i q l w ∧ ∀ j, j ∈ P → B[j]? = A[j]? := by
  obtain ⟨r, x1, l1⟩ := strAt hl hj
  rw [hb] at l1
  have hlen := strLen hl
  have m56 := M56_eq (n := n) (by omega)
  have f7 : evLoad false 1 A (.ptr x 0 7) = some (w 5) := h.ldw (k := 5) (by omega)
  have f3 : evLoad false 1 A (.ptr x 0 3) = some (w 1) := h.ldw (k := 1) (by omega)
  have hl5 := h.len (k := 5) (by omega)
  rw [cont_len X (by omega) (by omega)] at hl5
  obtain ⟨r2, x2, l2⟩ := h.gsd h2
  rw [h3] at l2
  obtain ⟨r3, x3, l3⟩ := h.gls h2
  rw [h4] at l3
  obtain ⟨r4, B, x4, st, hB, pB⟩ := h.put (k := 5) (n := n) (v := .bool true) (by omega) (by omega) (by rw [cont_len X (by omega) (by omega)]; exact h2) ⟨rfl, rfl⟩
  rw [cont_ls X h2] at hB
  rw [x3] at x4
  injection x4 with x4
  injection x4 with x4
  subst x4
  have b1 := evLss (j : Int) (xs.length : Int)
  rw [decide_eq_true (by omega)] at b1
  have b2 := evLss (n : Int) 1
  rw [decide_eq_false (by omega)] at b2
  have b3 := evGeq (n : Int) (X.N : Int)
  rw [decide_eq_false (by omega)] at b3
  have b4 := evNeq (s : Int) (s : Int)
  rw [decide_eq_false (by simp)] at b4
  have b5 := evAdd (a := (j : Int)) (b := 1) (by omega)
  rw [show (j : Int) + 1 = ((j + 1 : Nat) : Int) by omega] at b5
  obtain ⟨t, ht⟩ : ∃ t, t = j + 1 := ⟨_, rfl⟩
  rw [← ht] at b5 ⊢
  refine ⟨B, ?_, hB, pB⟩
  have hr := h.row
  simp [lp57x0, b1, b2, b3, b4, b5, hr, x1, l1, hlen, m56, f7, f3, hl5, x2, l2, x3, l3, st, -evBin, -evLenSl, -evIndexSl, -evLoad, -evStore]
theorem loop57 {x : Nat} {P : List Nat} {i : Nat → Nat} {q l w : Nat → AV} {s : Nat} {lv : AV} {xs : List Bytes} (hlP : ∀ j, j ∈ idsOf lv → j ∈ P) (hx : xs.length ≤ 1000) : ∀ (k j m : Nat) (A : Arena) (X : PS), X.N < 300 → Ln A x X.e (cont X) X.la P i q l w → SlP 1 A lv (xs.map .str) → j + k = xs.length → k < m → LostOk X s (xs.drop j) →
    ∃ B, iter (evC (envOf GW fs57) 300 lp57x0) mask57x0 m (st57x0 (.ptr x 0 0) (.int .i64 (s : Int)) lv (.int .i64 (j : Int))) A = some (.exit 2 ((st57x0 (.ptr x 0 0) (.int .i64 (s : Int)) lv (.int .i64 (xs.length : Int))).set 6 (.bool false)) B) ∧
      Ln B x X.e (cont { X with ls := lsAll (xs.drop j) X.ls }) X.la P i q l w ∧ ∀ j, j ∈ P → B[j]? = A[j]?
  | _, _, 0, _, _, _, _, _, _, h, _ => by omega
  | 0, j, m + 1, A, X, hN, h, hl, hj, hn, hok => by
    obtain rfl : j = xs.length := by omega
    have b1 := evLss (xs.length : Int) (xs.length : Int)
    rw [decide_eq_false (by omega)] at b1
    have hlen := strLen hl
    refine ⟨A, ?_, ?_, fun _ _ => rfl⟩
    · rw [iter_succ, cl57x0]
      simp [lp57x0, b1, hlen, -evBin, -evLenSl]
    · rw [List.drop_length]
      exact h
  | k + 1, j, m + 1, A, X, hN, h, hl, hj, hn, hok => by
    have hjl : j < xs.length := by omega
    rw [List.drop_eq_getElem_cons hjl] at hok ⊢
    obtain ⟨h1, h2, h3, h4, h5⟩ := hok.1 _ (List.mem_cons_self)
    have hnd := hok.2
    rw [List.map_cons, List.nodup_cons] at hnd
    obtain ⟨B, r, hB, pB⟩ := round57 h hl hjl hx h5 h1 h2 h3 h4 hN
    obtain ⟨C, lp, hC, pC⟩ := loop57 hlP hx k (j + 1) m B { X with ls := upd X.ls (numB xs[j]) true } hN hB (hl.keep fun j hj => pB j (hlP j hj)) (by omega) (by omega) ⟨fun b hb => by
      obtain ⟨g1, g2, g3, g4, g5⟩ := hok.1 b (List.mem_cons_of_mem _ hb)
      refine ⟨g1, g2, g3, ?_, g5⟩
      show upd X.ls (numB xs[j]) true (numB b) = false
      rw [upd_ne _ _ (fun e => hnd.1 (List.mem_map.2 ⟨b, hb, e⟩))]
      exact g4, hnd.2⟩
    refine ⟨C, ?_, hC, fun j hj => (pC j hj).trans (pB j hj)⟩
    rw [iter_succ, cl57x0, r]
    exact lp
end Go.Proofs.Ytfidjdlmmcaplaa
/-
  Link: forget; a frame is removed; a new line.
-/
namespace Go.Proofs.Ytfidjdlmmcaplaa
open Go

def lostP (X : PS) (s : Nat) : PS := { X with e := upd X.e s { X.e s with lost := [] }, ls := lsAll (X.e s).lost X.ls }
set_option maxRecDepth 100000 in
set_option maxHeartbeats 4000000 in
theorem round57o {A : Arena} {x : Nat} {X : PS} {P : List Nat} (h : LnP A x X P) {s : Nat} (hs : s < 2) (hok : LostOk X s (X.e s).lost) (hl : (X.e s).lost.length ≤ 250) (hN : X.N < 300) :
    ∃ B, run (envOf GW fs57) 300 [.code lp57x1] (st57x1 (.ptr x 0 0) (.int .i64 (s : Int))) A = some (.normal (st57x1 (.ptr x 0 0) (.int .i64 ((s + 1 : Nat) : Int))) B) ∧ LnP B x (lostP X s) P ∧ ∀ j, j ∈ P → B[j]? = A[j]? := by
  obtain ⟨i, q, l, w, h⟩ := h
  have hr := h.row
  have hE := h.end_ hs
  obtain ⟨B, v28, gB, FB⟩ := ev28 hE (fun _ _ _ => none)
  have hla : ∀ j, j ∈ idsOf (l s) → j ∈ own (i s) (q s) (l s) := fun j hj => mem_own.2 (.inr (.inr hj))
  obtain ⟨iB, pB⟩ := h.step hs (out := idsOf (l s)) gB (fun j hj => by
    rcases mem_own.1 hj with h | h | h
    · exact .inl (mem_own.2 (.inl h))
    · exact .inl (mem_own.2 (.inr (.inl h)))
    · simp [idsOf] at h) (FB.mono fun j _ hj => by rw [List.mem_singleton] at hj; exact mem_own.2 (.inl hj)) (fun j hj => ⟨.inl (hla j hj), Nat.lt_of_lt_of_le (hE.low j (hla j hj)) FB.1, fun hj2 => by
    rcases mem_own.1 hj2 with h | h | h
    · exact hE.2.2.2.2.1 (h ▸ hj)
    · exact hE.2.2.2.2.2 j h hj
    · simp [idsOf] at h⟩)
  have sl : SlP 1 B (l s) ((X.e s).lost.map .str) := hE.2.2.1.keep fun j hj => FB.2 j (hE.low j (hla j hj)) (fun h => by
    rw [List.mem_singleton] at h
    exact hE.2.2.2.2.1 (h ▸ hj))
  obtain ⟨xi, xl⟩ := h.idx hs
  obtain ⟨C, lp, iC, pC⟩ := loop57 (s := s) (lv := l s) (P := idsOf (l s) ++ P) (fun j hj => List.mem_append.2 (.inl hj)) (by omega) (X.e s).lost.length 0 300 B { X with e := upd X.e s { X.e s with lost := [] } } hN iB sl (by omega) (by omega) hok
  rw [List.drop_zero] at iC
  have b1 := evLss (s : Int) 2
  rw [decide_eq_true (by omega)] at b1
  have b2 := evAdd (a := (s : Int)) (b := 1) (by omega)
  rw [show (s : Int) + 1 = ((s + 1 : Nat) : Int) by omega] at b2
  obtain ⟨t, ht⟩ : ∃ t, t = s + 1 := ⟨_, rfl⟩
  rw [← ht] at b2 ⊢
  have lp' : iter (evC (envOf GW fs57) 300 lp57x0) mask57x0 300 (st57x0 (.ptr x 0 0) (.int .i64 (s : Int)) (l s) (.int .i64 0)) B = some (.exit 2 ((st57x0 (.ptr x 0 0) (.int .i64 (s : Int)) (l s) (.int .i64 ((X.e s).lost.length : Int))).set 6 (.bool false)) C) := lp
  refine ⟨C, ?_, ⟨i, _, _, w, iC.less fun j hj => List.mem_append.2 (.inr hj)⟩, fun j hj => (pC j (List.mem_append.2 (.inr hj))).trans (pB j hj)⟩
  simp [lp57x1, b1, b2, hr, xi, xl, v28, go57x0 lp', -evBin, -evLoad]
/-- forget -/
theorem ev57 (hd : Handler) {A : Arena} {x : Nat} {X : PS} {P : List Nat} (h : LnP A x X P) (h0 : LostOk X 0 (X.e 0).lost) (h1 : LostOk (lostP X 0) 1 (X.e 1).lost) (hl : (X.e 0).lost.length ≤ 250 ∧ (X.e 1).lost.length ≤ 250) (hN : X.N < 300) :
    ∃ B, H57 hd [.ptr x 0 0] A = some (pack [], B) ∧ LnP B x (lostP (lostP X 0) 1) P ∧ ∀ j, j ∈ P → B[j]? = A[j]? := by
  obtain ⟨B, r1, hB, pB⟩ := round57o h (s := 0) (by omega) h0 hl.1 hN
  have e1 : (lostP X 0).e 1 = X.e 1 := by
    show upd X.e 0 { X.e 0 with lost := [] } 1 = X.e 1
    exact upd_ne _ _ (by omega)
  obtain ⟨C, r2, hC, pC⟩ := round57o hB (s := 1) (by omega) (by rw [e1]; exact h1) (by rw [e1]; exact hl.2) hN
  refine ⟨C, ?_, hC, fun j hj => (pC j hj).trans (pB j hj)⟩
  have r1' : run (envOf GW fs57) 300 [.code lp57x1] (st57x1 (.ptr x 0 0) (.int .i64 0)) A = some (.normal (st57x1 (.ptr x 0 0) (.int .i64 1)) B) := r1
  have r2' : run (envOf GW fs57) 300 [.code lp57x1] (st57x1 (.ptr x 0 0) (.int .i64 1)) B = some (.normal (st57x1 (.ptr x 0 0) (.int .i64 2)) C) := r2
  have lp : iter (evC (envOf GW fs57) 300 lp57x1) mask57x1 300 (st57x1 (.ptr x 0 0) (.int .i64 0)) A = some (.exit 0 ((st57x1 (.ptr x 0 0) (.int .i64 2)).set 5 (.bool false)) C) := by
    rw [iter_succ, cl57x1, r1']
    simp only
    rw [iter_succ, cl57x1, r2']
    simp only
    rw [iter_succ, cl57x1]
    simp [lp57x1]
  unfold H57
  rw [evFun_run _ _ rfl]
  simp [mf57, go57x1 lp]
/-- append, of any number of elements -/
theorem SlP.appendAny {esz bytes : Nat} {A : Arena} {v x : AV} {xs ys : List AV} (h : SlP esz A v xs) (hx : srcElems esz A x = some ys) (he : 0 < esz) (hb : 0 < bytes) (hs : (xs.length + ys.length) * bytes ≤ 140737488355328) :
    ∃ v' B, evAppendN esz bytes A v x = some (v', B) ∧ SlP esz B v' (xs ++ ys) ∧ Fr A B (idsOf v) ∧ ∀ j, j ∈ idsOf v' → A.length ≤ j := by
  rcases h with ⟨h, h2⟩ | ⟨r, es, h1, h2, h3⟩
  · subst h2; subst h
    by_cases hy : ys = []
    · subst hy
      refine ⟨.nilS, A, ?_, .inl ⟨rfl, rfl⟩, Fr.refl _ _, fun j hj => by simp [idsOf] at hj⟩
      simp [evAppendN, hx]
    · obtain ⟨B, k1, k2, k3, _⟩ := (SlP.nil (esz := esz) (A := A)).appendN (bytes := bytes) hx hy he hb (by simpa using hs)
      exact ⟨_, B, k1, k2, k3, fun j hj => by simp [idsOf] at hj; omega⟩
  · have hr := (List.getElem?_eq_some_iff.1 h2).1
    refine ⟨.sl A.length 0 (xs ++ ys).length, A.set r .dead ++ [.row esz false (xs ++ ys)], ?_, .inr ⟨A.length, xs ++ ys, rfl, by rw [List.getElem?_append_right (by simp)]; simp, List.take_length⟩, ?_, fun j hj => by simp [idsOf] at hj; omega⟩
    · simp only [evAppendN, hx, h1, h2]
      rw [if_pos ⟨trivial, he, hb, hs⟩]
      simp [h3]
    · refine ⟨by simp, fun j hj hn => ?_⟩
      rw [List.getElem?_append_left (by simpa using hj), List.getElem?_set_ne]
      rintro rfl
      exact hn (by rw [h1]; simp [idsOf])
theorem SlP.part {esz : Nat} {A : Arena} {v : AV} {xs : List AV} (h : SlP esz A v xs) (hne : 0 < xs.length) : ∃ r es, v = .sl r 0 xs.length ∧ A[r]? = some (.row esz false es) ∧ ∀ i k, i + k ≤ xs.length → srcElems esz A (.sl r i k) = some ((xs.drop i).take k) := by
  rcases h with ⟨_, h2⟩ | ⟨r, es, h1, h2, h3⟩
  · rw [h2] at hne; simp at hne
  · refine ⟨r, es, h1, h2, fun i k hik => ?_⟩
    have hle : xs.length ≤ es.length := by
      have := congrArg List.length h3
      simp at this; omega
    simp only [srcElems, h2]
    rw [if_pos trivial]
    congr 1
    conv => rhs; rw [← h3]
    rw [List.drop_take, List.take_take, Nat.min_eq_left (by omega)]
noncomputable def fs38 : List (FuncId × HModel) := []
theorem sound38 : ∀ f M, lookM fs38 f = some M → FnSpecY Try.prog GW f M := lookM_nil
noncomputable def H38 : HModel := fun _ => evFun (envOf GW fs38) 300 mf38
theorem spec38 : FnSpecY Try.prog GW 38 H38 := (evFun_sound (envOf_sound sound38) rfl at38 comp38 (by first | exact PureIn.nil | (repeat (first | exact PureIn.nil | refine PureIn.cons (M := _) rfl ?_)))).y
set_option maxRecDepth 100000 in
set_option maxHeartbeats 4000000 in
/-- a frame is removed -/
theorem ev38 (hd : Handler) {A : Arena} {x : Nat} {X : PS} {P : List Nat} (h : LnP A x X P) {n : Nat} (hn : n < X.fl.length) (hb : X.fl.length ≤ 1000000) :
    ∃ B, H38 hd [.ptr x 0 0, .int .i64 (n : Int)] A = some (pack [], B) ∧ LnP B x { X with fl := X.fl.take n ++ X.fl.drop (n + 1) } P ∧ ∀ j, j ∈ P → B[j]? = A[j]? := by
  obtain ⟨i, q, l, w, h⟩ := h
  have hr := h.row
  have hS : SlP 6 A (w 0) (X.fl.map flA) := h.slot (k := 0) (by omega)
  have hlen : (X.fl.map flA).length = X.fl.length := by simp
  obtain ⟨r, es, g1, g2, g3⟩ := hS.part (by omega)
  have hrl := (List.getElem?_eq_some_iff.1 g2).1
  rw [hlen] at g1 g3
  have s1 := g3 0 n (by omega)
  have s2 := g3 (n + 1) (X.fl.length - (n + 1)) (by omega)
  obtain ⟨v1, B, k1, k2, k3, k4⟩ := (SlP.nil (esz := 6) (A := A)).appendAny (bytes := 56) s1 (by omega) (by omega) (by simp; omega)
  have hrB : B[r]? = A[r]? := k3.2 r hrl (by simp [idsOf])
  have s2B : srcElems 6 B (.sl r (n + 1) (X.fl.length - (n + 1))) = some (((X.fl.map flA).drop (n + 1)).take (X.fl.length - (n + 1))) := by
    rw [← s2]
    simp only [srcElems, hrB]
  obtain ⟨v2, C, c1, c2, c3, c4⟩ := k2.appendAny (bytes := 56) s2B (by omega) (by omega) (by simp; omega)
  have eC : ([] ++ ((X.fl.map flA).drop 0).take n) ++ ((X.fl.map flA).drop (n + 1)).take (X.fl.length - (n + 1)) = (X.fl.take n ++ X.fl.drop (n + 1)).map flA := by
    rw [List.nil_append, List.drop_zero, ← List.map_take, ← List.map_drop, ← List.map_take, ← List.map_append]
    congr 2
    exact List.take_of_length_le (by simp)
  rw [eC] at c2
  have FC : Fr A C [] := k3.trans c3 fun j hj => .inr (k4 j hj)
  have hxB : B[x]? = A[x]? := k3.2 x h.xlt (by simp [idsOf])
  have hxC : C[x]? = A[x]? := FC.2 x h.xlt (by simp)
  obtain ⟨D, d1, d2, d3, _⟩ := h.fresh (k := 0) (by omega) c2 (fun j hj => Nat.le_trans k3.1 (c4 j hj)) (FC.mono fun j _ hj => by simp at hj)
  rw [cont_fl] at d2
  refine ⟨D, ?_, ⟨i, q, l, _, d2⟩, d3⟩
  have d1' : evStore 1 C (.ptr x 0 2) v2 = some D := d1
  have z1 : evSliceSl 6 A none (some (.int .i64 (n : Int))) (w 0) = some (.sl r 0 n) := by
    rw [g1]
    simp only [evSliceSl, g2, evBounds, loB, hiB]
    rw [if_pos trivial, if_pos (by omega)]
    simp
  have z2 : evSliceSl 6 B (some (.int .i64 ((n + 1 : Nat) : Int))) none (w 0) = some (.sl r (n + 1) (X.fl.length - (n + 1))) := by
    rw [g1]
    have h2 : n + 1 ≤ X.fl.length := by omega
    simp only [evSliceSl, hrB, g2, evBounds, loB, hiB]
    rw [if_pos trivial, if_pos (by omega)]
    simp only [Int.toNat_natCast]
    rw [if_pos h2]
    simp
  have b1 := evAdd (a := (n : Int)) (b := 1) (by omega)
  rw [show (n : Int) + 1 = ((n + 1 : Nat) : Int) by omega] at b1
  have f2 : evLoad false 1 A (.ptr x 0 2) = some (w 0) := h.ldw (k := 0) (by omega)
  have f2B : evLoad false 1 B (.ptr x 0 2) = some (w 0) := by
    rw [← f2]
    simp only [evLoad, hxB]
  rw [hr] at hxB hxC
  obtain ⟨t, ht⟩ : ∃ t, t = n + 1 := ⟨_, rfl⟩
  rw [← ht] at b1 z2 c1
  unfold H38
  rw [evFun_run _ _ rfl]
  simp [mf38, hr, hxB, hxC, f2, f2B, z1, k1, z2, b1, c1, d1', -evBin, -evLoad, -evSliceSl, -evStore]
noncomputable def fs36 : List (FuncId × HModel) := [(13, H13)]
@[simp] theorem fs36_13 : lookM fs36 13 = some (H13) := rfl
theorem sound36 : ∀ f M, lookM fs36 f = some M → FnSpecY Try.prog GW f M := lookM_cons spec13 lookM_nil
noncomputable def H36 : HModel := fun _ => evFun (envOf GW fs36) 300 mf36
theorem spec36 : FnSpecY Try.prog GW 36 H36 := (evFun_sound (envOf_sound sound36) rfl at36 comp36 (by first | exact PureIn.nil | (repeat (first | exact PureIn.nil | refine PureIn.cons (M := _) rfl ?_)))).y
def X0 : PS := ⟨fun _ => newS 1, [], 1, fun _ => 0, fun _ => 0, fun _ => 0, fun _ => 0, fun _ => false, fun _ => 0⟩
theorem buildOne (A : Arena) (v : AV) (hv : v.solid = true ∧ cellsOf v = [v]) : evBuildSlice 1 [v] A = some (.sl A.length 0 1, A ++ [.row 1 false [v]]) ∧ SlP 1 (A ++ [.row 1 false [v]]) (.sl A.length 0 1) [v] := by
  refine ⟨?_, .inr ⟨A.length, [v], rfl, by simp, rfl⟩⟩
  unfold evBuildSlice
  rw [if_pos ⟨by omega, by simp, by rw [List.all_cons, hv.1, hv.2]; rfl⟩]
  rfl
set_option maxRecDepth 100000 in
set_option maxHeartbeats 4000000 in
theorem ev36 (hd : Handler) (A : Arena) : ∃ B x, H36 hd [] A = some (.ptr x 0 0, B) ∧ LnP B x X0 [] := by
  obtain ⟨A1, v1, g1, F1⟩ := (ev13 (fun _ _ _ => none) A 1).1 (by omega)
  obtain ⟨A2, v2, g2, F2⟩ := (ev13 (fun _ _ _ => none) A1 1).1 (by omega)
  have l1 : A.length < A1.length := g1.low A.length (mem_own.2 (.inl rfl))
  have l2 : A1.length < A2.length := g2.low A1.length (mem_own.2 (.inl rfl))
  have g1' := g1.beside F2 (fun j _ => by simp)
  obtain ⟨x, hx⟩ : ∃ x, x = A2.length := ⟨_, rfl⟩
  obtain ⟨id, hid⟩ : ∃ id : Nat → Nat, id = fun s => if s = 0 then A.length else A1.length := ⟨_, rfl⟩
  have i0 : id 0 = A.length := by rw [hid]; rfl
  have i1 : id 1 = A1.length := by rw [hid]; rfl
  obtain ⟨C, hC⟩ : ∃ C, C = A2 ++ [lnRow id (fun _ => .nilS) (fun _ => 0)] := ⟨_, rfl⟩
  have h0 : Ln C x X0.e (fun _ => []) (fun _ => 0) [] id (fun _ => .nilS) (fun _ => .nilS) (fun _ => .nilS) := by
    have ends : ∀ s, s < 2 → EndAt C (id s) (newS 1) .nilS .nilS ∧ id s < A2.length := fun s hs => by
      rcases (show s = 0 ∨ s = 1 by omega) with rfl | rfl
      · rw [i0, hC]
        exact ⟨g1'.keep fun j hj => List.getElem?_append_left (g1'.low j hj), by omega⟩
      · rw [i1, hC]
        exact ⟨g2.keep fun j hj => List.getElem?_append_left (g2.low j hj), l2⟩
    refine ⟨fun j => if j = A.length then 1 else if j = A1.length then 2 else 3, fun s hs => (ends s hs).1, fun s hs j hj => ?_, by rw [hC, hx]; simp, ?_, fun k _ => .nil, fun k _ j hj => by simp [idsOf] at hj, fun j hj => by simp at hj⟩
    · rw [own_nil0, List.mem_singleton] at hj
      subst hj
      rcases (show s = 0 ∨ s = 1 by omega) with rfl | rfl
      · rw [i0]; simp
      · rw [i1]; simp; omega
    · show (if x = A.length then 1 else if x = A1.length then 2 else 3) = 3
      rw [if_neg (by omega), if_neg (by omega)]
  have st : ∀ {C : Arena} {c : Nat → List AV} {w : Nat → AV} (v : AV) (k : Nat), k ≠ 0 → k < 6 → (v.solid = true ∧ cellsOf v = [v]) → Ln C x X0.e c (fun _ => 0) [] id (fun _ => .nilS) (fun _ => .nilS) w → ∃ D, evBuildSlice 1 [v] C = some (.sl C.length 0 1, C ++ [.row 1 false [v]]) ∧ evStore 1 (C ++ [.row 1 false [v]]) (.ptr x 0 (k + 2)) (.sl C.length 0 1) = some D ∧ Ln D x X0.e (upd c k [v]) (fun _ => 0) [] id (fun _ => .nilS) (fun _ => .nilS) (upd w k (.sl C.length 0 1)) ∧ (C ++ [Ent.row 1 false [v]])[x]? = C[x]? := by
    intro C c w v k hk0 hk hv h
    obtain ⟨b1, b2⟩ := buildOne C v hv
    have e : eszL k = 1 := if_neg hk0
    obtain ⟨D, d1, d2, _, _⟩ := h.fresh hk (B := C ++ [.row 1 false [v]]) (v := .sl C.length 0 1) (ys := [v]) (by rw [e]; exact b2) (fun j hj => by simp [idsOf] at hj; omega) (Fr.app _ _ _)
    exact ⟨D, b1, d1, d2, List.getElem?_append_left h.xlt⟩
  obtain ⟨D1, p1, s1, h1, x1⟩ := st (.int .i64 0) 1 (by omega) (by omega) ⟨rfl, rfl⟩ h0
  obtain ⟨D2, p2, s2, h2, x2⟩ := st (.int .i64 0) 2 (by omega) (by omega) ⟨rfl, rfl⟩ h1
  obtain ⟨D3, p3, s3, h3, x3⟩ := st (.int .i64 0) 3 (by omega) (by omega) ⟨rfl, rfl⟩ h2
  obtain ⟨D4, p4, s4, h4, x4⟩ := st (.int .i64 0) 4 (by omega) (by omega) ⟨rfl, rfl⟩ h3
  obtain ⟨D5, p5, s5, h5, x5⟩ := st (.bool false) 5 (by omega) (by omega) ⟨rfl, rfl⟩ h4
  refine ⟨D5, x, ?_, ?_⟩
  · rw [h0.row] at x1
    rw [h1.row] at x2
    rw [h2.row] at x3
    rw [h3.row] at x4
    rw [h4.row] at x5
    have n0 : evBin .eql (.int .i64 0) (.int .i64 0) = some (.bool true) := rfl
    have bx : A2 ++ [Ent.row 11 false [.agg [.ptr A.length 0 0, .ptr A1.length 0 0, .nilS, .nilS, .nilS, .nilS, .nilS, .nilS, .int .i64 0, .int .i64 0, .bool true]]] = C := by
      rw [hC]
      unfold lnRow
      rw [i0, i1]
      rfl
    unfold H36
    rw [evFun_run _ _ rfl]
    simp [mf36, v1, v2, n0, evBox, bx, ← hx, p1, p2, p3, p4, p5, s1, s2, s3, s4, s5, x1, x2, x3, x4, x5, -evBin, -evBuildSlice, -evStore]
  · have e : upd (upd (upd (upd (upd (fun _ => []) 1 [.int .i64 0]) 2 [.int .i64 0]) 3 [.int .i64 0]) 4 [.int .i64 0]) 5 [.bool false] = cont X0 := by
      funext k
      match k with
      | 0 => rfl
      | 1 => rfl
      | 2 => rfl
      | 3 => rfl
      | 4 => rfl
      | 5 => rfl
      | k + 6 => rfl
    rw [e] at h5
    exact ⟨id, _, _, _, h5⟩
end Go.Proofs.Ytfidjdlmmcaplaa
/-
  Link: a frame is delivered.
-/
namespace Go.Proofs.Ytfidjdlmmcaplaa
open Go

theorem pHs (M : PModel) (h : Handler) (A : Arena) (s : Bytes) : pureH 4 M h [.str s] A = (M [.str s]).map (·, A) := by
  simp
  split <;> simp [*]
noncomputable def fs39 : List (FuncId × HModel) := [(23, H23), (26, pureH 4 M26), (56, pureH 4 M56), (57, H57)]
@[simp] theorem fs39_23 : lookM fs39 23 = some (H23) := rfl
@[simp] theorem fs39_26 : lookM fs39 26 = some (pureH 4 M26) := rfl
@[simp] theorem fs39_56 : lookM fs39 56 = some (pureH 4 M56) := rfl
@[simp] theorem fs39_57 : lookM fs39 57 = some (H57) := rfl
theorem sound39 : ∀ f M, lookM fs39 f = some M → FnSpecY Try.prog GW f M := lookM_cons spec23 (lookM_cons (FnSpecY.of_pure spec26 4) (lookM_cons (FnSpecY.of_pure spec56 4) (lookM_cons spec57 lookM_nil)))
noncomputable def H39 : HModel := fun _ => evFun (envOf GW fs39) 300 mf39
theorem spec39 : FnSpecY Try.prog GW 39 H39 := (evFun_sound (envOf_sound sound39) rfl at39 comp39 (by first | exact PureIn.nil | (repeat (first | exact PureIn.nil | refine PureIn.cons (M := _) rfl ?_)))).y
set_option maxRecDepth 100000 in
set_option maxHeartbeats 4000000 in
theorem round39 {A : Arena} {x y : Nat} {X : PS} {P : List Nat} {i : Nat → Nat} {q l w : Nat → AV} (h : Ln A x X.e (cont X) X.la P i q l w) (hy : y ∈ P) {t : Nat} (ht : t < 2) {f : FrS} (hr : A[y]? = some (.row 6 false [flA (t, f)])) {lv : AV} {n : Nat} (hl : SlP 1 A lv ([txt n].map .str)) (h1 : 1 ≤ n) (h2 : n < X.N) (h3 : X.ar n = 0) (h4 : X.sd n ≠ t) (h5 : X.la t < n) (h6 : X.to n = (X.e t).epoch) (hN : X.N < 300) :
    ∃ B, run (envOf GW fs39) 300 [.code lp39x0] (st39x0 (.ptr x 0 0) (.ptr y 0 0) lv (.int .i64 0)) A = some (.normal (st39x0 (.ptr x 0 0) (.ptr y 0 0) lv (.int .i64 1)) B) ∧
      Ln B x X.e (cont { X with ar := upd X.ar n (X.e t).epoch }) (upd X.la t n) P i q l w ∧ ∀ j, j ∈ P → B[j]? = A[j]? := by
  obtain ⟨r, x1, l1⟩ := strAt hl (i := 0) (by simp)
  have hlen := strLen hl
  have m56 := M56_eq (n := n) (by omega)
  have hE := h.end_ ht
  have a26 := ev26 hE (fun _ _ _ => none)
  have hrow := h.row
  have f6 : evLoad false 1 A (.ptr x 0 6) = some (w 4) := h.ldw (k := 4) (by omega)
  have f3 : evLoad false 1 A (.ptr x 0 3) = some (w 1) := h.ldw (k := 1) (by omega)
  have f5 : evLoad false 1 A (.ptr x 0 5) = some (w 3) := h.ldw (k := 3) (by omega)
  have ly : evLoad false 1 A (.ptr y 0 0) = some (.int .i64 (t : Int)) := by
    simp only [evLoad, hr]; rfl
  obtain ⟨xi, li⟩ := h.idx ht
  obtain ⟨xj, lj⟩ := h.lidx ht
  have hl4 := h.len (k := 4) (by omega)
  rw [cont_len X (by omega) (by omega)] at hl4
  obtain ⟨r2, x2, l2⟩ := h.gsd h2
  obtain ⟨r3, x3, l3⟩ := h.gar h2
  rw [h3] at l3
  obtain ⟨r5, x5, l5⟩ := h.gto h2
  rw [h6] at l5
  obtain ⟨r4, B, x4, st, hB, pB⟩ := h.put (k := 4) (n := n) (v := .int .i64 (X.e t).epoch) (by omega) (by omega) (by rw [cont_len X (by omega) (by omega)]; exact h2) ⟨rfl, rfl⟩
  rw [cont_ar X h2] at hB
  rw [x3] at x4
  injection x4 with x4
  injection x4 with x4
  subst x4
  obtain ⟨C, st2, hC, pC⟩ := hB.last ht n
  have hrB : B[y]? = some (.row 6 false [flA (t, f)]) := (pB y hy).trans hr
  have lyB : evLoad false 1 B (.ptr y 0 0) = some (.int .i64 (t : Int)) := by
    simp only [evLoad, hrB]; rfl
  obtain ⟨xjB, _⟩ := hB.lidx ht
  have hrowB := hB.row
  have b1 : evBin .lss (.int .i64 0) (.int .i64 (([txt n].length : Nat) : Int)) = some (.bool true) := rfl
  have b2 := evLss (n : Int) 1
  rw [decide_eq_false (by omega)] at b2
  have b3 := evGeq (n : Int) (X.N : Int)
  rw [decide_eq_false (by omega)] at b3
  have b4 : evBin .neq (.int .i64 0) (.int .i64 0) = some (.bool false) := rfl
  have b5 := evEql (X.sd n : Int) (t : Int)
  rw [decide_eq_false (by omega)] at b5
  have b6 := evLeq (n : Int) (X.la t : Int)
  rw [decide_eq_false (by omega)] at b6
  have b7 := evNeq (X.e t).epoch (X.e t).epoch
  rw [decide_eq_false (by simp)] at b7
  have b8 : evBin .add (.int .i64 0) (.int .i64 1) = some (.int .i64 1) := rfl
  have l1' : evLoad false 1 A (.ptr r 0 0) = some (.str (txt n)) := l1
  have x1' : evIndexSl 1 A lv (.int .i64 0) = some (.ptr r 0 0) := x1
  have hr' : A[y]? = some (.row 6 false [.agg [.int .i64 (t : Int), .int .i64 f.fr, .int .i64 f.to, .int .i64 f.seq, .int .i64 f.ack, .str f.body]]) := hr
  have hrB' : B[y]? = some (.row 6 false [.agg [.int .i64 (t : Int), .int .i64 f.fr, .int .i64 f.to, .int .i64 f.seq, .int .i64 f.ack, .str f.body]]) := hrB
  have m := pHs M56 (fun _ _ _ => none) A (txt n)
  rw [m56] at m
  obtain ⟨N1, hN1⟩ : ∃ N1, N1 = (([txt n].length : Nat) : Int) := ⟨_, rfl⟩
  rw [← hN1] at b1 hlen
  refine ⟨C, ?_, hC, fun j hj => (pC j hj).trans (pB j hj)⟩
  simp [lp39x0, b1, b2, b3, b4, b5, b6, b7, b8, x1', l1', hlen, m, a26, hrow, hrowB, hr', hrB', f6, f3, f5, ly, lyB, xi, li, xj, lj, xjB, hl4, x2, l2, x3, l3, x5, l5, st, st2, -evBin, -pureH, -evLenSl, -evIndexSl, -evLoad, -evStore]
theorem lostP_none {X : PS} {s : Nat} (h : (X.e s).lost = []) : lostP X s = X := by
  unfold lostP
  rw [lostE_eq h, upd_id, h]
  rfl
/-- what an arriving frame makes of the line, step by step -/
def recv2 (X : PS) (t : Nat) (f : FrS) : PS := { X with e := upd X.e t (receiveS (X.e t) f).1, ar := (receiveS (X.e t) f).2.foldl (fun g b => upd g (numB b) (X.e t).epoch) X.ar, la := (receiveS (X.e t) f).2.foldl (fun g b => upd g t (numB b)) X.la }
theorem recvP_eq {X : PS} {t : Nat} (ht : t < 2) (f : FrS) (ho : (X.e (1 - t)).lost = []) : lostP (lostP (recv2 X t f) 0) 1 = recvP X t f := by
  have e1 : (recv2 X t f).e (1 - t) = X.e (1 - t) := by
    show upd X.e t (receiveS (X.e t) f).1 (1 - t) = X.e (1 - t)
    exact upd_ne _ _ (by omega)
  have e2 : (recv2 X t f).e t = (receiveS (X.e t) f).1 := upd_same _ _ _
  have e3 : lostP (recv2 X t f) t = recvP X t f := by
    unfold lostP
    rw [e2]
    unfold recv2 recvP
    simp only
    congr 1
    funext s
    by_cases c : s = t
    · subst c; rw [upd_same, upd_same]
    · rw [upd_ne _ _ c, upd_ne _ _ c, upd_ne _ _ c]
  rcases (show t = 0 ∨ t = 1 by omega) with rfl | rfl
  · rw [e3]
    refine lostP_none ?_
    show (upd X.e 0 { (receiveS (X.e 0) f).1 with lost := [] } 1).lost = []
    rw [upd_ne _ _ (by omega)]
    exact ho
  · rw [lostP_none (s := 0) (by
      have e4 : (recv2 X 1 f).e 0 = X.e 0 := e1
      rw [e4]; exact ho), e3]
/-- what a delivery meets -/
structure DelOk (X : PS) (t : Nat) (f : FrS) : Prop where
  d : ∀ b ∈ (receiveS (X.e t) f).2, 1 ≤ numB b ∧ numB b < X.N ∧ X.ar (numB b) = 0 ∧ X.sd (numB b) ≠ t ∧ X.la t < numB b ∧ X.to (numB b) = (X.e t).epoch ∧ b = txt (numB b)
  l : LostOk X t (receiveS (X.e t) f).1.lost
  ep : (receiveS (X.e t) f).1.epoch = (X.e t).epoch
  len : (receiveS (X.e t) f).2.length ≤ 1
  o : (X.e (1 - t)).lost = []
  n : (receiveS (X.e t) f).1.lost.length ≤ 250
  a : (X.e t).lost.length ≤ 1000000
  b : (X.e t).queue.length ≤ 100
  c : 0 ≤ (X.e t).received ∧ (X.e t).received ≤ 4611686018427387903
  N : X.N < 300
set_option maxRecDepth 100000 in
set_option maxHeartbeats 4000000 in
theorem loop39 {A : Arena} {x y : Nat} {X : PS} {P : List Nat} {t : Nat} {f : FrS} {E : Nat → EndS} (hE : E = upd X.e t (receiveS (X.e t) f).1) (h : LnP A x { X with e := E } P) (hd : DelOk X t f) (ht : t < 2) (hy : y ∈ P) (hr : A[y]? = some (.row 6 false [flA (t, f)])) {lv : AV} (hl : SlP 1 A lv ((receiveS (X.e t) f).2.map .str)) :
    ∃ B, iter (evC (envOf GW fs39) 300 lp39x0) mask39x0 300 (st39x0 (.ptr x 0 0) (.ptr y 0 0) lv (.int .i64 0)) A = some (.exit 0 ((st39x0 (.ptr x 0 0) (.ptr y 0 0) lv (.int .i64 ((receiveS (X.e t) f).2.length : Int))).set 6 (.bool false)) B) ∧
      LnP B x (recv2 X t f) P ∧ ∀ j, j ∈ P → B[j]? = A[j]? := by
  have eT : E t = (receiveS (X.e t) f).1 := by rw [hE, upd_same]
  obtain ⟨R, hR⟩ : ∃ R, R = receiveS (X.e t) f := ⟨_, rfl⟩
  have h2 : recv2 X t f = { X with e := E, ar := R.2.foldl (fun g b => upd g (numB b) (X.e t).epoch) X.ar, la := R.2.foldl (fun g b => upd g t (numB b)) X.la } := by rw [hE, hR]; rfl
  rw [h2]
  have hd1 := hd.d
  have hd2 := hd.len
  have hd3 := hd.ep
  have hN := hd.N
  rw [← hR] at hl hd1 hd2 hd3 eT ⊢
  obtain ⟨xs, hxs⟩ : ∃ xs, xs = R.2 := ⟨_, rfl⟩
  rw [← hxs] at hl hd1 hd2 ⊢
  match xs, hd2 with
  | [], _ =>
    have hlen : evLenSl lv = some (.int .i64 0) := strLen hl
    have b1 : evBin .lss (.int .i64 0) (.int .i64 0) = some (.bool false) := rfl
    refine ⟨A, ?_, h, fun _ _ => rfl⟩
    rw [iter_succ, cl39x0]
    simp [lp39x0, b1, hlen, -evBin, -evLenSl]
  | [b], _ =>
    obtain ⟨g1, g2, g3, g4, g5, g6, g7⟩ := hd1 b (by simp)
    obtain ⟨i, q, l, w, h⟩ := h
    rw [g7] at hl
    obtain ⟨B, r, hB, pB⟩ := round39 h hy ht hr hl g1 g2 g3 g4 g5 (by
      show X.to (numB b) = (E t).epoch
      rw [eT, hd3]; exact g6) hN
    have hep : ((({ X with e := E } : PS).e t).epoch) = (X.e t).epoch := by
      show (E t).epoch = _
      rw [eT, hd3]
    rw [hep] at hB
    have hlB : SlP 1 A lv ([b].map .str) := by rw [g7]; exact hl
    refine ⟨B, ?_, ⟨i, q, l, w, hB⟩, pB⟩
    rw [iter_succ, cl39x0, r]
    simp only
    rw [iter_succ, cl39x0]
    have hlen := strLen hl
    have ev : evLenSl lv = some (.int .i64 1) := hlen
    have b1 : evBin .lss (.int .i64 1) (.int .i64 1) = some (.bool false) := rfl
    simp [lp39x0, b1, ev, -evBin, -evLenSl]
set_option maxRecDepth 100000 in
set_option maxHeartbeats 4000000 in
theorem ev39 (hd : Handler) {A : Arena} {x : Nat} {X : PS} {P : List Nat} (h : LnP A x X P) {t : Nat} (ht : t < 2) {f : FrS} (hok : DelOk X t f) :
    ∃ B, H39 hd [.ptr x 0 0, flA (t, f)] A = some (pack [], B) ∧ LnP B x (recvP X t f) P ∧ ∀ j, j ∈ P → B[j]? = A[j]? := by
  obtain ⟨i, q, l, w, h⟩ := h
  obtain ⟨A1, hA1⟩ : ∃ A1, A1 = A ++ [Ent.row 6 false [flA (t, f)]] := ⟨_, rfl⟩
  obtain ⟨y, hy⟩ : ∃ y, y = A.length := ⟨_, rfl⟩
  have hF : Fr A A1 [] := by rw [hA1]; exact Fr.app _ _ _
  have hl1 : A1.length = A.length + 1 := by rw [hA1]; simp
  obtain ⟨h1, p1⟩ := h.more hF [y] (fun j hj => by rw [List.mem_singleton] at hj; omega)
  have hry : A1[y]? = some (.row 6 false [flA (t, f)]) := by rw [hA1, hy]; simp
  have hE := h1.end_ ht
  obtain ⟨B, out, v23, qv, lv, gB, slo, no, oo, FB⟩ := ev23 (fun _ _ _ => none) hE hok.a hok.b hok.c f
  obtain ⟨h2, p2⟩ := h1.step ht (out := idsOf out) gB oo FB (fun j hj => ⟨.inr (no j hj).1, slo.low j hj, (no j hj).2⟩)
  have hryB : B[y]? = some (.row 6 false [flA (t, f)]) := (p2 y (by simp)).trans hry
  obtain ⟨C, lp, hC, pC⟩ := loop39 (X := X) (t := t) (f := f) rfl ⟨_, _, _, _, h2⟩ hok ht (y := y) (by simp) hryB slo
  obtain ⟨D, v57, hD, pD⟩ := ev57 (fun _ _ _ => none) hC (by
    rcases (show t = 0 ∨ t = 1 by omega) with rfl | rfl
    · have e : (recv2 X 0 f).e 0 = (receiveS (X.e 0) f).1 := by
        show upd X.e 0 (receiveS (X.e 0) f).1 0 = _
        exact upd_same _ _ _
      rw [e]; exact hok.l
    · have e : (recv2 X 1 f).e 0 = X.e 0 := by
        show upd X.e 1 (receiveS (X.e 1) f).1 0 = X.e 0
        exact upd_ne _ _ (by omega)
      rw [e, show (X.e 0).lost = [] from hok.o]
      exact ⟨fun b hb => by simp at hb, List.nodup_nil⟩) (by
    rcases (show t = 0 ∨ t = 1 by omega) with rfl | rfl
    · have e : (recv2 X 0 f).e 1 = X.e 1 := by
        show upd X.e 0 (receiveS (X.e 0) f).1 1 = X.e 1
        exact upd_ne _ _ (by omega)
      rw [e, show (X.e 1).lost = [] from hok.o]
      exact ⟨fun b hb => by simp at hb, List.nodup_nil⟩
    · have e : (recv2 X 1 f).e 1 = (receiveS (X.e 1) f).1 := by
        show upd X.e 1 (receiveS (X.e 1) f).1 1 = _
        exact upd_same _ _ _
      have e0 : (recv2 X 1 f).e 0 = X.e 0 := by
        show upd X.e 1 (receiveS (X.e 1) f).1 0 = X.e 0
        exact upd_ne _ _ (by omega)
      rw [e, lostP_none (by rw [e0]; exact hok.o)]
      exact hok.l) (by
    rcases (show t = 0 ∨ t = 1 by omega) with rfl | rfl
    · have e : (recv2 X 0 f).e 1 = X.e 1 := by
        show upd X.e 0 (receiveS (X.e 0) f).1 1 = X.e 1
        exact upd_ne _ _ (by omega)
      have e2 : (recv2 X 0 f).e 0 = (receiveS (X.e 0) f).1 := by
        show upd X.e 0 (receiveS (X.e 0) f).1 0 = _
        exact upd_same _ _ _
      rw [e, e2, show (X.e 1).lost = [] from hok.o]
      exact ⟨hok.n, by simp⟩
    · have e : (recv2 X 1 f).e 1 = (receiveS (X.e 1) f).1 := by
        show upd X.e 1 (receiveS (X.e 1) f).1 1 = _
        exact upd_same _ _ _
      have e0 : (recv2 X 1 f).e 0 = X.e 0 := by
        show upd X.e 1 (receiveS (X.e 1) f).1 0 = X.e 0
        exact upd_ne _ _ (by omega)
      rw [e, e0, show (X.e 0).lost = [] from hok.o]
      exact ⟨by simp, hok.n⟩) hok.N
  rw [recvP_eq ht f hok.o] at hD
  have mP : ∀ j, j ∈ P → j ∈ idsOf out ++ ([y] ++ P) := fun j hj => by simp [hj]
  obtain ⟨i', q', l', w', hD⟩ := hD
  refine ⟨D, ?_, ⟨i', q', l', w', hD.less mP⟩, fun j hj => (pD j (mP j hj)).trans ((pC j (mP j hj)).trans ((p2 j (by simp [hj])).trans (p1 j hj)))⟩
  have hrow := h1.row
  obtain ⟨xi, li⟩ := h1.idx ht
  have ly0 : evLoad false 1 A1 (.ptr y 0 0) = some (.int .i64 (t : Int)) := by
    simp only [evLoad, hry]; rfl
  have ly1 : evLoad true 5 A1 (.ptr y 0 1) = some (frA f) := by
    simp only [evLoad, hry]; rfl
  have hry' : A1[y]? = some (.row 6 false [.agg [.int .i64 (t : Int), .int .i64 f.fr, .int .i64 f.to, .int .i64 f.seq, .int .i64 f.ack, .str f.body]]) := hry
  have bx : A ++ [Ent.row 6 false [.agg [.int .i64 (t : Int), .int .i64 f.fr, .int .i64 f.to, .int .i64 f.seq, .int .i64 f.ack, .str f.body]]] = A1 := hA1.symm
  unfold H39
  rw [evFun_run _ _ rfl]
  simp [mf39, flA, evBox, bx, ← hy, hrow, hry', xi, li, ly0, ly1, v23, go39x0 lp, v57, -evBin, -pureH, -evLoad]
end Go.Proofs.Ytfidjdlmmcaplaa
/-
  Link: an end of the line ticks.
-/
namespace Go.Proofs.Ytfidjdlmmcaplaa
open Go

noncomputable def fs40 : List (FuncId × HModel) := [(19, H19), (26, pureH 4 M26), (34, pureH 4 M34), (56, pureH 4 M56)]
@[simp] theorem fs40_19 : lookM fs40 19 = some (H19) := rfl
@[simp] theorem fs40_26 : lookM fs40 26 = some (pureH 4 M26) := rfl
@[simp] theorem fs40_34 : lookM fs40 34 = some (pureH 4 M34) := rfl
@[simp] theorem fs40_56 : lookM fs40 56 = some (pureH 4 M56) := rfl
theorem sound40 : ∀ f M, lookM fs40 f = some M → FnSpecY Try.prog GW f M := lookM_cons spec19 (lookM_cons (FnSpecY.of_pure spec26 4) (lookM_cons (FnSpecY.of_pure spec34 4) (lookM_cons (FnSpecY.of_pure spec56 4) lookM_nil)))
noncomputable def H40 : HModel := fun _ => evFun (envOf GW fs40) 300 mf40
theorem spec40 : FnSpecY Try.prog GW 40 H40 := (evFun_sound (envOf_sound sound40) rfl at40 comp40 (by first | exact PureIn.nil | (repeat (first | exact PureIn.nil | refine PureIn.cons (M := _) rfl ?_)))).y
theorem frCell {A : Arena} {v : AV} {xs : List FrS} (h : SlP 5 A v (xs.map frA)) {i : Nat} (hi : i < xs.length) : ∃ r es, r ∈ idsOf v ∧ A[r]? = some (.row 5 false es) ∧ ∀ B : Arena, B[r]? = A[r]? → evIndexSl 5 B v (.int .i64 (i : Int)) = some (.ptr r i 0) ∧ evLoad true 5 B (.ptr r i 0) = some (frA xs[i]) ∧ evLoad false 1 B (.ptr r i 0) = some (.int .i64 xs[i].fr) ∧ evLoad false 1 B (.ptr r i 1) = some (.int .i64 xs[i].to) ∧ evLoad false 1 B (.ptr r i 2) = some (.int .i64 xs[i].seq) ∧ evLoad false 1 B (.ptr r i 4) = some (.str xs[i].body) := by
  obtain ⟨r, es, h1, h2, h3, h4⟩ := h.index (i := i) (by simpa using hi) (by decide) .i64
  rw [List.getElem_map] at h3
  refine ⟨r, es, by rw [h1]; simp [idsOf], h2, fun B hB => ⟨?_, ?_, ?_, ?_, ?_, ?_⟩⟩
  · rw [← h4, h1]
    simp only [evIndexSl, hB]
  all_goals
    simp only [evLoad, hB, h2, h3]
    rfl
def oneP (X : PS) (s : Nat) (f : FrS) : PS := { X with fl := X.fl ++ [(1 - s, f)], to := if f.seq > 0 then upd X.to (numB f.body) f.to else X.to }
/-- a tick's frame, as the line expects it -/
def TickF (X : PS) (p : Int) (s : Nat) (f : FrS) : Prop := okF f ∧ f.fr = (X.e s).epoch ∧ (f.seq > 0 → f.to = p ∧ ∃ n, f.body = txt n ∧ 1 ≤ n ∧ n < X.N ∧ (X.to n = 0 ∨ X.to n = p))
set_option maxRecDepth 100000 in
set_option maxHeartbeats 8000000 in
theorem round40 {A : Arena} {x : Nat} {X : PS} {P : List Nat} (h : LnP A x X P) {s : Nat} (hs : s < 2) {lv : AV} {xs : List FrS} (hl : SlP 5 A lv (xs.map frA)) (hlP : ∀ j, j ∈ idsOf lv → j ∈ P) {j : Nat} (hj : j < xs.length) (hx : xs.length ≤ 1000) {f : FrS} (hf : xs[j] = f) {p : Int} (ht : TickF X p s f) (hN : X.N < 300) (hfl : X.fl.length ≤ 1000000) :
    ∃ B, run (envOf GW fs40) 300 [.code lp40x0] (st40x0 (.ptr x 0 0) (.int .i64 (s : Int)) lv (.int .i64 (j : Int))) A = some (.normal (st40x0 (.ptr x 0 0) (.int .i64 (s : Int)) lv (.int .i64 ((j + 1 : Nat) : Int))) B) ∧ LnP B x (oneP X s f) P ∧ ∀ j, j ∈ P → B[j]? = A[j]? := by
  obtain ⟨i, q, l, w, h⟩ := h
  obtain ⟨t1, t2, t3⟩ := ht
  obtain ⟨r, es, rP, hr, hc⟩ := frCell hl hj
  obtain ⟨c1, c2, c3, c4, c5, c6⟩ := hc A rfl
  rw [hf] at c2 c3 c4 c5 c6
  have c2' : evLoad true 5 A (.ptr r j 0) = some (.agg [.int .i64 f.fr, .int .i64 f.to, .int .i64 f.seq, .int .i64 f.ack, .str f.body]) := c2
  have hlen := frLen hl
  have hE := h.end_ hs
  have a26 := ev26 hE (fun _ _ _ => none)
  have hrow := h.row
  obtain ⟨xi, li⟩ := h.idx hs
  have m34 : pureH 4 M34 (fun _ _ _ => none) [.agg [.int .i64 f.fr, .int .i64 f.to, .int .i64 f.seq, .int .i64 f.ack, .str f.body]] A = some (.bool true, A) := by
    have := M34_eq f
    unfold frA at this
    rw [pHf, this, decide_eq_true t1]
    rfl
  have b1 := evLss (j : Int) (xs.length : Int)
  rw [decide_eq_true (by omega)] at b1
  have b2 := evNeq f.fr (X.e s).epoch
  rw [decide_eq_false (by simp [t2])] at b2
  have b3 := evGtr f.seq 0
  have b4 := evSub (a := 1) (b := (s : Int)) (by omega)
  rw [show (1 : Int) - (s : Int) = ((1 - s : Nat) : Int) by omega] at b4
  have b5 := evAdd (a := (j : Int)) (b := 1) (by omega)
  rw [show (j : Int) + 1 = ((j + 1 : Nat) : Int) by omega] at b5
  obtain ⟨u, hu⟩ : ∃ u, u = j + 1 := ⟨_, rfl⟩
  rw [← hu] at b5 ⊢
  obtain ⟨t, ht⟩ : ∃ t, t = 1 - s := ⟨_, rfl⟩
  rw [← ht] at b4
  by_cases hq : f.seq > 0
  · rw [decide_eq_true hq] at b3
    obtain ⟨g1, n, g2, g3, g4, g5⟩ := t3 hq
    have m56 := M56_eq (n := n) (by omega)
    have m := pHs M56 (fun _ _ _ => none) A (txt n)
    rw [m56] at m
    rw [g2] at c6
    have f5 : evLoad false 1 A (.ptr x 0 5) = some (w 3) := h.ldw (k := 3) (by omega)
    have hl3 := h.len (k := 3) (by omega)
    rw [cont_len X (by omega) (by omega)] at hl3
    obtain ⟨r2, x2, l2⟩ := h.gto g4
    obtain ⟨r4, B, x4, st, hB, pB⟩ := h.put (k := 3) (n := n) (v := .int .i64 f.to) (by omega) (by omega) (by rw [cont_len X (by omega) (by omega)]; exact g4) ⟨rfl, rfl⟩
    rw [cont_to X g4] at hB
    rw [x2] at x4
    injection x4 with x4
    injection x4 with x4
    subst x4
    obtain ⟨X1, hX1⟩ : ∃ X1 : PS, X1 = { X with to := upd X.to n f.to } := ⟨_, rfl⟩
    rw [← hX1] at hB
    have hX1e : X1.e = X.e := by rw [hX1]
    have hX1f : X1.fl = X.fl := by rw [hX1]
    have hX1l : X1.la = X.la := by rw [hX1]
    rw [← hX1e, ← hX1l] at hB
    obtain ⟨C, D, k1, k2, hD, pD, rC⟩ := hB.push (k := 0) (bytes := 56) (v := flA (t, f)) (by omega) (by omega) (by
      show ((X1.fl.map flA).length + 1) * 56 ≤ _
      rw [hX1f]; simp; omega)
    have hcf : cont X1 0 ++ [flA (t, f)] = (X1.fl ++ [(t, f)]).map flA := by simp [cont]
    rw [hcf] at k1 k2 hD
    rw [cont_fl] at hD
    have hrowB := hB.row
    rw [hrowB] at rC
    have frB : evLoad false 1 B (.ptr x 0 2) = some (w 0) := hB.ldw (k := 0) (by omega)
    obtain ⟨d1, d2, d3, d4, d5, d6⟩ := hc B (pB r (hlP r rP))
    rw [hf] at d2
    have d2' : evLoad true 5 B (.ptr r j 0) = some (.agg [.int .i64 f.fr, .int .i64 f.to, .int .i64 f.seq, .int .i64 f.ack, .str f.body]) := d2
    have hrB : B[r]? = some (.row 5 false es) := (pB r (hlP r rP)).trans hr
    have b6 := evLss (n : Int) 1
    rw [decide_eq_false (by omega)] at b6
    have b7 := evGeq (n : Int) (X.N : Int)
    rw [decide_eq_false (by omega)] at b7
    have k1' : evAppendN 6 56 B (w 0) (.fs 6 [.agg [.int .i64 (t : Int), .int .i64 f.fr, .int .i64 f.to, .int .i64 f.seq, .int .i64 f.ack, .str f.body]]) = some (.sl B.length 0 ((X1.fl ++ [(t, f)]).map flA).length, C) := k1
    have k2' : evStore 1 C (.ptr x 0 2) (.sl B.length 0 ((X1.fl ++ [(t, f)]).map flA).length) = some D := k2
    obtain ⟨L, hL⟩ : ∃ L, L = ((X1.fl ++ [(t, f)]).map flA).length := ⟨_, rfl⟩
    rw [← hL] at k1' k2'
    have hfin : ({ X1 with fl := X1.fl ++ [(t, f)] } : PS) = oneP X s f := by
      rw [hX1, ht]
      unfold oneP
      rw [if_pos hq, g2, numB_txt n (by omega)]
    rw [hfin] at hD
    have e1 : X1.e = (oneP X s f).e := by rw [hX1]; rfl
    have e2 : X1.la = (oneP X s f).la := by rw [hX1]; rfl
    rw [e1, e2] at hD
    refine ⟨D, ?_, ⟨i, q, l, _, hD⟩, fun j hj => (pD j hj).trans (pB j hj)⟩
    rcases g5 with g5 | g5
    · rw [g5] at l2
      have b8 : evBin .neq (.int .i64 0) (.int .i64 0) = some (.bool false) := rfl
      simp [lp40x0, b1, b2, b3, b4, b5, b6, b7, b8, c1, c2', c3, c4, c5, c6, d1, d2', d3, d4, hlen, a26, hrow, xi, li, hr, m34, m, f5, hl3, x2, l2, st, hrowB, frB, hrB, k1', k2', rC, -evBin, -pureH, -evLenSl, -evIndexSl, -evLoad, -evStore]
    · have b8 := evNeq (X.to n) 0
      have b9 := evNeq (X.to n) f.to
      rw [decide_eq_false (by rw [g5, g1]; simp)] at b9
      by_cases h0 : X.to n = 0
      · rw [decide_eq_false (by simp [h0])] at b8
        simp [lp40x0, b1, b2, b3, b4, b5, b6, b7, b8, c1, c2', c3, c4, c5, c6, d1, d2', d3, d4, hlen, a26, hrow, xi, li, hr, m34, m, f5, hl3, x2, l2, st, hrowB, frB, hrB, k1', k2', rC, -evBin, -pureH, -evLenSl, -evIndexSl, -evLoad, -evStore]
      · rw [decide_eq_true h0] at b8
        simp [lp40x0, b1, b2, b3, b4, b5, b6, b7, b8, b9, c1, c2', c3, c4, c5, c6, d1, d2', d3, d4, hlen, a26, hrow, xi, li, hr, m34, m, f5, hl3, x2, l2, st, hrowB, frB, hrB, k1', k2', rC, -evBin, -pureH, -evLenSl, -evIndexSl, -evLoad, -evStore]
  · rw [decide_eq_false hq] at b3
    obtain ⟨C, D, k1, k2, hD, pD, rC⟩ := h.push (k := 0) (bytes := 56) (v := flA (t, f)) (by omega) (by omega) (by
      show ((X.fl.map flA).length + 1) * 56 ≤ _
      simp; omega)
    have hcf : cont X 0 ++ [flA (t, f)] = (X.fl ++ [(t, f)]).map flA := by simp [cont]
    rw [hcf] at k1 k2 hD
    rw [cont_fl] at hD
    rw [hrow] at rC
    have frB : evLoad false 1 A (.ptr x 0 2) = some (w 0) := h.ldw (k := 0) (by omega)
    have k1' : evAppendN 6 56 A (w 0) (.fs 6 [.agg [.int .i64 (t : Int), .int .i64 f.fr, .int .i64 f.to, .int .i64 f.seq, .int .i64 f.ack, .str f.body]]) = some (.sl A.length 0 ((X.fl ++ [(t, f)]).map flA).length, C) := k1
    have k2' : evStore 1 C (.ptr x 0 2) (.sl A.length 0 ((X.fl ++ [(t, f)]).map flA).length) = some D := k2
    obtain ⟨L, hL⟩ : ∃ L, L = ((X.fl ++ [(t, f)]).map flA).length := ⟨_, rfl⟩
    rw [← hL] at k1' k2'
    have hfin : ({ X with fl := X.fl ++ [(t, f)] } : PS) = oneP X s f := by
      rw [ht]
      unfold oneP
      rw [if_neg hq]
    rw [hfin] at hD
    refine ⟨D, ?_, ⟨i, q, l, _, hD⟩, pD⟩
    simp [lp40x0, b1, b2, b3, b4, b5, c1, c2', c3, c4, c5, hlen, a26, hrow, xi, li, hr, m34, frB, k1', k2', rC, -evBin, -pureH, -evLenSl, -evIndexSl, -evLoad, -evStore]
theorem TickF.one {X : PS} {p : Int} {s : Nat} {f g : FrS} (hf : TickF X p s f) (hg : TickF X p s g) : TickF (oneP X s f) p s g := by
  obtain ⟨a1, a2, a3⟩ := hg
  refine ⟨a1, a2, fun hq => ?_⟩
  obtain ⟨b1, n, b2, b3, b4, b5⟩ := a3 hq
  refine ⟨b1, n, b2, b3, b4, ?_⟩
  show (if f.seq > 0 then upd X.to (numB f.body) f.to else X.to) n = 0 ∨ (if f.seq > 0 then upd X.to (numB f.body) f.to else X.to) n = p
  split
  · rename_i h
    by_cases c : n = numB f.body
    · subst c
      rw [upd_same]
      exact .inr (hf.2.2 h).1
    · rw [upd_ne _ _ c]; exact b5
  · exact b5
def allP (X : PS) (s : Nat) (xs : List FrS) : PS := { X with fl := X.fl ++ xs.map (fun f => (1 - s, f)), to := toAll xs X.to }
theorem allP_cons (X : PS) (s : Nat) (f : FrS) (xs : List FrS) : allP (oneP X s f) s xs = allP X s (f :: xs) := by
  unfold allP oneP
  simp only [List.map_cons, List.append_assoc, List.singleton_append, toAll_cons]
theorem loop40 {x : Nat} {P : List Nat} {s : Nat} (hs : s < 2) {lv : AV} {xs : List FrS} (hlP : ∀ j, j ∈ idsOf lv → j ∈ P) (hx : xs.length ≤ 1000) {p : Int} : ∀ (k j m : Nat) (A : Arena) (X : PS), LnP A x X P → SlP 5 A lv (xs.map frA) → j + k = xs.length → k < m → X.N < 300 → X.fl.length + k ≤ 1000000 → (∀ f ∈ xs.drop j, TickF X p s f) →
    ∃ B, iter (evC (envOf GW fs40) 300 lp40x0) mask40x0 m (st40x0 (.ptr x 0 0) (.int .i64 (s : Int)) lv (.int .i64 (j : Int))) A = some (.exit 0 ((st40x0 (.ptr x 0 0) (.int .i64 (s : Int)) lv (.int .i64 (xs.length : Int))).set 5 (.bool false)) B) ∧
      LnP B x (allP X s (xs.drop j)) P ∧ ∀ j, j ∈ P → B[j]? = A[j]?
  | _, _, 0, _, _, _, _, _, h, _, _, _ => by omega
  | 0, j, m + 1, A, X, h, hl, hj, hn, hN, hfl, ht => by
    obtain rfl : j = xs.length := by omega
    have b1 := evLss (xs.length : Int) (xs.length : Int)
    rw [decide_eq_false (by omega)] at b1
    have hlen := frLen hl
    refine ⟨A, ?_, ?_, fun _ _ => rfl⟩
    · rw [iter_succ, cl40x0]
      simp [lp40x0, b1, hlen, -evBin, -evLenSl]
    · rw [List.drop_length]
      have e : allP X s [] = X := by
        unfold allP
        rw [List.map_nil, List.append_nil]
        rfl
      rw [e]; exact h
  | k + 1, j, m + 1, A, X, h, hl, hj, hn, hN, hfl, ht => by
    have hjl : j < xs.length := by omega
    rw [List.drop_eq_getElem_cons hjl] at ht ⊢
    have hf := ht _ (List.mem_cons_self)
    obtain ⟨B, r, hB, pB⟩ := round40 h hs hl hlP hjl hx rfl hf hN (by omega)
    obtain ⟨C, lp, hC, pC⟩ := loop40 hs hlP hx (p := p) k (j + 1) m B (oneP X s xs[j]) hB (hl.keep fun j hj => pB j (hlP j hj)) (by omega) (by omega) hN (by
      show (X.fl ++ [(1 - s, xs[j])]).length + k ≤ _
      simp; omega) (fun g hg => hf.one (ht g (List.mem_cons_of_mem _ hg)))
    rw [allP_cons] at hC
    refine ⟨C, ?_, hC, fun j hj => (pC j hj).trans (pB j hj)⟩
    rw [iter_succ, cl40x0, r]
    exact lp
theorem tick_len (S : EndS) : (tickS S).2.length ≤ 9 := by
  unfold tickS
  have h1 : (tick1 S).2.length ≤ 8 := by
    rw [tick1_eq]
    unfold p1
    split
    · exact outO_len _
    · simp
  split
  · simp; omega
  · omega
set_option maxRecDepth 100000 in
set_option maxHeartbeats 4000000 in
theorem ev40 (hd : Handler) {A : Arena} {x : Nat} {X : PS} {P : List Nat} (h : LnP A x X P) {s : Nat} (hs : s < 2) (hb : Bd (X.e s)) (ht : ∀ f ∈ (tickS (X.e s)).2, TickF X (X.e s).peer s f) (hN : X.N < 300) (hfl : X.fl.length ≤ 100000) :
    ∃ B, H40 hd [.ptr x 0 0, .int .i64 (s : Int)] A = some (pack [], B) ∧ LnP B x (tickP X s) P ∧ ∀ j, j ∈ P → B[j]? = A[j]? := by
  obtain ⟨i, q, l, w, h⟩ := h
  have hE := h.end_ hs
  obtain ⟨B, out, v19, gB, slo, no, FB⟩ := ev19 hE (fun _ _ _ => none) hb
  obtain ⟨h2, p2⟩ := h.step hs (out := idsOf out) gB (fun j hj => .inl hj) FB (fun j hj => ⟨.inr (no j hj), slo.low j hj, fun h2 => by
    have := hE.low j h2
    have := no j hj
    omega⟩)
  have hlen := tick_len (X.e s)
  obtain ⟨C, lp, hC, pC⟩ := loop40 hs (P := idsOf out ++ P) (lv := out) (fun j hj => List.mem_append.2 (.inl hj)) (by omega) (p := (X.e s).peer) (tickS (X.e s)).2.length 0 300 B { X with e := upd X.e s (tickS (X.e s)).1 } ⟨i, _, _, w, h2⟩ slo (by omega) (by omega) hN (by
    show X.fl.length + _ ≤ _
    omega) (fun f hf => by
    obtain ⟨a1, a2, a3⟩ := ht f (by rw [List.drop_zero] at hf; exact hf)
    refine ⟨a1, ?_, a3⟩
    show f.fr = (upd X.e s (tickS (X.e s)).1 s).epoch
    rw [upd_same, (tick_rest (X.e s)).1]
    exact a2)
  rw [List.drop_zero] at hC
  obtain ⟨i', q', l', w', hC⟩ := hC
  have inP : ∀ j, j ∈ P → j ∈ idsOf out ++ P := fun j hj => List.mem_append.2 (.inr hj)
  refine ⟨C, ?_, ⟨i', q', l', w', hC.less inP⟩, fun j hj => (pC j (inP j hj)).trans (p2 j hj)⟩
  have hrow := h.row
  obtain ⟨xi, li⟩ := h.idx hs
  have lp' : iter (evC (envOf GW fs40) 300 lp40x0) mask40x0 300 (st40x0 (.ptr x 0 0) (.int .i64 (s : Int)) out (.int .i64 0)) B = some (.exit 0 ((st40x0 (.ptr x 0 0) (.int .i64 (s : Int)) out (.int .i64 ((tickS (X.e s)).2.length : Int))).set 5 (.bool false)) C) := lp
  unfold H40
  rw [evFun_run _ _ rfl]
  simp [mf40, hrow, xi, li, v19, go40x0 lp', -evBin, -evLoad]
theorem J.tickF {X : PS} {G : Logs} (h : J X G) {s n : Nat} (hs : s < 2) (hw : ∀ t, t < 2 → Wf n (X.e t)) (hn : n ≤ 2000) : ∀ f ∈ (tickS (X.e s)).2, TickF X (X.e s).peer s f := by
  intro f hf
  obtain ⟨a1, a2, a3, _⟩ := h.frames hs hw hn hf
  refine ⟨a1, a2, fun hq => ?_⟩
  obtain ⟨b1, _, k, m, b2, b3, b4, b5⟩ := a3 hq
  have := h.gm s hs _ _ m (List.mem_of_getElem? b2)
  exact ⟨b1, m, b4, this.1, this.2.1, b5⟩
end Go.Proofs.Ytfidjdlmmcaplaa
/-
  Link: a deed.
-/
namespace Go.Proofs.Ytfidjdlmmcaplaa
open Go

noncomputable def fs37 : List (FuncId × HModel) := [(13, H13), (15, pureH 4 M15), (16, H16), (17, pureH 4 M17), (26, pureH 4 M26), (38, H38), (39, H39), (40, H40)]
@[simp] theorem fs37_13 : lookM fs37 13 = some (H13) := rfl
@[simp] theorem fs37_15 : lookM fs37 15 = some (pureH 4 M15) := rfl
@[simp] theorem fs37_16 : lookM fs37 16 = some (H16) := rfl
@[simp] theorem fs37_17 : lookM fs37 17 = some (pureH 4 M17) := rfl
@[simp] theorem fs37_26 : lookM fs37 26 = some (pureH 4 M26) := rfl
@[simp] theorem fs37_38 : lookM fs37 38 = some (H38) := rfl
@[simp] theorem fs37_39 : lookM fs37 39 = some (H39) := rfl
@[simp] theorem fs37_40 : lookM fs37 40 = some (H40) := rfl
theorem sound37 : ∀ f M, lookM fs37 f = some M → FnSpecY Try.prog GW f M := lookM_cons spec13 (lookM_cons (FnSpecY.of_pure spec15 4) (lookM_cons spec16 (lookM_cons (FnSpecY.of_pure spec17 4) (lookM_cons (FnSpecY.of_pure spec26 4) (lookM_cons spec38 (lookM_cons spec39 (lookM_cons spec40 lookM_nil)))))))
noncomputable def H37 : HModel := fun _ => evFun (envOf GW fs37) 300 mf37
theorem spec37 : FnSpecY Try.prog GW 37 H37 := (evFun_sound (envOf_sound sound37) rfl at37 comp37 (by first | exact PureIn.nil | (repeat (first | exact PureIn.nil | refine PureIn.cons (M := _) rfl ?_)))).y
def DR0 : MC := .region [⟨some 2, .box (.var 1), none⟩]
def DR1 : MC := .region [⟨none, .indexArr 3 1 (.var 2) (.cst (.int .i64 1)), none⟩, ⟨none, .load false 1 (.tmp 0), none⟩, ⟨none, .call (.fn 15) [.tmp 1, .cst (.int .i64 2)], none⟩, ⟨some 3, .mv (.tmp 2), none⟩]
def DR2 : MC := .region [⟨none, .indexArr 3 1 (.var 2) (.cst (.int .i64 0)), none⟩, ⟨none, .load false 1 (.tmp 0), none⟩, ⟨some 8, .call (.fn 15) [.tmp 1, .cst (.int .i64 12)], none⟩]
def DTST1 : MC := .seq (.region [⟨none, .bin .eql (.var 8) (.cst (.int .i64 0)), none⟩, ⟨some 12, .mv (.tmp 0), none⟩]) (.cond (.var 12) .skip (.seq (.region [⟨none, .bin .eql (.var 8) (.cst (.int .i64 1)), none⟩, ⟨some 12, .mv (.tmp 0), none⟩]) (.cond (.var 12) .skip (.region [⟨none, .bin .eql (.var 8) (.cst (.int .i64 2)), none⟩, ⟨some 12, .mv (.tmp 0), none⟩]))))
def DSD0 : MC := .region [⟨none, .mv (.var 0), none⟩, ⟨none, .mv (.var 3), none⟩, ⟨none, .nilCheck (.tmp 0), none⟩, ⟨none, .fieldAddr 0 (.tmp 2), none⟩, ⟨none, .indexArr 2 1 (.tmp 3) (.tmp 1), none⟩, ⟨none, .load false 1 (.tmp 4), none⟩, ⟨none, .mv (.var 0), none⟩, ⟨none, .nilCheck (.tmp 6), none⟩, ⟨none, .fieldAddr 3 (.tmp 7), none⟩, ⟨none, .load false 1 (.tmp 8), none⟩, ⟨none, .lenSl (.tmp 9), none⟩, ⟨none, .call (.fn 17) [.tmp 10], none⟩, ⟨none, .call (.fn 16) [.tmp 5, .tmp 11], none⟩, ⟨some 13, .bin .eql (.tmp 12) (.cst (.int .i64 0)), none⟩]
def DSP1 : MC := .region [⟨none, .mv (.var 0), none⟩, ⟨none, .mv (.var 0), none⟩, ⟨none, .nilCheck (.tmp 1), none⟩, ⟨none, .fieldAddr 3 (.tmp 2), none⟩, ⟨none, .load false 1 (.tmp 3), none⟩, ⟨none, .mv (.var 3), none⟩, ⟨none, .buildF 1 [.tmp 5], none⟩, ⟨none, .appendN 1 8 (.tmp 4) (.tmp 6), none⟩, ⟨none, .nilCheck (.tmp 0), none⟩, ⟨none, .fieldAddr 3 (.tmp 8), none⟩, ⟨none, .store 1 (.tmp 9) (.tmp 7), none⟩]
def DSP2 : MC := .region [⟨none, .mv (.var 0), none⟩, ⟨none, .mv (.var 0), none⟩, ⟨none, .nilCheck (.tmp 1), none⟩, ⟨none, .fieldAddr 4 (.tmp 2), none⟩, ⟨none, .load false 1 (.tmp 3), none⟩, ⟨none, .mv (.var 0), none⟩, ⟨none, .mv (.var 3), none⟩, ⟨none, .nilCheck (.tmp 5), none⟩, ⟨none, .fieldAddr 0 (.tmp 7), none⟩, ⟨none, .indexArr 2 1 (.tmp 8) (.tmp 6), none⟩, ⟨none, .load false 1 (.tmp 9), none⟩, ⟨none, .call (.fn 26) [.tmp 10], none⟩, ⟨none, .buildF 1 [.tmp 11], none⟩, ⟨none, .appendN 1 8 (.tmp 4) (.tmp 12), none⟩, ⟨none, .nilCheck (.tmp 0), none⟩, ⟨none, .fieldAddr 4 (.tmp 14), none⟩, ⟨none, .store 1 (.tmp 15) (.tmp 13), none⟩]
def DSP3 : MC := .region [⟨none, .mv (.var 0), none⟩, ⟨none, .mv (.var 0), none⟩, ⟨none, .nilCheck (.tmp 1), none⟩, ⟨none, .fieldAddr 5 (.tmp 2), none⟩, ⟨none, .load false 1 (.tmp 3), none⟩, ⟨none, .buildF 1 [.cst (.int .i64 0)], none⟩, ⟨none, .appendN 1 8 (.tmp 4) (.tmp 5), none⟩, ⟨none, .nilCheck (.tmp 0), none⟩, ⟨none, .fieldAddr 5 (.tmp 7), none⟩, ⟨none, .store 1 (.tmp 8) (.tmp 6), none⟩]
def DSP4 : MC := .region [⟨none, .mv (.var 0), none⟩, ⟨none, .mv (.var 0), none⟩, ⟨none, .nilCheck (.tmp 1), none⟩, ⟨none, .fieldAddr 6 (.tmp 2), none⟩, ⟨none, .load false 1 (.tmp 3), none⟩, ⟨none, .buildF 1 [.cst (.int .i64 0)], none⟩, ⟨none, .appendN 1 8 (.tmp 4) (.tmp 5), none⟩, ⟨none, .nilCheck (.tmp 0), none⟩, ⟨none, .fieldAddr 6 (.tmp 7), none⟩, ⟨none, .store 1 (.tmp 8) (.tmp 6), none⟩]
def DSP5 : MC := .region [⟨none, .mv (.var 0), none⟩, ⟨none, .mv (.var 0), none⟩, ⟨none, .nilCheck (.tmp 1), none⟩, ⟨none, .fieldAddr 7 (.tmp 2), none⟩, ⟨none, .load false 1 (.tmp 3), none⟩, ⟨none, .buildF 1 [.cst (.bool false)], none⟩, ⟨none, .appendN 1 1 (.tmp 4) (.tmp 5), none⟩, ⟨none, .nilCheck (.tmp 0), none⟩, ⟨none, .fieldAddr 7 (.tmp 7), none⟩, ⟨none, .store 1 (.tmp 8) (.tmp 6), none⟩]
def DTST2 : MC := .seq (.region [⟨none, .bin .eql (.var 8) (.cst (.int .i64 3)), none⟩, ⟨some 14, .mv (.tmp 0), none⟩]) (.cond (.var 14) .skip (.seq (.region [⟨none, .bin .eql (.var 8) (.cst (.int .i64 4)), none⟩, ⟨some 14, .mv (.tmp 0), none⟩]) (.cond (.var 14) .skip (.region [⟨none, .bin .eql (.var 8) (.cst (.int .i64 5)), none⟩, ⟨some 14, .mv (.tmp 0), none⟩]))))
def DTICK : MC := .region [⟨none, .mv (.var 0), none⟩, ⟨none, .mv (.var 3), none⟩, ⟨none, .call (.fn 40) [.tmp 0, .tmp 1], none⟩]
def DTST3 : MC := .region [⟨none, .bin .eql (.var 8) (.cst (.int .i64 11)), none⟩, ⟨some 15, .mv (.tmp 0), none⟩]
def DNEW : MC := .seq (.region [⟨none, .mv (.var 0), none⟩, ⟨none, .mv (.var 3), none⟩, ⟨none, .nilCheck (.tmp 0), none⟩, ⟨none, .fieldAddr 0 (.tmp 2), none⟩, ⟨none, .indexArr 2 1 (.tmp 3) (.tmp 1), none⟩, ⟨none, .load false 1 (.tmp 4), none⟩, ⟨none, .call (.fn 26) [.tmp 5], none⟩, ⟨none, .bin .add (.tmp 6) (.cst (.int .i64 1)), none⟩, ⟨none, .indexArr 3 1 (.var 2) (.cst (.int .i64 2)), none⟩, ⟨none, .load false 1 (.tmp 8), none⟩, ⟨none, .call (.fn 15) [.tmp 9, .cst (.int .i64 3)], none⟩, ⟨none, .bin .add (.tmp 7) (.tmp 10), none⟩, ⟨none, .call (.fn 13) [.tmp 11], none⟩, ⟨none, .mv (.tmp 12), none⟩, ⟨none, .extract (.tmp 13) 0, none⟩, ⟨none, .extract (.tmp 13) 1, none⟩, ⟨some 4, .mv (.tmp 14), none⟩, ⟨some 5, .mv (.tmp 15), none⟩]) (.seq (.seq (.region [⟨none, .mv (.var 5), none⟩, ⟨none, .bin .neq (.tmp 0) (.cst (.int .i64 0)), none⟩, ⟨none, .mv (.tmp 1), none⟩, ⟨none, .mv (.var 4), some (.tmp 2, false)⟩, ⟨none, .eqNil 0 false (.tmp 3), some (.tmp 2, false)⟩, ⟨some 16, .pick (.tmp 2) (.cst (.bool true)) (.tmp 4), none⟩]) (.cond (.var 16) (.seq (.region [⟨none, .mv (.var 0), none⟩, ⟨none, .nilCheck (.tmp 0), none⟩, ⟨none, .fieldAddr 10 (.tmp 1), none⟩, ⟨none, .store 1 (.tmp 2) (.cst (.bool false)), none⟩]) .ret) .skip)) (.region [⟨none, .mv (.var 0), none⟩, ⟨none, .mv (.var 3), none⟩, ⟨none, .mv (.var 4), none⟩, ⟨none, .nilCheck (.tmp 0), none⟩, ⟨none, .fieldAddr 0 (.tmp 3), none⟩, ⟨none, .indexArr 2 1 (.tmp 4) (.tmp 1), none⟩, ⟨none, .store 1 (.tmp 5) (.tmp 2), none⟩]))
def DDEF : MC := .seq (.seq (.region [⟨none, .mv (.var 0), none⟩, ⟨none, .nilCheck (.tmp 0), none⟩, ⟨none, .fieldAddr 2 (.tmp 1), none⟩, ⟨none, .load false 1 (.tmp 2), none⟩, ⟨none, .lenSl (.tmp 3), none⟩, ⟨some 9, .bin .eql (.tmp 4) (.cst (.int .i64 0)), none⟩]) (.cond (.var 9) .ret .skip)) (.seq (.region [⟨none, .indexArr 3 1 (.var 2) (.cst (.int .i64 2)), none⟩, ⟨none, .load false 1 (.tmp 0), none⟩, ⟨none, .mv (.var 0), none⟩, ⟨none, .nilCheck (.tmp 2), none⟩, ⟨none, .fieldAddr 2 (.tmp 3), none⟩, ⟨none, .load false 1 (.tmp 4), none⟩, ⟨none, .lenSl (.tmp 5), none⟩, ⟨none, .call (.fn 15) [.tmp 1, .tmp 6], none⟩, ⟨some 6, .mv (.tmp 7), none⟩]) (.seq (.region [⟨none, .mv (.var 0), none⟩, ⟨none, .nilCheck (.tmp 0), none⟩, ⟨none, .fieldAddr 2 (.tmp 1), none⟩, ⟨none, .load false 1 (.tmp 2), none⟩, ⟨none, .mv (.var 6), none⟩, ⟨none, .indexSl 6 (.tmp 3) (.tmp 4), none⟩, ⟨none, .load true 6 (.tmp 5), none⟩, ⟨some 7, .alloc 6 (.agg [.int .i64 0, .int .i64 0, .int .i64 0, .int .i64 0, .int .i64 0, .str []]), none⟩, ⟨none, .store 6 (.var 7) (.tmp 6), none⟩]) (.seq (.seq (.region [⟨none, .indexArr 3 1 (.var 2) (.cst (.int .i64 0)), none⟩, ⟨none, .load false 1 (.tmp 0), none⟩, ⟨none, .call (.fn 15) [.tmp 1, .cst (.int .i64 12)], none⟩, ⟨some 10, .bin .neq (.tmp 2) (.cst (.int .i64 9)), none⟩]) (.cond (.var 10) (.region [⟨none, .mv (.var 0), none⟩, ⟨none, .mv (.var 6), none⟩, ⟨none, .call (.fn 38) [.tmp 0, .tmp 1], none⟩]) .skip)) (.seq (.region [⟨none, .indexArr 3 1 (.var 2) (.cst (.int .i64 0)), none⟩, ⟨none, .load false 1 (.tmp 0), none⟩, ⟨none, .call (.fn 15) [.tmp 1, .cst (.int .i64 12)], none⟩, ⟨some 11, .bin .neq (.tmp 2) (.cst (.int .i64 10)), none⟩]) (.cond (.var 11) (.region [⟨none, .mv (.var 0), none⟩, ⟨none, .load true 6 (.var 7), none⟩, ⟨none, .call (.fn 39) [.tmp 0, .tmp 1], none⟩]) .skip)))))
def DKILL : MC := .kill [0, 1, 2, 3, 4, 5, 6, 7, 8, 9, 10, 11, 12, 13, 14, 15, 16]
def DSEND : MC := .seq DSD0 (.cond (.var 13) (.seq DSP1 (.seq DSP2 (.seq DSP3 (.seq DSP4 DSP5)))) .skip)
theorem mf37_eq : mf37.mc = .seq DR0 (.seq DR1 (.seq DR2 (.seq (.block 0 (.seq DTST1 (.cond (.var 12) DSEND (.seq DTST2 (.cond (.var 14) DTICK (.seq DTST3 (.cond (.var 15) DNEW DDEF))))))) DKILL))) := rfl
abbrev sdd (v0 v1 v2 v3 v8 v12 v13 v14 v15 : AV) : List AV := [v0, v1, v2, v3, .undef, .undef, .undef, .undef, v8, .undef, .undef, .undef, v12, v13, v14, v15, .undef]
section
variable {E : Env} {fuel : Nat} {K : List KC} {v0 v1 v2 v3 v12 v13 v14 v15 : AV} {A : Arena} {k : Nat}
set_option maxRecDepth 100000 in
theorem tst1 (hk : k < 12) : run E fuel (.code DTST1 :: K) (sdd v0 v1 v2 v3 (.int .i64 (k : Int)) v12 v13 v14 v15) A = run E fuel K (sdd v0 v1 v2 v3 (.int .i64 (k : Int)) (.bool (decide (k ≤ 2))) v13 v14 v15) A := by
  have b0 := evEql (k : Int) 0
  have b1 := evEql (k : Int) 1
  have b2 := evEql (k : Int) 2
  by_cases h0 : k = 0
  · subst h0
    simp [DTST1]
  · rw [decide_eq_false (by omega)] at b0
    by_cases h1 : k = 1
    · subst h1
      simp [DTST1]
    · rw [decide_eq_false (by omega)] at b1
      have e : decide (k ≤ 2) = decide ((k : Int) = 2) := decide_eq_decide.2 (by omega)
      rw [e]
      simp [DTST1, b0, b1, b2, -evBin]
set_option maxRecDepth 100000 in
theorem tst2 (hk : k < 12) (h2 : 2 < k) : run E fuel (.code DTST2 :: K) (sdd v0 v1 v2 v3 (.int .i64 (k : Int)) v12 v13 v14 v15) A = run E fuel K (sdd v0 v1 v2 v3 (.int .i64 (k : Int)) v12 v13 (.bool (decide (k ≤ 5))) v15) A := by
  have b0 := evEql (k : Int) 3
  have b1 := evEql (k : Int) 4
  have b2 := evEql (k : Int) 5
  by_cases h0 : k = 3
  · subst h0
    simp [DTST2]
  · rw [decide_eq_false (by omega)] at b0
    by_cases h1 : k = 4
    · subst h1
      simp [DTST2]
    · rw [decide_eq_false (by omega)] at b1
      have e : decide (k ≤ 5) = decide ((k : Int) = 5) := decide_eq_decide.2 (by omega)
      rw [e]
      simp [DTST2, b0, b1, b2, -evBin]
theorem tst3 : run E fuel (.code DTST3 :: K) (sdd v0 v1 v2 v3 (.int .i64 (k : Int)) v12 v13 v14 v15) A = run E fuel K (sdd v0 v1 v2 v3 (.int .i64 (k : Int)) v12 v13 v14 (.bool (decide (k = 11)))) A := by
  have b0 := evEql (k : Int) 11
  have e : decide (k = 11) = decide ((k : Int) = 11) := decide_eq_decide.2 (by omega)
  rw [e]
  simp [DTST3, b0, -evBin]
end
section
variable {K : List KC} {v1 v2 v8 v12 v14 v15 : AV} {A : Arena} {x : Nat} {e : Nat → EndS} {c : Nat → List AV} {la : Nat → Nat} {P : List Nat} {i : Nat → Nat} {q l w : Nat → AV} {s : Nat}
set_option maxRecDepth 100000 in
theorem dsp1 (h : Ln A x e c la P i q l w) (hc : (c 1).length ≤ 1000) : ∃ B v, run (envOf GW fs37) 300 (.code DSP1 :: K) (sdd (.ptr x 0 0) v1 v2 (.int .i64 (s : Int)) v8 v12 (.bool true) v14 v15) A = run (envOf GW fs37) 300 K (sdd (.ptr x 0 0) v1 v2 (.int .i64 (s : Int)) v8 v12 (.bool true) v14 v15) B ∧ Ln B x e (upd c 1 (c 1 ++ [.int .i64 (s : Int)])) la P i q l (upd w 1 v) ∧ ∀ j, j ∈ P → B[j]? = A[j]? := by
  obtain ⟨B, C, k1, k2, hC, pC, rB⟩ := h.push (k := 1) (bytes := 8) (v := .int .i64 (s : Int)) (by omega) (by omega) (by omega)
  have hrow := h.row
  rw [hrow] at rB
  have f : evLoad false 1 A (.ptr x 0 3) = some (w 1) := h.ldw (k := 1) (by omega)
  obtain ⟨v, hv⟩ : ∃ v, v = AV.sl A.length 0 (c 1 ++ [AV.int .i64 (s : Int)]).length := ⟨_, rfl⟩
  rw [← hv] at k1 k2 hC
  have k1' : evAppendN 1 8 A (w 1) (.fs 1 [.int .i64 (s : Int)]) = some (v, B) := k1
  have k2' : evStore 1 B (.ptr x 0 3) v = some C := k2
  refine ⟨C, v, ?_, hC, pC⟩
  simp [DSP1, hrow, rB, f, k1', k2', -evLoad, -evStore]
set_option maxRecDepth 100000 in
theorem dsp2 (h : Ln A x e c la P i q l w) (hs : s < 2) (hc : (c 2).length ≤ 1000) : ∃ B v, run (envOf GW fs37) 300 (.code DSP2 :: K) (sdd (.ptr x 0 0) v1 v2 (.int .i64 (s : Int)) v8 v12 (.bool true) v14 v15) A = run (envOf GW fs37) 300 K (sdd (.ptr x 0 0) v1 v2 (.int .i64 (s : Int)) v8 v12 (.bool true) v14 v15) B ∧ Ln B x e (upd c 2 (c 2 ++ [.int .i64 (e s).epoch])) la P i q l (upd w 2 v) ∧ ∀ j, j ∈ P → B[j]? = A[j]? := by
  obtain ⟨B, C, k1, k2, hC, pC, rB⟩ := h.push (k := 2) (bytes := 8) (v := .int .i64 (e s).epoch) (by omega) (by omega) (by omega)
  have hrow := h.row
  rw [hrow] at rB
  have f : evLoad false 1 A (.ptr x 0 4) = some (w 2) := h.ldw (k := 2) (by omega)
  have a26 := ev26 (h.end_ hs) (fun _ _ _ => none)
  obtain ⟨xi, li⟩ := h.idx hs
  obtain ⟨v, hv⟩ : ∃ v, v = AV.sl A.length 0 (c 2 ++ [AV.int .i64 (e s).epoch]).length := ⟨_, rfl⟩
  rw [← hv] at k1 k2 hC
  have k1' : evAppendN 1 8 A (w 2) (.fs 1 [.int .i64 (e s).epoch]) = some (v, B) := k1
  have k2' : evStore 1 B (.ptr x 0 4) v = some C := k2
  refine ⟨C, v, ?_, hC, pC⟩
  simp [DSP2, hrow, rB, f, a26, xi, li, k1', k2', -evLoad, -evStore, -pureH]
set_option maxRecDepth 100000 in
theorem dsp3 (h : Ln A x e c la P i q l w) (hc : (c 3).length ≤ 1000) : ∃ B v, run (envOf GW fs37) 300 (.code DSP3 :: K) (sdd (.ptr x 0 0) v1 v2 (.int .i64 (s : Int)) v8 v12 (.bool true) v14 v15) A = run (envOf GW fs37) 300 K (sdd (.ptr x 0 0) v1 v2 (.int .i64 (s : Int)) v8 v12 (.bool true) v14 v15) B ∧ Ln B x e (upd c 3 (c 3 ++ [.int .i64 0])) la P i q l (upd w 3 v) ∧ ∀ j, j ∈ P → B[j]? = A[j]? := by
  obtain ⟨B, C, k1, k2, hC, pC, rB⟩ := h.push (k := 3) (bytes := 8) (v := .int .i64 0) (by omega) (by omega) (by omega)
  have hrow := h.row
  rw [hrow] at rB
  have f : evLoad false 1 A (.ptr x 0 5) = some (w 3) := h.ldw (k := 3) (by omega)
  obtain ⟨v, hv⟩ : ∃ v, v = AV.sl A.length 0 (c 3 ++ [AV.int .i64 0]).length := ⟨_, rfl⟩
  rw [← hv] at k1 k2 hC
  have k1' : evAppendN 1 8 A (w 3) (.fs 1 [.int .i64 0]) = some (v, B) := k1
  have k2' : evStore 1 B (.ptr x 0 5) v = some C := k2
  refine ⟨C, v, ?_, hC, pC⟩
  simp [DSP3, hrow, rB, f, k1', k2', -evLoad, -evStore]
set_option maxRecDepth 100000 in
theorem dsp4 (h : Ln A x e c la P i q l w) (hc : (c 4).length ≤ 1000) : ∃ B v, run (envOf GW fs37) 300 (.code DSP4 :: K) (sdd (.ptr x 0 0) v1 v2 (.int .i64 (s : Int)) v8 v12 (.bool true) v14 v15) A = run (envOf GW fs37) 300 K (sdd (.ptr x 0 0) v1 v2 (.int .i64 (s : Int)) v8 v12 (.bool true) v14 v15) B ∧ Ln B x e (upd c 4 (c 4 ++ [.int .i64 0])) la P i q l (upd w 4 v) ∧ ∀ j, j ∈ P → B[j]? = A[j]? := by
  obtain ⟨B, C, k1, k2, hC, pC, rB⟩ := h.push (k := 4) (bytes := 8) (v := .int .i64 0) (by omega) (by omega) (by omega)
  have hrow := h.row
  rw [hrow] at rB
  have f : evLoad false 1 A (.ptr x 0 6) = some (w 4) := h.ldw (k := 4) (by omega)
  obtain ⟨v, hv⟩ : ∃ v, v = AV.sl A.length 0 (c 4 ++ [AV.int .i64 0]).length := ⟨_, rfl⟩
  rw [← hv] at k1 k2 hC
  have k1' : evAppendN 1 8 A (w 4) (.fs 1 [.int .i64 0]) = some (v, B) := k1
  have k2' : evStore 1 B (.ptr x 0 6) v = some C := k2
  refine ⟨C, v, ?_, hC, pC⟩
  simp [DSP4, hrow, rB, f, k1', k2', -evLoad, -evStore]
set_option maxRecDepth 100000 in
theorem dsp5 (h : Ln A x e c la P i q l w) (hc : (c 5).length ≤ 1000) : ∃ B v, run (envOf GW fs37) 300 (.code DSP5 :: K) (sdd (.ptr x 0 0) v1 v2 (.int .i64 (s : Int)) v8 v12 (.bool true) v14 v15) A = run (envOf GW fs37) 300 K (sdd (.ptr x 0 0) v1 v2 (.int .i64 (s : Int)) v8 v12 (.bool true) v14 v15) B ∧ Ln B x e (upd c 5 (c 5 ++ [.bool false])) la P i q l (upd w 5 v) ∧ ∀ j, j ∈ P → B[j]? = A[j]? := by
  obtain ⟨B, C, k1, k2, hC, pC, rB⟩ := h.push (k := 5) (bytes := 1) (v := .bool false) (by omega) (by omega) (by omega)
  have hrow := h.row
  rw [hrow] at rB
  have f : evLoad false 1 A (.ptr x 0 7) = some (w 5) := h.ldw (k := 5) (by omega)
  obtain ⟨v, hv⟩ : ∃ v, v = AV.sl A.length 0 (c 5 ++ [AV.bool false]).length := ⟨_, rfl⟩
  rw [← hv] at k1 k2 hC
  have k1' : evAppendN 1 1 A (w 5) (.fs 1 [.bool false]) = some (v, B) := k1
  have k2' : evStore 1 B (.ptr x 0 7) v = some C := k2
  refine ⟨C, v, ?_, hC, pC⟩
  simp [DSP5, hrow, rB, f, k1', k2', -evLoad, -evStore]
end
theorem cont_send (X : PS) (s : Nat) : upd (upd (upd (upd (upd (cont X) 1 (cont X 1 ++ [.int .i64 (s : Int)])) 2 (cont X 2 ++ [.int .i64 (X.e s).epoch])) 3 (cont X 3 ++ [.int .i64 0])) 4 (cont X 4 ++ [.int .i64 0])) 5 (cont X 5 ++ [.bool false]) = cont (sendP X s) := by
  have old : ∀ {α : Type} (f : Nat → α) (v : α) (m : Nat), m < X.N → upd f X.N v m = f m := fun f v m hm => upd_ne _ _ (by omega)
  funext k
  match k with
  | 0 => rfl
  | 1 => exact range_push X.N _ _ _ (by simp only [sendP, upd_same]) (fun m hm => by simp only [sendP, old _ _ m hm])
  | 2 => exact range_push X.N _ _ _ (by simp only [sendP, upd_same]) (fun m hm => by simp only [sendP, old _ _ m hm])
  | 3 => exact range_push X.N _ _ _ (by simp only [sendP, upd_same]) (fun m hm => by simp only [sendP, old _ _ m hm])
  | 4 => exact range_push X.N _ _ _ (by simp only [sendP, upd_same]) (fun m hm => by simp only [sendP, old _ _ m hm])
  | 5 => exact range_push X.N _ _ _ (by simp only [sendP, upd_same]) (fun m hm => by simp only [sendP, old _ _ m hm])
  | k + 6 => rfl
set_option maxRecDepth 100000 in
set_option maxHeartbeats 8000000 in
theorem dSend {K : List KC} {v1 v2 v8 v12 v14 v15 : AV} {A : Arena} {x : Nat} {X : PS} {P : List Nat} (h : LnP A x X P) {s : Nat} (hs : s < 2) (hN : X.N ≤ 1000) (hnx : 0 ≤ (X.e s).next ∧ (X.e s).next ≤ 1000000) :
    ∃ B v13, run (envOf GW fs37) 300 (.code DSEND :: K) (sdd (.ptr x 0 0) v1 v2 (.int .i64 (s : Int)) v8 v12 .undef v14 v15) A = run (envOf GW fs37) 300 K (sdd (.ptr x 0 0) v1 v2 (.int .i64 (s : Int)) v8 v12 v13 v14 v15) B ∧ LnP B x (if sendOk (X.e s) (txt X.N) then sendP X s else X) P ∧ ∀ j, j ∈ P → B[j]? = A[j]? := by
  obtain ⟨i, q, l, w, h⟩ := h
  have hrow := h.row
  have hE := h.end_ hs
  obtain ⟨xi, li⟩ := h.idx hs
  have f3 : evLoad false 1 A (.ptr x 0 3) = some (w 1) := h.ldw (k := 1) (by omega)
  have hl1 := h.len (k := 1) (by omega)
  rw [cont_len X (by omega) (by omega)] at hl1
  have m17 := M17_eq (n := X.N) (by omega)
  have m := pH1 M17 (fun _ _ _ => none) A .i64 (X.N : Int)
  rw [m17] at m
  obtain ⟨T, hT⟩ : ∃ T, T = txt X.N := ⟨_, rfl⟩
  rw [← hT] at m ⊢
  by_cases hok : sendOk (X.e s) T
  · rw [if_pos hok]
    obtain ⟨B, qa', va, ga, Fa, na⟩ := ev16 hE (fun _ _ _ => none) hok (by omega)
    obtain ⟨h2, p2⟩ := h.step hs (out := []) ga (fun j hj => by
      rcases mem_own.1 hj with h | h | h
      · exact .inl (mem_own.2 (.inl h))
      · exact .inr (na j h)
      · exact .inl (mem_own.2 (.inr (.inr h)))) (Fa.mono fun j _ hj => by
      rw [List.mem_cons] at hj
      exact mem_own.2 (hj.imp (fun h => h) .inl)) (fun j hj => by simp at hj)
    rw [List.nil_append] at h2
    have lc : ∀ k, k ≠ 0 → k < 6 → (cont X k).length ≤ 1000 := fun k h0 h6 => by rw [cont_len X h0 h6]; exact hN
    obtain ⟨C1, w1, r1, g1, p3⟩ := dsp1 (K := .code (.seq DSP2 (.seq DSP3 (.seq DSP4 DSP5))) :: K) (v1 := v1) (v2 := v2) (v8 := v8) (v12 := v12) (v14 := v14) (v15 := v15) (s := s) h2 (lc 1 (by omega) (by omega))
    obtain ⟨C2, w2, r2, g2, p4⟩ := dsp2 (K := .code (.seq DSP3 (.seq DSP4 DSP5)) :: K) (v1 := v1) (v2 := v2) (v8 := v8) (v12 := v12) (v14 := v14) (v15 := v15) g1 hs (lc 2 (by omega) (by omega))
    obtain ⟨C3, w3, r3, g3, p5⟩ := dsp3 (K := .code (.seq DSP4 DSP5) :: K) (v1 := v1) (v2 := v2) (v8 := v8) (v12 := v12) (v14 := v14) (v15 := v15) (s := s) g2 (lc 3 (by omega) (by omega))
    obtain ⟨C4, w4, r4, g4, p6⟩ := dsp4 (K := .code DSP5 :: K) (v1 := v1) (v2 := v2) (v8 := v8) (v12 := v12) (v14 := v14) (v15 := v15) (s := s) g3 (lc 4 (by omega) (by omega))
    obtain ⟨C5, w5, r5, g5, p7⟩ := dsp5 (K := K) (v1 := v1) (v2 := v2) (v8 := v8) (v12 := v12) (v14 := v14) (v15 := v15) (s := s) g4 (lc 5 (by omega) (by omega))
    have ec : upd (upd (upd (upd (upd (cont X) 1 (cont X 1 ++ [.int .i64 (s : Int)])) 2 (cont X 2 ++ [.int .i64 (upd X.e s (sendS (X.e s) T) s).epoch])) 3 (cont X 3 ++ [.int .i64 0])) 4 (cont X 4 ++ [.int .i64 0])) 5 (cont X 5 ++ [.bool false]) = cont (sendP X s) := by
      rw [upd_same]
      exact cont_send X s
    have g5' : Ln C5 x (upd X.e s (sendS (X.e s) T)) (upd (upd (upd (upd (upd (cont X) 1 (cont X 1 ++ [.int .i64 (s : Int)])) 2 (cont X 2 ++ [.int .i64 (upd X.e s (sendS (X.e s) T) s).epoch])) 3 (cont X 3 ++ [.int .i64 0])) 4 (cont X 4 ++ [.int .i64 0])) 5 (cont X 5 ++ [.bool false])) X.la P i (upd q s qa') (upd l s (l s)) (upd (upd (upd (upd (upd w 1 w1) 2 w2) 3 w3) 4 w4) 5 w5) := g5
    rw [ec, hT] at g5'
    refine ⟨C5, .bool true, ?_, ⟨i, _, _, _, g5'⟩, fun j hj => (p7 j hj).trans ((p6 j hj).trans ((p5 j hj).trans ((p4 j hj).trans ((p3 j hj).trans (p2 j hj)))))⟩
    rw [← r5, ← r4, ← run_seq, ← r3, ← run_seq, ← r2, ← run_seq, ← r1]
    have n1 : evBin .eql (.int .i64 0) (.int .i64 0) = some (.bool true) := rfl
    simp [DSEND, DSD0, hrow, xi, li, f3, hl1, m, va, n1, -evBin, -evLoad, -pureH, -evLenSl]
  · rw [if_neg hok]
    have va := ev16_no hE (fun _ _ _ => none) hok
    refine ⟨A, .bool false, ?_, ⟨i, q, l, w, h⟩, fun _ _ => rfl⟩
    have n1 : evBin .eql (.int .i64 260) (.int .i64 0) = some (.bool false) := rfl
    simp [DSEND, DSD0, hrow, xi, li, f3, hl1, m, va, n1, -evBin, -evLoad, -pureH, -evLenSl]
end Go.Proofs.Ytfidjdlmmcaplaa
/-
  Link: a deed, the rest.
-/
namespace Go.Proofs.Ytfidjdlmmcaplaa
open Go

/-- a run is done and leaves an arena -/
def Done (r : Option Out) (B : Arena) : Prop := ∃ σ, r = some (.normal σ B) ∨ r = some (.ret σ B)
theorem flAt {A : Arena} {v : AV} {xs : List (Nat × FrS)} (h : SlP 6 A v (xs.map flA)) {i : Nat} (hi : i < xs.length) : ∃ r, evIndexSl 6 A v (.int .i64 (i : Int)) = some (.ptr r i 0) ∧ evLoad true 6 A (.ptr r i 0) = some (flA xs[i]) := by
  obtain ⟨r, es, h1, h2, h3, h4⟩ := h.index (i := i) (by simpa using hi) (by decide) .i64
  rw [List.getElem_map] at h3
  refine ⟨r, h4, ?_⟩
  simp only [evLoad, h2, h3]
  rfl
set_option maxRecDepth 100000 in
theorem dTick {K : List KC} {v1 v2 v8 v12 v13 v14 v15 : AV} {A : Arena} {x : Nat} {X : PS} {P : List Nat} (h : LnP A x X P) {s : Nat} (hs : s < 2) (hb : Bd (X.e s)) (ht : ∀ f ∈ (tickS (X.e s)).2, TickF X (X.e s).peer s f) (hN : X.N < 300) (hfl : X.fl.length ≤ 100000) :
    ∃ B, run (envOf GW fs37) 300 (.code DTICK :: K) (sdd (.ptr x 0 0) v1 v2 (.int .i64 (s : Int)) v8 v12 v13 v14 v15) A = run (envOf GW fs37) 300 K (sdd (.ptr x 0 0) v1 v2 (.int .i64 (s : Int)) v8 v12 v13 v14 v15) B ∧ LnP B x (tickP X s) P ∧ ∀ j, j ∈ P → B[j]? = A[j]? := by
  obtain ⟨B, v40, hB, pB⟩ := ev40 (fun _ _ _ => none) h hs hb ht hN hfl
  refine ⟨B, ?_, hB, pB⟩
  simp [DTICK, v40]
set_option maxRecDepth 100000 in
set_option maxHeartbeats 8000000 in
theorem dNew {v1 v8 v12 v13 v14 v15 : AV} {A : Arena} {x y : Nat} {X : PS} {P : List Nat} (h : LnP A x X P) {c0 c1 c2 : Int} (hr : A[y]? = some (row3 c0 c1 c2)) (hc2 : inI c2) {s : Nat} (hs : s < 2) (he : 1 ≤ (X.e s).epoch ∧ (X.e s).epoch ≤ 900000) :
    ∃ B, Done (run (envOf GW fs37) 300 [.code DNEW, .blk 0, .code DKILL] (sdd (.ptr x 0 0) v1 (.ptr y 0 0) (.int .i64 (s : Int)) v8 v12 v13 v14 v15) A) B ∧ LnP B x { X with e := upd X.e s (newS ((X.e s).epoch + 1 + pick c2 3)) } P ∧ ∀ j, j ∈ P → B[j]? = A[j]? := by
  obtain ⟨i, q, l, w, h⟩ := h
  have pc := pick_range c2 3 (by omega)
  have m15 := M15_eq hc2 (show (0 : Int) < 3 by omega)
  obtain ⟨z, hz⟩ : ∃ z, z = pick c2 3 := ⟨_, rfl⟩
  rw [← hz] at m15 pc ⊢
  have b1 := evAdd (a := (X.e s).epoch) (b := 1) (by omega)
  have b2 := evAdd (a := (X.e s).epoch + 1) (b := z) (by omega)
  obtain ⟨E, hE⟩ : ∃ E, E = (X.e s).epoch + 1 + z := ⟨_, rfl⟩
  rw [← hE] at b2 ⊢
  obtain ⟨F, hF⟩ : ∃ F, F = (X.e s).epoch + 1 := ⟨_, rfl⟩
  rw [← hF] at b1 b2
  have hrow := h.row
  have a26 := ev26 (h.end_ hs) (fun _ _ _ => none)
  obtain ⟨xi, li⟩ := h.idx hs
  have hr' : A[y]? = some (.row 3 false [.agg [.int .i64 c0, .int .i64 c1, .int .i64 c2]]) := hr
  have ly : evIndexArr 3 1 A (.ptr y 0 0) (.int .i64 2) = some (.ptr y 0 2) := by simp [evIndexArr, hr']
  have ly2 : evLoad false 1 A (.ptr y 0 2) = some (.int .i64 c2) := by
    simp only [evLoad, hr']; rfl
  obtain ⟨A1, v13', g1, F1⟩ := (ev13 (fun _ _ _ => none) A E).1 (by omega)
  obtain ⟨C, st, hC, pC⟩ := h.newE hs g1 (Nat.le_refl _) F1
  have hr1 : A1[x]? = A[x]? := F1.2 x h.xlt (by simp)
  rw [hrow] at hr1
  have x1 : evIndexArr 2 1 A1 (.ptr x 0 0) (.int .i64 (s : Int)) = some (.ptr x 0 s) := by
    rcases (show s = 0 ∨ s = 1 by omega) with rfl | rfl <;> simp [evIndexArr, hr1]
  have n1 : evBin .neq (.int .i64 0) (.int .i64 0) = some (.bool false) := rfl
  refine ⟨C, ⟨[.undef, .undef, .undef, .undef, .undef, .undef, .undef, .undef, .undef, .undef, .undef, .undef, .undef, .undef, .undef, .undef, .undef], .inl ?_⟩, ⟨_, _, _, _, hC⟩, pC⟩
  simp [DNEW, DKILL, pH2, hrow, hr1, hr', a26, xi, li, x1, b1, b2, ly, ly2, m15, v13', n1, st, -evBin, -evLoad, -pureH, -evStore]
def cutP (X : PS) (n : Nat) : PS := { X with fl := X.fl.take n ++ X.fl.drop (n + 1) }
def delP (X : PS) (k n t : Nat) (f : FrS) : PS :=
  if k = 10 then cutP X n else recvP (if k = 9 then X else cutP X n) t f
set_option maxRecDepth 100000 in
set_option maxHeartbeats 16000000 in
theorem dDef {v1 v8 v12 v13 v14 v15 : AV} {A : Arena} {x y : Nat} {X : PS} {P : List Nat} (h : LnP A x X P) (hy : y ∈ P) {c0 c1 c2 : Int} (hr : A[y]? = some (row3 c0 c1 c2)) (hc0 : inI c0) (hc2 : inI c2) {k : Nat} (hk : pick c0 12 = (k : Int)) {n t : Nat} {f : FrS} (hn : X.fl[n]? = some (t, f)) (hp : pick c2 (X.fl.length : Int) = (n : Int)) (ht : t < 2) (hd : DelOk X t f) (hfl : X.fl.length ≤ 100000) {s : AV} :
    ∃ B, Done (run (envOf GW fs37) 300 [.code DDEF, .blk 0, .code DKILL] (sdd (.ptr x 0 0) v1 (.ptr y 0 0) s v8 v12 v13 v14 v15) A) B ∧ LnP B x (delP X k n t f) P ∧ ∀ j, j ∈ P → B[j]? = A[j]? := by
  obtain ⟨i, q, l, w, h⟩ := h
  have hnl : n < X.fl.length := (List.getElem?_eq_some_iff.1 hn).1
  have hng : X.fl[n] = (t, f) := (List.getElem?_eq_some_iff.1 hn).2
  have m15a := M15_eq hc2 (show (0 : Int) < (X.fl.length : Int) by omega)
  have m15b := M15_eq hc0 (show (0 : Int) < 12 by omega)
  rw [hp] at m15a
  rw [hk] at m15b
  have hrow := h.row
  have hS : SlP 6 A (w 0) (X.fl.map flA) := h.slot (k := 0) (by omega)
  have hlen : evLenSl (w 0) = some (.int .i64 (X.fl.length : Int)) := by
    have := hS.len
    rwa [List.length_map] at this
  obtain ⟨r, x1, l1⟩ := flAt hS hnl
  rw [hng] at l1
  have l1' : evLoad true 6 A (.ptr r n 0) = some (.agg [.int .i64 (t : Int), .int .i64 f.fr, .int .i64 f.to, .int .i64 f.seq, .int .i64 f.ack, .str f.body]) := l1
  have f2 : evLoad false 1 A (.ptr x 0 2) = some (w 0) := h.ldw (k := 0) (by omega)
  have hr' : A[y]? = some (.row 3 false [.agg [.int .i64 c0, .int .i64 c1, .int .i64 c2]]) := hr
  have ix : ∀ B : Arena, B[y]? = A[y]? → B[y]? = some (.row 3 false [.agg [.int .i64 c0, .int .i64 c1, .int .i64 c2]]) ∧ evIndexArr 3 1 B (.ptr y 0 0) (.int .i64 0) = some (.ptr y 0 0) ∧ evIndexArr 3 1 B (.ptr y 0 0) (.int .i64 2) = some (.ptr y 0 2) ∧ evLoad false 1 B (.ptr y 0 0) = some (.int .i64 c0) ∧ evLoad false 1 B (.ptr y 0 2) = some (.int .i64 c2) := fun B hB => by
    rw [hr'] at hB
    refine ⟨hB, by simp [evIndexArr, hB], by simp [evIndexArr, hB], ?_, ?_⟩
    · simp only [evLoad, hB]; rfl
    · simp only [evLoad, hB]; rfl
  obtain ⟨_, _, j2, _, j4⟩ := ix A rfl
  obtain ⟨A0, hA0⟩ : ∃ A0, A0 = A ++ [Ent.row 6 false [.agg [.int .i64 0, .int .i64 0, .int .i64 0, .int .i64 0, .int .i64 0, .str []]]] := ⟨_, rfl⟩
  obtain ⟨A1, hA1⟩ : ∃ A1, A1 = A ++ [Ent.row 6 false [flA (t, f)]] := ⟨_, rfl⟩
  obtain ⟨z, hz⟩ : ∃ z, z = A.length := ⟨_, rfl⟩
  have st0 : evStore 6 A0 (.ptr z 0 0) (.agg [.int .i64 (t : Int), .int .i64 f.fr, .int .i64 f.to, .int .i64 f.seq, .int .i64 f.ack, .str f.body]) = some A1 := by
    have hr0 : A0[z]? = some (.row 6 false [.agg [.int .i64 0, .int .i64 0, .int .i64 0, .int .i64 0, .int .i64 0, .str []]]) := by rw [hA0, hz]; simp
    have := evStore_of (size := 6) (o := 0) (i := 0) (e' := flA (t, f)) (a := flA (t, f)) hr0 rfl rfl rfl (by omega) rfl
    rw [show (AV.agg [.int .i64 (t : Int), .int .i64 f.fr, .int .i64 f.to, .int .i64 f.seq, .int .i64 f.ack, .str f.body]) = flA (t, f) from rfl, this, hA0, hA1, hz]
    simp
  have hF : Fr A A1 [] := by rw [hA1]; exact Fr.app _ _ _
  have hl1 : A1.length = A.length + 1 := by rw [hA1]; simp
  obtain ⟨h1, p1⟩ := h.more hF [z] (fun j hj => by rw [List.mem_singleton] at hj; omega)
  have hrz : A1[z]? = some (.row 6 false [flA (t, f)]) := by rw [hA1, hz]; simp
  obtain ⟨_, k1, _, k3, _⟩ := ix A1 (p1 y hy)
  have hry1 := (ix A1 (p1 y hy)).1
  have b0 := evEql (X.fl.length : Int) 0
  rw [decide_eq_false (by omega)] at b0
  have b1 := evNeq (k : Int) 9
  have b2 := evNeq (k : Int) 10
  -- the frame is taken off the line, or not
  obtain ⟨B, v38, hB, pB⟩ : ∃ B, (k ≠ 9 → H38 (fun _ _ _ => none) [.ptr x 0 0, .int .i64 (n : Int)] A1 = some (pack [], B)) ∧ (LnP B x (if k = 9 then X else cutP X n) ([z] ++ P) ∧ (k = 9 → B = A1)) ∧ ∀ j, j ∈ [z] ++ P → B[j]? = A1[j]? := by
    by_cases c : k = 9
    · refine ⟨A1, fun h0 => absurd c h0, ⟨?_, fun _ => rfl⟩, fun _ _ => rfl⟩
      rw [if_pos c]
      exact ⟨i, q, l, w, h1⟩
    · obtain ⟨B, g1, g2, g3⟩ := ev38 (fun _ _ _ => none) ⟨i, q, l, w, h1⟩ hnl (by omega)
      refine ⟨B, fun _ => g1, ⟨?_, fun h0 => absurd h0 c⟩, g3⟩
      rw [if_neg c]
      exact g2
  obtain ⟨hB, hB9⟩ := hB
  have hrzB : B[z]? = some (.row 6 false [flA (t, f)]) := (pB z (by simp)).trans hrz
  have lz : evLoad true 6 B (.ptr z 0 0) = some (.agg [.int .i64 (t : Int), .int .i64 f.fr, .int .i64 f.to, .int .i64 f.seq, .int .i64 f.ack, .str f.body]) := by
    simp only [evLoad, hrzB]; rfl
  obtain ⟨hryB, q1, _, q3, _⟩ := ix B ((pB y (by simp [hy])).trans (p1 y hy))
  have hd' : DelOk (if k = 9 then X else cutP X n) t f := by
    split
    · exact hd
    · exact ⟨hd.d, hd.l, hd.ep, hd.len, hd.o, hd.n, hd.a, hd.b, hd.c, hd.N⟩
  obtain ⟨C, v39, hC, pC⟩ : ∃ C, (k ≠ 10 → H39 (fun _ _ _ => none) [.ptr x 0 0, flA (t, f)] B = some (pack [], C)) ∧ (LnP C x (delP X k n t f) ([z] ++ P) ∧ (k = 10 → C = B)) ∧ ∀ j, j ∈ [z] ++ P → C[j]? = B[j]? := by
    unfold delP
    by_cases c : k = 10
    · refine ⟨B, fun h0 => absurd c h0, ⟨?_, fun _ => rfl⟩, fun _ _ => rfl⟩
      rw [if_pos c]
      rw [if_neg (by omega)] at hB
      exact hB
    · obtain ⟨C, g1, g2, g3⟩ := ev39 (fun _ _ _ => none) hB ht hd'
      refine ⟨C, fun _ => g1, ⟨?_, fun h0 => absurd h0 c⟩, g3⟩
      rw [if_neg c]
      exact g2
  obtain ⟨hC, hC10⟩ := hC
  have inP : ∀ j, j ∈ P → j ∈ [z] ++ P := fun j hj => by simp [hj]
  refine ⟨C, ?_, ?_, fun j hj => (pC j (inP j hj)).trans ((pB j (inP j hj)).trans (p1 j hj))⟩
  rotate_left
  · obtain ⟨i', q', l', w', hC⟩ := hC
    exact ⟨i', q', l', w', hC.less inP⟩
  refine ⟨[.undef, .undef, .undef, .undef, .undef, .undef, .undef, .undef, .undef, .undef, .undef, .undef, .undef, .undef, .undef, .undef, .undef], .inl ?_⟩
  have pk : pack [] = .tup [] := rfl
  rw [pk] at v38 v39
  by_cases c9 : k = 9
  · rw [decide_eq_false (by omega)] at b1
    rw [decide_eq_true (by omega)] at b2
    have e9 := hB9 c9
    have v39' : H39 (fun _ _ _ => none) [.ptr x 0 0, .agg [.int .i64 (t : Int), .int .i64 f.fr, .int .i64 f.to, .int .i64 f.seq, .int .i64 f.ack, .str f.body]] A1 = some (.tup [], C) := by
      rw [← e9]; exact v39 (by omega)
    rw [e9] at lz q1 q3 hryB
    simp [DDEF, DKILL, pH2, hrow, hr', f2, hlen, b0, j2, j4, m15a, m15b, x1, l1', ← hA0, ← hz, st0, k1, k3, b1, b2, lz, hry1, v39', -evBin, -evLoad, -pureH, -evStore, -evLenSl, -evIndexSl]
  · rw [decide_eq_true (by omega)] at b1
    have v38' := v38 c9
    by_cases c10 : k = 10
    · rw [decide_eq_false (by omega)] at b2
      have e10 := hC10 c10
      rw [e10]
      simp [DDEF, DKILL, pH2, hrow, hr', f2, hlen, b0, j2, j4, m15a, m15b, x1, l1', ← hA0, ← hz, st0, k1, k3, q1, q3, b1, b2, hry1, hryB, v38', -evBin, -evLoad, -pureH, -evStore, -evLenSl, -evIndexSl]
    · rw [decide_eq_true (by omega)] at b2
      have v39' : H39 (fun _ _ _ => none) [.ptr x 0 0, .agg [.int .i64 (t : Int), .int .i64 f.fr, .int .i64 f.to, .int .i64 f.seq, .int .i64 f.ack, .str f.body]] B = some (.tup [], C) := v39 c10
      simp [DDEF, DKILL, pH2, hrow, hr', f2, hlen, b0, j2, j4, m15a, m15b, x1, l1', ← hA0, ← hz, st0, k1, k3, q1, q3, b1, b2, lz, hry1, hryB, v38', v39', -evBin, -evLoad, -pureH, -evStore, -evLenSl, -evIndexSl]
set_option maxRecDepth 100000 in
theorem dDef0 {v1 v8 v12 v13 v14 v15 v2 s : AV} {A : Arena} {x : Nat} {X : PS} {P : List Nat} (h : LnP A x X P) (h0 : X.fl.length = 0) :
    Done (run (envOf GW fs37) 300 [.code DDEF, .blk 0, .code DKILL] (sdd (.ptr x 0 0) v1 v2 s v8 v12 v13 v14 v15) A) A := by
  obtain ⟨i, q, l, w, h⟩ := h
  have hrow := h.row
  have hS : SlP 6 A (w 0) (X.fl.map flA) := h.slot (k := 0) (by omega)
  have hlen : evLenSl (w 0) = some (.int .i64 0) := by
    have := hS.len
    rw [List.length_map, h0] at this
    exact this
  have f2 : evLoad false 1 A (.ptr x 0 2) = some (w 0) := h.ldw (k := 0) (by omega)
  have b0 : evBin .eql (.int .i64 0) (.int .i64 0) = some (.bool true) := rfl
  refine ⟨[.ptr x 0 0, v1, v2, s, .undef, .undef, .undef, .undef, v8, .bool true, .undef, .undef, v12, v13, v14, v15, .undef], .inr ?_⟩
  simp [DDEF, hrow, f2, hlen, b0, -evBin, -evLoad, -evLenSl]
end Go.Proofs.Ytfidjdlmmcaplaa
/-
  Link: a deed as a whole, and that deeds keep what holds of the line.
-/
namespace Go.Proofs.Ytfidjdlmmcaplaa
open Go

def deedP (X : PS) (c0 c1 c2 : Int) : PS :=
  if (pick c0 12).toNat ≤ 2 then (if sendOk (X.e (pick c1 2).toNat) (txt X.N) then sendP X (pick c1 2).toNat else X)
  else if (pick c0 12).toNat ≤ 5 then tickP X (pick c1 2).toNat
  else if (pick c0 12).toNat = 11 then { X with e := upd X.e (pick c1 2).toNat (newS ((X.e (pick c1 2).toNat).epoch + 1 + pick c2 3)) }
  else match X.fl[(pick c2 (X.fl.length : Int)).toNat]? with
    | none => X
    | some x => delP X (pick c0 12).toNat (pick c2 (X.fl.length : Int)).toNat x.1 x.2
structure OkX (n : Nat) (X : PS) (G : Logs) : Prop where
  j : J X G
  w : ∀ t, t < 2 → Wf n (X.e t)
  N : X.N ≤ n + 1
  fl : X.fl.length ≤ 10 * n
theorem OkX.del {n : Nat} {X : PS} {G : Logs} (h : OkX n X G) (hn : n ≤ 190) {x : Nat × FrS} (hx : x ∈ X.fl) : DelOk X x.1 x.2 := by
  have ht := (h.j.fl x hx).1
  obtain ⟨_, h2, h3, h4, h5, h6⟩ := h.j.recv (t := x.1) (f := x.2) hx (by have := h.N; omega)
  have hw := h.w x.1 ht
  have hr := (hw.recv x.2).lost
  have h7 := hw.lost
  exact ⟨h2, ⟨h3, h4⟩, h5, h6, h.j.lo _ (flip ht).1, by omega, by omega, by have := hw.queue; omega, hw.received, by have := h.N; omega⟩
theorem OkX.mono {n : Nat} {X : PS} {G : Logs} (h : OkX n X G) : OkX (n + 1) X G := ⟨h.j, fun t ht => (h.w t ht).mono (by omega), by have := h.N; omega, by have := h.fl; omega⟩
theorem upd_wf' {n : Nat} {S : Nat → EndS} (hw : ∀ t, t < 2 → Wf n (S t)) {s : Nat} {X : EndS} (hX : Wf (n + 1) X) : ∀ t, t < 2 → Wf (n + 1) (upd S s X t) := by
  intro t ht
  by_cases e : t = s
  · subst e; rw [upd_same]; exact hX
  · rw [upd_ne _ _ e]; exact (hw t ht).mono (by omega)
/-- a frame of the line arrives, and may have been taken off it -/
theorem OkX.recv {n : Nat} {X : PS} {G : Logs} (h : OkX n X G) (hn : n ≤ 190) {x : Nat × FrS} (hx : x ∈ X.fl) {fl' : List (Nat × FrS)} (hs : ∀ y ∈ fl', y ∈ X.fl) (hl : fl'.length ≤ X.fl.length) : ∃ G', OkX (n + 1) (recvP { X with fl := fl' } x.1 x.2) G' := by
  have ht := (h.j.fl x hx).1
  obtain ⟨⟨G', h1, _⟩, _⟩ := h.j.recv (t := x.1) (f := x.2) hx (by have := h.N; omega)
  refine ⟨G', h1.less (fl' := fl') hs, ?_, ?_, ?_⟩
  · have hw := h.w x.1 ht
    exact upd_wf' h.w ((hw.recv x.2).lostE.mono (by omega))
  · show X.N ≤ n + 1 + 1
    have := h.N; omega
  · show fl'.length ≤ 10 * (n + 1)
    have := h.fl; omega
theorem OkX.deed {n : Nat} {X : PS} {G : Logs} (h : OkX n X G) (hn : n ≤ 190) (c0 c1 c2 : Int) : ∃ G', OkX (n + 1) (deedP X c0 c1 c2) G' := by
  have p1 := pick_range c1 2 (by omega)
  have p2 := pick_range c2 3 (by omega)
  obtain ⟨s, hs⟩ : ∃ s, s = (pick c1 2).toNat := ⟨_, rfl⟩
  have hs2 : s < 2 := by omega
  have hN := h.N
  have hfl := h.fl
  unfold deedP
  rw [← hs]
  split
  · split
    · rename_i hok
      refine ⟨sendG X G s, h.j.send hs2, ?_, ?_, ?_⟩
      · exact upd_wf' h.w ((h.w s hs2).send hok)
      · show X.N + 1 ≤ _
        omega
      · show X.fl.length ≤ _
        omega
    · exact ⟨G, h.mono⟩
  · split
    · refine ⟨G, h.j.tick hs2 h.w (by omega) (by omega), ?_, ?_, ?_⟩
      · exact upd_wf' h.w (h.w s hs2).tick
      · show X.N ≤ _
        omega
      · show (X.fl ++ (tickS (X.e s)).2.map _).length ≤ _
        rw [List.length_append, List.length_map]
        have := tick_len (X.e s)
        omega
    · split
      · have hep := (h.w s hs2).epoch
        refine ⟨G, h.j.new hs2 (by omega), ?_, ?_, ?_⟩
        · exact upd_wf' h.w (Wf.new (n + 1) (by omega))
        · show X.N ≤ _
          omega
        · show X.fl.length ≤ _
          omega
      · split
        · exact ⟨G, h.mono⟩
        · rename_i x hx
          have hxm := List.mem_of_getElem? hx
          have cut : ∀ m, (∀ y ∈ X.fl.take m ++ X.fl.drop (m + 1), y ∈ X.fl) ∧ (X.fl.take m ++ X.fl.drop (m + 1)).length ≤ X.fl.length := fun m => ⟨fun y hy => by
            rcases List.mem_append.1 hy with hy | hy
            · exact List.mem_of_mem_take hy
            · exact List.mem_of_mem_drop hy, by simp; omega⟩
          unfold delP
          split
          · refine ⟨G, h.j.less (cut _).1, fun t ht => (h.w t ht).mono (by omega), ?_, ?_⟩
            · show X.N ≤ _
              omega
            · have := (cut (pick c2 (X.fl.length : Int)).toNat).2
              show (X.fl.take _ ++ X.fl.drop _).length ≤ _
              omega
          · split
            · exact h.recv hn hxm (fl' := X.fl) (fun y hy => hy) (Nat.le_refl _)
            · exact h.recv hn hxm (cut _).1 (cut _).2
theorem done_fun {hd : Handler} {args : List AV} {A B : Arena} (ha : args.length = 2) (h : Done (run (envOf GW fs37) 300 [.code mf37.mc] (args ++ List.replicate 15 .undef) A) B) : H37 hd args A = some (pack [], B) := by
  unfold H37
  rw [evFun_run _ _ (by rw [ha]; rfl)]
  obtain ⟨σ, h | h⟩ := h
  · rw [show mf37.len - mf37.n = 15 from rfl, h]
    rfl
  · rw [show mf37.len - mf37.n = 15 from rfl, h]
    rfl
set_option maxRecDepth 100000 in
set_option maxHeartbeats 4000000 in
theorem ev37 (hd : Handler) {A : Arena} {x : Nat} {X : PS} {P : List Nat} (h : LnP A x X P) {n : Nat} {G : Logs} (ok : OkX n X G) (hn : n ≤ 190) {c0 c1 c2 : Int} (h0 : inI c0) (h1 : inI c1) (h2 : inI c2) :
    ∃ B, H37 hd [.ptr x 0 0, .agg [.int .i64 c0, .int .i64 c1, .int .i64 c2]] A = some (pack [], B) ∧ LnP B x (deedP X c0 c1 c2) P ∧ ∀ j, j ∈ P → B[j]? = A[j]? := by
  have p0 := pick_range c0 12 (by omega)
  have p1 := pick_range c1 2 (by omega)
  have m0 := M15_eq h0 (show (0 : Int) < 12 by omega)
  have m1 := M15_eq h1 (show (0 : Int) < 2 by omega)
  obtain ⟨k, hk⟩ : ∃ k : Nat, pick c0 12 = (k : Int) := ⟨(pick c0 12).toNat, by omega⟩
  obtain ⟨s, hs⟩ : ∃ s : Nat, pick c1 2 = (s : Int) := ⟨(pick c1 2).toNat, by omega⟩
  have hs2 : s < 2 := by omega
  have hk12 : k < 12 := by omega
  rw [hk] at m0
  rw [hs] at m1
  have eD : deedP X c0 c1 c2 = if k ≤ 2 then (if sendOk (X.e s) (txt X.N) then sendP X s else X) else if k ≤ 5 then tickP X s else if k = 11 then { X with e := upd X.e s (newS ((X.e s).epoch + 1 + pick c2 3)) } else match X.fl[(pick c2 (X.fl.length : Int)).toNat]? with
    | none => X
    | some x => delP X k (pick c2 (X.fl.length : Int)).toNat x.1 x.2 := by
    unfold deedP
    rw [hk, hs]
    simp only [Int.toNat_natCast]
  rw [eD]
  have hN := ok.N
  have hfl := ok.fl
  have hws := ok.w s hs2
  obtain ⟨A1, hA1⟩ : ∃ A1, A1 = A ++ [row3 c0 c1 c2] := ⟨_, rfl⟩
  obtain ⟨y, hy⟩ : ∃ y, y = A.length := ⟨_, rfl⟩
  have hF : Fr A A1 [] := by rw [hA1]; exact Fr.app _ _ _
  have hl1 : A1.length = A.length + 1 := by rw [hA1]; simp
  obtain ⟨hLn, p1'⟩ : LnP A1 x X ([y] ++ P) ∧ ∀ j, j ∈ P → A1[j]? = A[j]? := by
    obtain ⟨i, q, l, w, h⟩ := h
    obtain ⟨h', p'⟩ := h.more hF [y] (fun j hj => by rw [List.mem_singleton] at hj; omega)
    exact ⟨⟨i, q, l, w, h'⟩, p'⟩
  have hry : A1[y]? = some (row3 c0 c1 c2) := by rw [hA1, hy]; simp
  have hry' : A1[y]? = some (.row 3 false [.agg [.int .i64 c0, .int .i64 c1, .int .i64 c2]]) := hry
  have bx : A ++ [Ent.row 3 false [.agg [.int .i64 c0, .int .i64 c1, .int .i64 c2]]] = A1 := hA1.symm
  have i0 : evIndexArr 3 1 A1 (.ptr y 0 0) (.int .i64 0) = some (.ptr y 0 0) := by simp [evIndexArr, hry']
  have i1 : evIndexArr 3 1 A1 (.ptr y 0 0) (.int .i64 1) = some (.ptr y 0 1) := by simp [evIndexArr, hry']
  have l0 : evLoad false 1 A1 (.ptr y 0 0) = some (.int .i64 c0) := by
    simp only [evLoad, hry']; rfl
  have l1 : evLoad false 1 A1 (.ptr y 0 1) = some (.int .i64 c1) := by
    simp only [evLoad, hry']; rfl
  obtain ⟨v1, hv1⟩ : ∃ v1 : AV, v1 = .agg [.int .i64 c0, .int .i64 c1, .int .i64 c2] := ⟨_, rfl⟩
  have e0 : run (envOf GW fs37) 300 [.code mf37.mc] ([.ptr x 0 0, .agg [.int .i64 c0, .int .i64 c1, .int .i64 c2]] ++ List.replicate 15 .undef) A = run (envOf GW fs37) 300 [.code (.seq DTST1 (.cond (.var 12) DSEND (.seq DTST2 (.cond (.var 14) DTICK (.seq DTST3 (.cond (.var 15) DNEW DDEF)))))), .blk 0, .code DKILL] (sdd (.ptr x 0 0) v1 (.ptr y 0 0) (.int .i64 (s : Int)) (.int .i64 (k : Int)) .undef .undef .undef .undef) A1 := by
    rw [mf37_eq, hv1]
    simp [DR0, DR1, DR2, evBox, bx, ← hy, pH2, i0, i1, l0, l1, m0, m1, hry', -pureH, -evLoad]
  have kill : ∀ (a b c d e f g h i : AV) (B : Arena), Done (run (envOf GW fs37) 300 [.blk 0, .code DKILL] (sdd a b c d e f g h i) B) B := fun a b c d e f g h i B => ⟨[.undef, .undef, .undef, .undef, .undef, .undef, .undef, .undef, .undef, .undef, .undef, .undef, .undef, .undef, .undef, .undef, .undef], .inl (by simp [DKILL])⟩
  suffices hS : ∃ B, Done (run (envOf GW fs37) 300 [.code (.seq DTST1 (.cond (.var 12) DSEND (.seq DTST2 (.cond (.var 14) DTICK (.seq DTST3 (.cond (.var 15) DNEW DDEF)))))), .blk 0, .code DKILL] (sdd (.ptr x 0 0) v1 (.ptr y 0 0) (.int .i64 (s : Int)) (.int .i64 (k : Int)) .undef .undef .undef .undef) A1) B ∧ LnP B x (if k ≤ 2 then (if sendOk (X.e s) (txt X.N) then sendP X s else X) else if k ≤ 5 then tickP X s else if k = 11 then { X with e := upd X.e s (newS ((X.e s).epoch + 1 + pick c2 3)) } else match X.fl[(pick c2 (X.fl.length : Int)).toNat]? with
    | none => X
    | some x => delP X k (pick c2 (X.fl.length : Int)).toNat x.1 x.2) ([y] ++ P) ∧ ∀ j, j ∈ [y] ++ P → B[j]? = A1[j]? by
    obtain ⟨B, hB, gB, pB⟩ := hS
    rw [← e0] at hB
    refine ⟨B, done_fun rfl hB, ?_, fun j hj => (pB j (by simp [hj])).trans (p1' j hj)⟩
    obtain ⟨i, q, l, w, gB⟩ := gB
    exact ⟨i, q, l, w, gB.less fun j hj => by simp [hj]⟩
  rw [run_seq, tst1 hk12]
  have cond : ∀ (a b : MC) (K : List KC) (v0 v1 v2 v3 v8 v13 v14 v15 : AV) (d : Bool) (B : Arena), run (envOf GW fs37) 300 (.code (.cond (.var 12) a b) :: K) (sdd v0 v1 v2 v3 v8 (.bool d) v13 v14 v15) B = run (envOf GW fs37) 300 (.code (if d = true then a else b) :: K) (sdd v0 v1 v2 v3 v8 (.bool d) v13 v14 v15) B := by
    intro a b K v0 v1 v2 v3 v8 v13 v14 v15 d B
    cases d <;> simp
  have cond2 : ∀ (a b : MC) (K : List KC) (v0 v1 v2 v3 v8 v12 v13 v15 : AV) (d : Bool) (B : Arena), run (envOf GW fs37) 300 (.code (.cond (.var 14) a b) :: K) (sdd v0 v1 v2 v3 v8 v12 v13 (.bool d) v15) B = run (envOf GW fs37) 300 (.code (if d = true then a else b) :: K) (sdd v0 v1 v2 v3 v8 v12 v13 (.bool d) v15) B := by
    intro a b K v0 v1 v2 v3 v8 v12 v13 v15 d B
    cases d <;> simp
  have cond3 : ∀ (a b : MC) (K : List KC) (v0 v1 v2 v3 v8 v12 v13 v14 : AV) (d : Bool) (B : Arena), run (envOf GW fs37) 300 (.code (.cond (.var 15) a b) :: K) (sdd v0 v1 v2 v3 v8 v12 v13 v14 (.bool d)) B = run (envOf GW fs37) 300 (.code (if d = true then a else b) :: K) (sdd v0 v1 v2 v3 v8 v12 v13 v14 (.bool d)) B := by
    intro a b K v0 v1 v2 v3 v8 v12 v13 v14 d B
    cases d <;> simp
  rw [cond]
  by_cases hk2 : k ≤ 2
  · rw [if_pos hk2, if_pos (decide_eq_true hk2)]
    have hnx := hws.next
    obtain ⟨B, v13, r, hB, pB⟩ := dSend (K := [.blk 0, .code DKILL]) (v1 := v1) (v2 := .ptr y 0 0) (v8 := .int .i64 (k : Int)) (v12 := .bool (decide (k ≤ 2))) (v14 := .undef) (v15 := .undef) hLn hs2 (by omega) (by omega)
    rw [r]
    exact ⟨B, kill _ _ _ _ _ _ _ _ _ _, hB, pB⟩
  · rw [if_neg hk2, if_neg (by simpa using hk2), run_seq, tst2 hk12 (by omega), cond2]
    by_cases hk5 : k ≤ 5
    · rw [if_pos hk5, if_pos (decide_eq_true hk5)]
      obtain ⟨B, r, hB, pB⟩ := dTick (K := [.blk 0, .code DKILL]) (v1 := v1) (v2 := .ptr y 0 0) (v8 := .int .i64 (k : Int)) (v12 := .bool (decide (k ≤ 2))) (v13 := .undef) (v14 := .bool (decide (k ≤ 5))) (v15 := .undef) hLn hs2 (hws.bd (by omega)) (ok.j.tickF hs2 ok.w (by omega)) (by omega) (by omega)
      rw [r]
      exact ⟨B, kill _ _ _ _ _ _ _ _ _ _, hB, pB⟩
    · rw [if_neg hk5, if_neg (by simpa using hk5), run_seq, tst3, cond3]
      by_cases hk11 : k = 11
      · rw [if_pos hk11, if_pos (decide_eq_true hk11)]
        have hep := hws.epoch
        exact dNew hLn hry h2 hs2 (by omega)
      · rw [if_neg hk11, if_neg (by simpa using hk11)]
        by_cases hl0 : X.fl.length = 0
        · have e : X.fl[(pick c2 (X.fl.length : Int)).toNat]? = none := List.getElem?_eq_none (by omega)
          rw [e]
          exact ⟨A1, dDef0 hLn hl0, hLn, fun _ _ => rfl⟩
        · have pc := pick_range c2 (X.fl.length : Int) (by omega)
          obtain ⟨m, hm⟩ : ∃ m : Nat, pick c2 (X.fl.length : Int) = (m : Int) := ⟨(pick c2 (X.fl.length : Int)).toNat, by omega⟩
          have hml : m < X.fl.length := by omega
          have em : (pick c2 (X.fl.length : Int)).toNat = m := by omega
          rw [em]
          have e : X.fl[m]? = some X.fl[m] := List.getElem?_eq_getElem hml
          rw [e]
          have hx := List.getElem_mem hml
          exact dDef hLn (by simp) hry h0 h2 hk (t := X.fl[m].1) (f := X.fl[m].2) e hm (ok.j.fl _ hx).1 (ok.del hn hx) (by omega)
end Go.Proofs.Ytfidjdlmmcaplaa
/-
  Link, plain: all frames of the line arrive; the rounds of the two ends.
-/
namespace Go.Proofs.Ytfidjdlmmcaplaa
open Go

theorem OkX.deedK {n : Nat} {X : PS} {G : Logs} (h : OkX n X G) (hk : K X G) (hn : n ≤ 190) (c0 c1 c2 : Int) : ∃ G', OkX (n + 1) (deedP X c0 c1 c2) G' ∧ K (deedP X c0 c1 c2) G' := by
  have p1 := pick_range c1 2 (by omega)
  have p2 := pick_range c2 3 (by omega)
  obtain ⟨s, hs⟩ : ∃ s, s = (pick c1 2).toNat := ⟨_, rfl⟩
  have hs2 : s < 2 := by omega
  have hN := h.N
  have hfl := h.fl
  have recv : ∀ {x : Nat × FrS}, x ∈ X.fl → ∀ {fl' : List (Nat × FrS)}, (∀ y ∈ fl', y ∈ X.fl) → fl'.length ≤ X.fl.length → ∃ G', OkX (n + 1) (recvP { X with fl := fl' } x.1 x.2) G' ∧ K (recvP { X with fl := fl' } x.1 x.2) G' := by
    intro x hx fl' hs hl
    have ht := (h.j.fl x hx).1
    obtain ⟨⟨G', h1, h1'⟩, _⟩ := h.j.recv (t := x.1) (f := x.2) hx (by omega)
    have k1 := hk.recv (t := x.1) (f := x.2) h.j hx (by omega) (h1' hk.lc)
    refine ⟨G', ⟨h1.less (fl' := fl') hs, ?_, ?_, ?_⟩, k1.less (fl' := fl') hs⟩
    · have hw := h.w x.1 ht
      exact upd_wf' h.w ((hw.recv x.2).lostE.mono (by omega))
    · show X.N ≤ n + 1 + 1
      omega
    · show fl'.length ≤ 10 * (n + 1)
      omega
  unfold deedP
  rw [← hs]
  split
  · split
    · rename_i hok
      refine ⟨sendG X G s, ⟨h.j.send hs2, ?_, ?_, ?_⟩, hk.send h.j hs2 (by omega)⟩
      · exact upd_wf' h.w ((h.w s hs2).send hok)
      · show X.N + 1 ≤ _
        omega
      · show X.fl.length ≤ _
        omega
    · exact ⟨G, h.mono, hk⟩
  · split
    · refine ⟨G, ⟨h.j.tick hs2 h.w (by omega) (by omega), ?_, ?_, ?_⟩, hk.tick h.j hs2 h.w (by omega) (by omega)⟩
      · exact upd_wf' h.w (h.w s hs2).tick
      · show X.N ≤ _
        omega
      · show (X.fl ++ (tickS (X.e s)).2.map _).length ≤ _
        rw [List.length_append, List.length_map]
        have := tick_len (X.e s)
        omega
    · split
      · have hep := (h.w s hs2).epoch
        refine ⟨G, ⟨h.j.new hs2 (by omega), ?_, ?_, ?_⟩, hk.new h.j hs2 (by omega)⟩
        · exact upd_wf' h.w (Wf.new (n + 1) (by omega))
        · show X.N ≤ _
          omega
        · show X.fl.length ≤ _
          omega
      · split
        · exact ⟨G, h.mono, hk⟩
        · rename_i x hx
          have hxm := List.mem_of_getElem? hx
          have cut : ∀ m, (∀ y ∈ X.fl.take m ++ X.fl.drop (m + 1), y ∈ X.fl) ∧ (X.fl.take m ++ X.fl.drop (m + 1)).length ≤ X.fl.length := fun m => ⟨fun y hy => by
            rcases List.mem_append.1 hy with hy | hy
            · exact List.mem_of_mem_take hy
            · exact List.mem_of_mem_drop hy, by simp; omega⟩
          unfold delP
          split
          · refine ⟨G, ⟨h.j.less (cut _).1, fun t ht => (h.w t ht).mono (by omega), ?_, ?_⟩, hk.less (cut _).1⟩
            · show X.N ≤ _
              omega
            · have := (cut (pick c2 (X.fl.length : Int)).toNat).2
              show (X.fl.take _ ++ X.fl.drop _).length ≤ _
              omega
          · split
            · exact recv hxm (fl' := X.fl) (fun y hy => hy) (Nat.le_refl _)
            · exact recv hxm (cut _).1 (cut _).2
theorem k0 : K X0 (fun _ _ _ => []) := by
  refine ⟨fun s _ => ?_, fun s _ q hq => ?_, fun s _ q hq => ?_, fun s _ q hq => ?_, fun n h1 h2 => ?_, fun s _ n hn => ?_, fun x hx => ?_, fun s _ h => ?_, fun hh => ?_⟩
  · show (0 : Int) ≤ 0 ∧ (0 : Int) ≤ 0; omega
  · cases hq
  · cases hq
  · cases hq
  · have h2' : n < 1 := h2; omega
  · cases hn
  · cases hx
  · cases h
  · rcases hh.1 with ⟨x, hx, _⟩ | ⟨h, _⟩
    · cases hx
    · cases h
/-- what holds while all frames arrive -/
structure OkY (m : Nat) (X : PS) (G : Logs) : Prop where
  j : J X G
  k : K X G
  w : ∀ t, t < 2 → Wb (X.e t)
  t : ∀ t, t < 2 → (X.e t).ticks ≤ m
  N : X.N < 300
theorem OkY.bd {m : Nat} {X : PS} {G : Logs} (h : OkY m X G) (hm : m ≤ 1000000) {s : Nat} (hs : s < 2) : Bd (X.e s) := by
  have h1 := (h.w s hs).ticks
  have h2 := h.t s hs
  have h3 := h.k.hl s hs
  exact ⟨by omega, fun q hq => by have := h.k.at_ s hs q hq; omega, by omega⟩
theorem Wb.meet {S : EndS} (h : Wb S) (p : Int) : Wb (meetS S p) := by
  unfold meetS
  split
  · exact h
  · split
    · exact ⟨h.ticks, by simp, by simp, h.epoch, by simp⟩
    · exact ⟨h.ticks, by simp, h.next, h.epoch, h.queue⟩
theorem Wb.recv {S : EndS} (h : Wb S) (f : FrS) : Wb { (receiveS S f).1 with lost := [] } := by
  have h1 := h.meet f.fr
  have hq : (recS1 S f).queue.length ≤ 64 := by
    refine Nat.le_trans ?_ h1.queue
    exact List.length_filter_le _ _
  unfold receiveS
  split
  · rename_i ht
    have hs := ht.1.2.2.1
    split
    · exact ⟨h1.ticks, h1.received, h1.next, h1.epoch, h1.queue⟩
    · split
      · exact ⟨h1.ticks, h1.received, h1.next, h1.epoch, hq⟩
      · exact ⟨h1.ticks, hs, h1.next, h1.epoch, hq⟩
  · exact ⟨h.ticks, h.received, h.next, h.epoch, h.queue⟩
theorem OkY.del {m : Nat} {X : PS} {G : Logs} (h : OkY m X G) {x : Nat × FrS} (hx : x ∈ X.fl) {fl' : List (Nat × FrS)} (hs : ∀ y ∈ fl', y ∈ X.fl) : DelOk { X with fl := fl' } x.1 x.2 ∧ ∃ G', OkY m (recvP { X with fl := fl' } x.1 x.2) G' := by
  have ht := (h.j.fl x hx).1
  obtain ⟨⟨G', g1, g2⟩, h2, h3, h4, h5, h6⟩ := h.j.recv (t := x.1) (f := x.2) hx h.N
  have k1 := h.k.recv (t := x.1) (f := x.2) h.j hx h.N (g2 h.k.lc)
  have hw := h.w x.1 ht
  have hlo := h.j.lo x.1 ht
  have hq := hw.queue
  have hl : (receiveS (X.e x.1) x.2).1.lost.length ≤ 64 := by
    have e : (receiveS (X.e x.1) x.2).1.lost = (meetS (X.e x.1) x.2.fr).lost ∨ (receiveS (X.e x.1) x.2).1.lost = (X.e x.1).lost := by
      unfold receiveS
      split
      · split
        · exact .inl rfl
        · split <;> exact .inl rfl
      · exact .inr rfl
    rcases e with e | e
    · rw [e]
      rcases meet_lost (X.e x.1) x.2.fr hlo with e | e
      · rw [e]; simp
      · rw [e, List.length_map]; exact hq
    · rw [e, hlo]; simp
  constructor
  · exact ⟨h2, ⟨h3, h4⟩, h5, h6, h.j.lo _ (flip ht).1, by show (receiveS (X.e x.1) x.2).1.lost.length ≤ 250; omega, by show (X.e x.1).lost.length ≤ 1000000; rw [hlo]; simp, by show (X.e x.1).queue.length ≤ 100; omega, hw.received, h.N⟩
  · refine ⟨G', g1.less (fl' := fl') hs, k1.less (fl' := fl') hs, fun t ht' => ?_, fun t ht' => ?_, h.N⟩
    · show Wb (upd X.e x.1 _ t)
      by_cases c : t = x.1
      · subst c
        rw [upd_same]
        exact hw.recv x.2
      · rw [upd_ne _ _ c]; exact h.w t ht'
    · show (upd X.e x.1 _ t).ticks ≤ _
      by_cases c : t = x.1
      · subst c
        rw [upd_same]
        show (receiveS (X.e x.1) x.2).1.ticks ≤ _
        rw [(recv_rest (X.e x.1) x.2).2.1]
        exact h.t _ ht'
      · rw [upd_ne _ _ c]; exact h.t t ht'
def drl : List (Nat × FrS) → PS → PS
  | [], X => X
  | x :: r, X => drl r (recvP { X with fl := r } x.1 x.2)
theorem drl_rest : ∀ (xs : List (Nat × FrS)) (X : PS), (drl xs X).N = X.N ∧ (drl xs X).sd = X.sd ∧ (drl xs X).fm = X.fm
  | [], X => ⟨rfl, rfl, rfl⟩
  | x :: r, X => by
    obtain ⟨a, b, c⟩ := drl_rest r (recvP { X with fl := r } x.1 x.2)
    exact ⟨a, b, c⟩
theorem drl_fl : ∀ (xs : List (Nat × FrS)) (X : PS), X.fl = xs → (drl xs X).fl = []
  | [], X, h => h
  | x :: r, X, h => drl_fl r (recvP { X with fl := r } x.1 x.2) rfl
theorem drl_ok {m : Nat} : ∀ (xs : List (Nat × FrS)) (X : PS) (G : Logs), X.fl = xs → OkY m X G → ∃ G', OkY m (drl xs X) G'
  | [], X, G, _, h => ⟨G, h⟩
  | x :: r, X, G, hfl, h => by
    obtain ⟨_, G', h'⟩ := h.del (x := x) (fl' := r) (by rw [hfl]; simp) (fun y hy => by rw [hfl]; exact List.mem_cons_of_mem _ hy)
    exact drl_ok r (recvP { X with fl := r } x.1 x.2) G' rfl h'
/-- the frames to an end -/
def toE (t : Nat) (xs : List (Nat × FrS)) : List FrS := (xs.filter (fun x => x.1 == t)).map (·.2)
theorem toE_cons (t : Nat) (x : Nat × FrS) (xs : List (Nat × FrS)) : toE t (x :: xs) = if x.1 = t then x.2 :: toE t xs else toE t xs := by
  unfold toE
  by_cases c : x.1 = t
  · rw [if_pos c, List.filter_cons_of_pos (by simpa using c)]; rfl
  · rw [if_neg c, List.filter_cons_of_neg (by simpa using c)]
theorem toE_append (t : Nat) (xs ys : List (Nat × FrS)) : toE t (xs ++ ys) = toE t xs ++ toE t ys := by
  unfold toE
  rw [List.filter_append, List.map_append]
theorem toE_map (t s : Nat) (fs : List FrS) : toE t (fs.map (fun f => (s, f))) = if s = t then fs else [] := by
  induction fs with
  | nil => split <;> rfl
  | cons f fs ih =>
    rw [List.map_cons, toE_cons, ih]
    split <;> rfl
theorem drl_e (t : Nat) : ∀ (xs : List (Nat × FrS)) (X : PS), (drl xs X).e t = rA (X.e t) (toE t xs)
  | [], X => rfl
  | x :: r, X => by
    show (drl r (recvP { X with fl := r } x.1 x.2)).e t = _
    rw [drl_e t r, toE_cons]
    show rA (upd X.e x.1 (one (X.e x.1) x.2) t) _ = _
    by_cases c : x.1 = t
    · subst c
      rw [upd_same, if_pos rfl, rA_cons]
    · rw [upd_ne _ _ (fun h => c h.symm), if_neg c]
/-- a round -/
def rnd (X : PS) : PS := tickP (tickP (drl X.fl X) 0) 1
def rnds (X : PS) : Nat → PS
  | 0 => X
  | r + 1 => rnd (rnds X r)
def drd (X : PS) (r : Nat) : PS := drl (rnds X r).fl (rnds X r)
theorem rnd_fl (X : PS) : (rnd X).fl.length ≤ 18 := by
  show ((drl X.fl X).fl ++ _ ++ _).length ≤ 18
  rw [drl_fl _ _ rfl]
  simp only [List.nil_append, List.length_append, List.length_map]
  have := tick_len ((drl X.fl X).e 0)
  have := tick_len ((tickP (drl X.fl X) 0).e 1)
  omega
theorem Wb.tick {S : EndS} (h : Wb S) : Wb (tickS S).1 := by
  obtain ⟨r1, r2, r3, r4, r5, r6⟩ := tick_rest S
  have c1 := (tick_clock S).1
  have h2 := congrArg List.length (tick_queue S).1
  simp only [List.length_map] at h2
  exact ⟨by have := h.ticks; omega, by rw [r5]; exact h.received, by rw [r6]; exact h.next, by rw [r1]; exact h.epoch, by have := h.queue; omega⟩
theorem OkY.tick {m : Nat} {X : PS} {G : Logs} (h : OkY m X G) {s : Nat} (hs : s < 2) : OkY (m + 1) (tickP X s) G := by
  refine ⟨h.j.tickB hs h.w h.N, h.k.tickB h.j hs h.w h.N, fun t ht => ?_, fun t ht => ?_, h.N⟩
  · show Wb (upd X.e s _ t)
    by_cases c : t = s
    · subst c
      rw [upd_same]
      exact (h.w t ht).tick
    · rw [upd_ne _ _ c]; exact h.w t ht
  · show (upd X.e s _ t).ticks ≤ _
    by_cases c : t = s
    · subst c
      rw [upd_same, (tick_clock _).1]
      have := h.t t ht
      omega
    · rw [upd_ne _ _ c]
      have := h.t t ht
      omega
theorem rnds_ok {m : Nat} {X : PS} {G : Logs} (h : OkY m X G) : ∀ r, ∃ G', OkY (m + 2 * r) (rnds X r) G'
  | 0 => ⟨G, h⟩
  | r + 1 => by
    obtain ⟨G1, h1⟩ := rnds_ok h r
    obtain ⟨G2, h2⟩ := drl_ok _ _ _ rfl h1
    exact ⟨G2, (h2.tick (s := 0) (by omega)).tick (s := 1) (by omega)⟩
theorem drd_ok {m : Nat} {X : PS} {G : Logs} (h : OkY m X G) (r : Nat) : ∃ G', OkY (m + 2 * r) (drd X r) G' := by
  obtain ⟨G1, h1⟩ := rnds_ok h r
  exact drl_ok _ _ _ rfl h1
theorem tick_e {X : PS} (h : X.fl = []) : (tickP (tickP X 0) 1).fl = (tickS (X.e 0)).2.map (fun f => (1, f)) ++ (tickS (X.e 1)).2.map (fun f => (0, f)) ∧ (∀ t, t < 2 → (tickP (tickP X 0) 1).e t = (tickS (X.e t)).1) := by
  have e1 : (tickP X 0).e 1 = X.e 1 := by
    show upd X.e 0 (tickS (X.e 0)).1 1 = _
    exact upd_ne _ _ (by omega)
  constructor
  · show X.fl ++ _ ++ (tickS ((tickP X 0).e 1)).2.map _ = _
    rw [h, e1, List.nil_append]
  · intro t ht
    show upd (tickP X 0).e 1 (tickS ((tickP X 0).e 1)).1 t = _
    rw [e1]
    rcases (show t = 0 ∨ t = 1 by omega) with rfl | rfl
    · rw [upd_ne _ _ (by omega)]
      show upd X.e 0 (tickS (X.e 0)).1 0 = _
      exact upd_same _ _ _
    · rw [upd_same]
theorem rnds_nx (X : PS) (r : Nat) {s : Nat} (hs : s < 2) : (drd X (r + 1)).e s = nxt (drd X r).e s := by
  obtain ⟨a, b⟩ := tick_e (X := drd X r) (drl_fl _ _ rfl)
  show (drl (rnd (rnds X r)).fl (rnd (rnds X r))).e s = _
  rw [drl_e]
  show rA ((tickP (tickP (drd X r) 0) 1).e s) (toE s (tickP (tickP (drd X r) 0) 1).fl) = _
  rw [a, b s hs, toE_append, toE_map, toE_map]
  rcases (show s = 0 ∨ s = 1 by omega) with rfl | rfl
  · rfl
  · show rA _ ((tickS ((drd X r).e 0)).2 ++ []) = _
    rw [List.append_nil]; rfl

theorem rnds_run {m : Nat} {X : PS} {G : Logs} (h : OkY m X G) : Run (fun r => (drd X r).e) := by
  refine ⟨fun r => ?_, fun r s hs => rnds_nx X r hs⟩
  obtain ⟨G', h'⟩ := drd_ok h r
  exact h'.j.ie h'.k h'.w h'.N
/-- after 12 + 3 W rounds nothing waits, the ends know each other, and no message is open -/
theorem rnds_done {m : Nat} {X : PS} {G : Logs} (h : OkY m X G) {W : Nat} (hW : ∀ s, s < 2 → (X.e s).queue.length ≤ W) : (∀ s, s < 2 → ((rnds X (12 + 3 * W)).e s).queue = [] ∧ ((rnds X (12 + 3 * W)).e s).peer = ((rnds X (12 + 3 * W)).e (1 - s)).epoch) ∧
    ∀ n, 1 ≤ n → n < (rnds X (12 + 3 * W)).N → (rnds X (12 + 3 * W)).fm n = ((rnds X (12 + 3 * W)).e ((rnds X (12 + 3 * W)).sd n)).epoch → (rnds X (12 + 3 * W)).ar n = 0 → (rnds X (12 + 3 * W)).ls n = false → False := by
  have hR := rnds_run h
  obtain ⟨Z, hZ⟩ : ∃ Z, Z = rnds X (12 + 3 * W) := ⟨_, rfl⟩
  have eZ : ∀ s, s < 2 → Z.e s = (tickS ((drd X (11 + 3 * W)).e s)).1 := by
    intro s hs
    have e : Z = tickP (tickP (drd X (11 + 3 * W)) 0) 1 := by
      rw [hZ, show 12 + 3 * W = (11 + 3 * W) + 1 by omega]
      rfl
    rw [e]
    exact (tick_e (drl_fl _ _ rfl)).2 s hs
  have key : ∀ s, s < 2 → (Z.e s).queue = [] ∧ (Z.e s).peer = (Z.e (1 - s)).epoch := by
    intro s hs
    obtain ⟨f1, f2, f3⟩ := flip hs
    have hlen : ((drd X 0).e s).queue.length ≤ W := by
      refine Nat.le_trans ?_ (hW s hs)
      show ((drl X.fl X).e s).queue.length ≤ _
      rw [drl_e]
      exact (rA_rest _ _).2.2.2.length_le
    obtain ⟨d1, d2⟩ := hR.done (W := W) hs hlen
    have d1' : ((drd X (11 + 3 * W)).e s).queue = [] := d1
    have d2' : ((drd X (11 + 3 * W)).e s).peer = ((drd X (11 + 3 * W)).e (1 - s)).epoch := d2
    rw [eZ s hs, eZ (1 - s) f1, (tick_rest _).2.1, (tick_rest _).1]
    refine ⟨?_, d2'⟩
    have := congrArg List.length (tick_queue ((drd X (11 + 3 * W)).e s)).1
    rw [d1'] at this
    simp only [List.length_map, List.length_nil] at this
    exact List.length_eq_zero_iff.1 this
  rw [← hZ]
  refine ⟨key, fun n h1 h2 h3 h4 h5 => ?_⟩
  obtain ⟨G', h'⟩ := rnds_ok h (12 + 3 * W)
  rw [← hZ] at h'
  obtain ⟨q, hq, _⟩ := h'.j.op n h1 h2 h3 h4 h5
  rw [(key _ (h'.j.mf n h1 h2).1).1] at hq
  cases hq
theorem J.tickFB {X : PS} {G : Logs} (h : J X G) {s : Nat} (hs : s < 2) (hw : ∀ t, t < 2 → Wb (X.e t)) : ∀ f ∈ (tickS (X.e s)).2, TickF X (X.e s).peer s f := by
  intro f hf
  obtain ⟨a1, a2, a3, _⟩ := h.framesB hs hw hf
  refine ⟨a1, a2, fun hq => ?_⟩
  obtain ⟨b1, _, k, m, b2, b3, b4, b5⟩ := a3 hq
  have := h.gm s hs _ _ m (List.mem_of_getElem? b2)
  exact ⟨b1, m, b4, this.1, this.2.1, b5⟩
end Go.Proofs.Ytfidjdlmmcaplaa
/-
  Link: lists of three integers as arguments.
-/
namespace Go.Proofs.Ytfidjdlmmcaplaa
open Go

def c3A (c : Int × Int × Int) : AV := .agg [.int .i64 c.1, .int .i64 c.2.1, .int .i64 c.2.2]
set_option maxRecDepth 100000 in
theorem three_arg {x : AV} {n : Nat} (h : TA Try.prog (n + 2) 35 x) : ∃ c : Int × Int × Int, x = c3A c ∧ inI c.1 ∧ inI c.2.1 ∧ inI c.2.2 := by
  obtain ⟨ls, rfl, hc, hl⟩ := TA.agg (show aggT Try.prog 35 = true by kernel_rfl) h
  simp only [TC, Try.underlying35] at hc
  rw [show Try.prog.cellsOf 3 = 1 by kernel_rfl] at hc
  simp only [TCa, TC, Try.underlying3] at hc
  obtain ⟨_, _, rfl, ⟨a, rfl, ha⟩, _, _, _, rfl, ⟨b, rfl, hb⟩, _, _, _, rfl, ⟨c, rfl, hc'⟩, _, rfl⟩ := hc
  exact ⟨(a, b, c), rfl, ha, hb, hc'⟩
theorem calls_arg {x : AV} {n : Nat} (h : TA Try.prog (n + 3) 22 x) : ∃ cs : List (Int × Int × Int), SlA 3 (cs.map c3A) x ∧ ∀ c ∈ cs, inI c.1 ∧ inI c.2.1 ∧ inI c.2.2 := by
  obtain ⟨es, h1, h2, h3⟩ := TA.sl Try.underlying22 h
  rw [show Try.prog.cellsOf 35 = 3 by kernel_rfl] at h1
  obtain ⟨cs, rfl, h4⟩ := map_of_forall (f := c3A) (p := fun c => inI c.1 ∧ inI c.2.1 ∧ inI c.2.2) (fun x hx => three_arg (n := n) (h3 x hx))
  exact ⟨cs, h1, h4⟩
end Go.Proofs.Ytfidjdlmmcaplaa
/-
  Link: Progress.
-/
namespace Go.Proofs.Ytfidjdlmmcaplaa
open Go

noncomputable def fsQ : List (FuncId × HModel) := [(12, pureH 4 M12), (25, pureH 4 M25), (26, pureH 4 M26), (27, H27), (36, H36), (37, H37), (38, H38), (39, H39), (40, H40)]
@[simp] theorem fsQ_12 : lookM fsQ 12 = some (pureH 4 M12) := rfl
@[simp] theorem fsQ_25 : lookM fsQ 25 = some (pureH 4 M25) := rfl
@[simp] theorem fsQ_26 : lookM fsQ 26 = some (pureH 4 M26) := rfl
@[simp] theorem fsQ_27 : lookM fsQ 27 = some (H27) := rfl
@[simp] theorem fsQ_36 : lookM fsQ 36 = some (H36) := rfl
@[simp] theorem fsQ_37 : lookM fsQ 37 = some (H37) := rfl
@[simp] theorem fsQ_38 : lookM fsQ 38 = some (H38) := rfl
@[simp] theorem fsQ_39 : lookM fsQ 39 = some (H39) := rfl
@[simp] theorem fsQ_40 : lookM fsQ 40 = some (H40) := rfl
theorem soundQ : ∀ f M, lookM fsQ f = some M → FnSpecY Try.prog GW f M := lookM_cons (FnSpecY.of_pure (PureSpec.of_ev (E := envOf GW fs12) (envOf_sound sound12) rfl at12 comp12 5 fun _ _ h => ⟨300, h⟩) 4) (lookM_cons (FnSpecY.of_pure spec25 4) (lookM_cons (FnSpecY.of_pure spec26 4) (lookM_cons spec27 (lookM_cons spec36 (lookM_cons spec37 (lookM_cons spec38 (lookM_cons spec39 (lookM_cons spec40 lookM_nil))))))))
/-- a frame is taken off the line, and arrives -/
theorem round7b {A : Arena} {x : Nat} {X : PS} (h : LnP A x X []) {m : Nat} {G : Logs} (ok : OkY m X G) {c : Nat × FrS} {r : List (Nat × FrS)} (hc : X.fl = c :: r) (hfl : X.fl.length ≤ 10000) (v2 v5 v6 : AV) :
    ∃ B G', run (envOf GW fsQ) 3000 [.code lp7x1] (st7x1 v2 (.ptr x 0 0) v5 v6) A = some (.normal (st7x1 v2 (.ptr x 0 0) v5 v6) B) ∧ LnP B x (recvP { X with fl := r } c.1 c.2) [] ∧ OkY m (recvP { X with fl := r } c.1 c.2) G' := by
  obtain ⟨t, f⟩ := c
  obtain ⟨hd, G', ok'⟩ := ok.del (x := (t, f)) (fl' := r) (by rw [hc]; simp) (fun y hy => by rw [hc]; exact List.mem_cons_of_mem _ hy)
  have ht := (ok.j.fl (t, f) (by rw [hc]; simp)).1
  obtain ⟨i, q, l, w, h⟩ := h
  have hrow := h.row
  have hS : SlP 6 A (w 0) (X.fl.map flA) := h.slot (k := 0) (by omega)
  have hlen : evLenSl (w 0) = some (.int .i64 (X.fl.length : Int)) := by
    have := hS.len
    rwa [List.length_map] at this
  have hn : 0 < X.fl.length := by rw [hc]; simp
  obtain ⟨y, x1, l1⟩ := flAt hS hn
  have e0 : X.fl[0] = (t, f) := by simp [hc]
  rw [e0] at l1
  have l1' : evLoad true 6 A (.ptr y 0 0) = some (.agg [.int .i64 (t : Int), .int .i64 f.fr, .int .i64 f.to, .int .i64 f.seq, .int .i64 f.ack, .str f.body]) := l1
  have x1' : evIndexSl 6 A (w 0) (.int .i64 0) = some (.ptr y 0 0) := x1
  have f2 : evLoad false 1 A (.ptr x 0 2) = some (w 0) := h.ldw (k := 0) (by omega)
  obtain ⟨A0, hA0⟩ : ∃ A0, A0 = A ++ [Ent.row 6 false [.agg [.int .i64 0, .int .i64 0, .int .i64 0, .int .i64 0, .int .i64 0, .str []]]] := ⟨_, rfl⟩
  obtain ⟨A1, hA1⟩ : ∃ A1, A1 = A ++ [Ent.row 6 false [flA (t, f)]] := ⟨_, rfl⟩
  obtain ⟨z, hz⟩ : ∃ z, z = A.length := ⟨_, rfl⟩
  have st0 : evStore 6 A0 (.ptr z 0 0) (.agg [.int .i64 (t : Int), .int .i64 f.fr, .int .i64 f.to, .int .i64 f.seq, .int .i64 f.ack, .str f.body]) = some A1 := by
    have hr0 : A0[z]? = some (.row 6 false [.agg [.int .i64 0, .int .i64 0, .int .i64 0, .int .i64 0, .int .i64 0, .str []]]) := by rw [hA0, hz]; simp
    have := evStore_of (size := 6) (o := 0) (i := 0) (e' := flA (t, f)) (a := flA (t, f)) hr0 rfl rfl rfl (by omega) rfl
    rw [show (AV.agg [.int .i64 (t : Int), .int .i64 f.fr, .int .i64 f.to, .int .i64 f.seq, .int .i64 f.ack, .str f.body]) = flA (t, f) from rfl, this, hA0, hA1, hz]
    simp
  have hF : Fr A A1 [] := by rw [hA1]; exact Fr.app _ _ _
  have hl1 : A1.length = A.length + 1 := by rw [hA1]; simp
  obtain ⟨h1, p1⟩ := h.more hF [z] (fun j hj => by rw [List.mem_singleton] at hj; omega)
  have hrz : A1[z]? = some (.row 6 false [flA (t, f)]) := by rw [hA1, hz]; simp
  obtain ⟨B, g1, g2, g3⟩ := ev38 (fun _ _ _ => none) (n := 0) ⟨i, q, l, w, h1⟩ hn (by omega)
  have eF : ({ X with fl := X.fl.take 0 ++ X.fl.drop (0 + 1) } : PS) = { X with fl := r } := by rw [hc]; rfl
  rw [eF] at g2
  have hrzB : B[z]? = some (.row 6 false [flA (t, f)]) := (g3 z (by simp)).trans hrz
  have lz : evLoad true 6 B (.ptr z 0 0) = some (.agg [.int .i64 (t : Int), .int .i64 f.fr, .int .i64 f.to, .int .i64 f.seq, .int .i64 f.ack, .str f.body]) := by
    simp only [evLoad, hrzB]; rfl
  obtain ⟨C, k1, k2, k3⟩ := ev39 (fun _ _ _ => none) g2 ht hd
  have v38 : H38 (fun _ _ _ => none) [.ptr x 0 0, .int .i64 0] A1 = some (.tup [], B) := g1
  have v39 : H39 (fun _ _ _ => none) [.ptr x 0 0, .agg [.int .i64 (t : Int), .int .i64 f.fr, .int .i64 f.to, .int .i64 f.seq, .int .i64 f.ack, .str f.body]] B = some (.tup [], C) := k1
  have b0 := evGtr (X.fl.length : Int) 0
  rw [decide_eq_true (by omega)] at b0
  refine ⟨C, G', ?_, ?_, ok'⟩
  rotate_left
  · obtain ⟨i', q', l', w', k2⟩ := k2
    exact ⟨i', q', l', w', k2.less (fun j hj => by cases hj)⟩
  simp [lp7x1, hrow, f2, hlen, b0, x1', l1', ← hA0, ← hz, st0, lz, v38, v39, -evBin, -evLoad, -evStore, -evLenSl, -evIndexSl]
theorem loop7b {x : Nat} {m : Nat} (v2 v5 v6 : AV) : ∀ (xs : List (Nat × FrS)) (k : Nat) (A : Arena) (X : PS) (G : Logs), LnP A x X [] → OkY m X G → X.fl = xs → xs.length ≤ 10000 → xs.length < k →
    ∃ B G', iter (evC (envOf GW fsQ) 3000 lp7x1) mask7x1 k (st7x1 v2 (.ptr x 0 0) v5 v6) A = some (.exit 4 ((st7x1 v2 (.ptr x 0 0) v5 v6).set 12 (.bool false)) B) ∧ LnP B x (drl xs X) [] ∧ OkY m (drl xs X) G'
  | _, 0, _, _, _, _, _, _, _, h => by omega
  | [], k + 1, A, X, G, h, ok, hx, _, _ => by
    refine ⟨A, G, ?_, h, ok⟩
    obtain ⟨i, q, l, w, h⟩ := h
    have hrow := h.row
    have hS : SlP 6 A (w 0) (X.fl.map flA) := h.slot (k := 0) (by omega)
    have hlen : evLenSl (w 0) = some (.int .i64 0) := by
      have := hS.len
      rw [List.length_map, hx] at this
      exact this
    have f2 : evLoad false 1 A (.ptr x 0 2) = some (w 0) := h.ldw (k := 0) (by omega)
    have b0 : evBin .gtr (.int .i64 0) (.int .i64 0) = some (.bool false) := rfl
    rw [iter_succ, cl7x1]
    simp [lp7x1, hrow, f2, hlen, b0, -evBin, -evLoad, -evLenSl]
  | c :: r, k + 1, A, X, G, h, ok, hx, hl, hk => by
    obtain ⟨B, G', e, h', ok'⟩ := round7b h ok hx (by rw [hx]; exact hl) v2 v5 v6
    simp only [List.length_cons] at hl hk
    obtain ⟨C, G2, g1, g2, g3⟩ := loop7b v2 v5 v6 r k B _ G' h' ok' rfl (by omega) (by omega)
    refine ⟨C, G2, ?_, g2, g3⟩
    rw [iter_succ, cl7x1, e]
    exact g1
/-- a round -/
theorem round7c {A : Arena} {x : Nat} {X : PS} (h : LnP A x X []) {m : Nat} {G : Logs} (ok : OkY m X G) (hm : m ≤ 1000) (hfl : X.fl.length ≤ 2000) {r n : Nat} (hr : r < n) (hn : n ≤ 1000) (v2 : AV) :
    ∃ B G', run (envOf GW fsQ) 3000 [.code lp7x2] (st7x2 v2 (.ptr x 0 0) (.int .i64 (n : Int)) (.int .i64 (r : Int))) A = some (.normal (st7x2 v2 (.ptr x 0 0) (.int .i64 (n : Int)) (.int .i64 ((r + 1 : Nat) : Int))) B) ∧ LnP B x (rnd X) [] ∧ OkY (m + 2) (rnd X) G' := by
  obtain ⟨B, G1, lp, hB, ok1⟩ := loop7b (x := x) v2 (.int .i64 (n : Int)) (.int .i64 (r : Int)) X.fl 3000 A X G h ok rfl (by omega) (by omega)
  have flB : (drl X.fl X).fl.length = 0 := by rw [drl_fl _ _ rfl]; rfl
  obtain ⟨C, c1, hC, _⟩ := ev40 (fun _ _ _ => none) hB (s := 0) (by omega) (ok1.bd (by omega) (by omega)) (ok1.j.tickFB (by omega) ok1.w) ok1.N (by omega)
  have ok2 := ok1.tick (s := 0) (by omega)
  have flC : (tickP (drl X.fl X) 0).fl.length ≤ 100000 := by
    show ((drl X.fl X).fl ++ _).length ≤ _
    rw [List.length_append, flB, List.length_map]
    have := tick_len ((drl X.fl X).e 0)
    omega
  obtain ⟨D, d1, hD, _⟩ := ev40 (fun _ _ _ => none) hC (s := 1) (by omega) (ok2.bd (by omega) (by omega)) (ok2.j.tickFB (by omega) ok2.w) ok2.N flC
  have ok3 := ok2.tick (s := 1) (by omega)
  refine ⟨D, G1, ?_, hD, ok3⟩
  have c1' : H40 (fun _ _ _ => none) [.ptr x 0 0, .int .i64 0] B = some (.tup [], C) := c1
  have d1' : H40 (fun _ _ _ => none) [.ptr x 0 0, .int .i64 1] C = some (.tup [], D) := d1
  have b1 := evLss (r : Int) (n : Int)
  rw [decide_eq_true (by omega)] at b1
  have b3 := evAdd (a := (r : Int)) (b := 1) (by omega)
  rw [show (r : Int) + 1 = ((r + 1 : Nat) : Int) by omega] at b3
  obtain ⟨t, ht⟩ : ∃ t, t = r + 1 := ⟨_, rfl⟩
  rw [← ht] at b3 ⊢
  simp [lp7x2, b1, b3, go7x1 lp, c1', d1', -evBin]
theorem loop7c {A : Arena} {x : Nat} {X : PS} (h : LnP A x X []) {m : Nat} {G : Logs} (ok : OkY m X G) (hm : m ≤ 200) (hfl : X.fl.length ≤ 2000) {n : Nat} (hn : n ≤ 300) (v2 : AV) :
    ∃ B G', iter (evC (envOf GW fsQ) 3000 lp7x2) mask7x2 3000 (st7x2 v2 (.ptr x 0 0) (.int .i64 (n : Int)) (.int .i64 0)) A = some (.exit 2 ((st7x2 v2 (.ptr x 0 0) (.int .i64 (n : Int)) (.int .i64 (n : Int))).set 11 (.bool false)) B) ∧ LnP B x (rnds X n) [] ∧ OkY (m + 2 * n) (rnds X n) G' := by
  have key : ∀ (k r f : Nat) (A : Arena) (G : Logs), r + k = n → k < f → LnP A x (rnds X r) [] → OkY (m + 2 * r) (rnds X r) G → (rnds X r).fl.length ≤ 2000 →
      ∃ B G', iter (evC (envOf GW fsQ) 3000 lp7x2) mask7x2 f (st7x2 v2 (.ptr x 0 0) (.int .i64 (n : Int)) (.int .i64 (r : Int))) A = some (.exit 2 ((st7x2 v2 (.ptr x 0 0) (.int .i64 (n : Int)) (.int .i64 (n : Int))).set 11 (.bool false)) B) ∧ LnP B x (rnds X n) [] ∧ OkY (m + 2 * n) (rnds X n) G' := by
    intro k
    induction k with
    | zero =>
      intro r f A G hr hf h ok _
      obtain rfl : r = n := by omega
      obtain ⟨f, rfl⟩ : ∃ g, f = g + 1 := ⟨f - 1, by omega⟩
      refine ⟨A, G, ?_, h, ok⟩
      have b1 := evLss (r : Int) (r : Int)
      rw [decide_eq_false (by omega)] at b1
      rw [iter_succ, cl7x2]
      simp [lp7x2, b1, -evBin]
    | succ k ih =>
      intro r f A G hr hf h ok hl
      obtain ⟨f, rfl⟩ : ∃ g, f = g + 1 := ⟨f - 1, by omega⟩
      obtain ⟨B, G', e, h', ok'⟩ := round7c h ok (by omega) hl (r := r) (n := n) (by omega) (by omega) v2
      have := rnd_fl (rnds X r)
      rw [iter_succ, cl7x2, e]
      exact ih (r + 1) f B G' (by omega) (by omega) h' ok' (by show (rnd (rnds X r)).fl.length ≤ _; omega)
  exact key n 0 3000 A G (by omega) (by omega) h ok hfl
end Go.Proofs.Ytfidjdlmmcaplaa
/-
  Link: Progress, the whole.
-/
namespace Go.Proofs.Ytfidjdlmmcaplaa
open Go

set_option maxRecDepth 100000 in
set_option maxHeartbeats 4000000 in
theorem round7a {A : Arena} {x : Nat} {X : PS} (h : LnP A x X []) {i : Nat} {G : Logs} (ok : OkX i X G) (hk : K X G) {v0 v2 : AV} {cs : List (Int × Int × Int)} (hv0 : SlA 3 (cs.map c3A) v0) (hi : i < cs.length) (hi120 : i < 120) (hin : ∀ c ∈ cs, inI c.1 ∧ inI c.2.1 ∧ inI c.2.2) :
    ∃ B X' G', run (envOf GW fsQ) 3000 [.code lp7x0] (st7x0 v0 v2 (.ptr x 0 0) (.int .i64 (i : Int))) A = some (.normal (st7x0 v0 v2 (.ptr x 0 0) (.int .i64 ((i + 1 : Nat) : Int))) B) ∧ LnP B x X' [] ∧ OkX (i + 1) X' G' ∧ K X' G' := by
  obtain ⟨c, hc⟩ : ∃ c, c = cs[i] := ⟨_, rfl⟩
  have hci := hin c (by rw [hc]; exact List.getElem_mem hi)
  obtain ⟨c0, c1, c2⟩ := c
  simp only at hci
  obtain ⟨B, v37, hB, pB⟩ := ev37 (fun _ _ _ => none) h ok (by omega) hci.1 hci.2.1 hci.2.2
  obtain ⟨G', ok', hk'⟩ := ok.deedK hk (by omega) c0 c1 c2
  refine ⟨B, deedP X c0 c1 c2, G', ?_, hB, ok', hk'⟩
  obtain ⟨ii, q, l, w, h⟩ := h
  have hrow := h.row
  have ok1 := h.ldok
  have hn := hv0.len
  rw [List.length_map] at hn
  have b1 := evLss (i : Int) (cs.length : Int)
  rw [decide_eq_true (by omega)] at b1
  have b2 := evLss (i : Int) 120
  rw [decide_eq_true (by omega)] at b2
  have b3 := evAdd (a := (i : Int)) (b := 1) (by omega)
  rw [show (i : Int) + 1 = ((i + 1 : Nat) : Int) by omega] at b3
  have he : (cs.map c3A)[i]? = some (c3A (c0, c1, c2)) := by simp [hi, ← hc]
  have ix := hv0.index (A := A) he rfl (by omega) .i64
  have ld : evLoad true 3 A (.fp (cellsOf (c3A (c0, c1, c2)))) = some (.agg [.int .i64 c0, .int .i64 c1, .int .i64 c2]) := rfl
  obtain ⟨C, hC⟩ : ∃ C, C = cellsOf (c3A (c0, c1, c2)) := ⟨_, rfl⟩
  rw [← hC] at ix ld
  obtain ⟨t, ht⟩ : ∃ t, t = i + 1 := ⟨_, rfl⟩
  rw [← ht] at b3 ⊢
  have pk : pack [] = .tup [] := rfl
  rw [pk] at v37
  simp [lp7x0, b1, b2, b3, hn, hrow, ok1, ix, ld, v37, -evBin, -evLoad, -evLenSl, -evIndexSl]
theorem ok0' : OkX 0 X0 (fun _ _ _ => []) := by
  refine ⟨⟨?_, ?_, ?_, ?_, ?_, ?_, ?_, ?_, ?_, ?_, ?_, ?_, ?_, ?_, ?_, ?_, ?_, ?_, ?_, ?_, ?_, ?_⟩, fun t _ => Wf.new 0 (by omega), Nat.le_refl _, Nat.le_refl _⟩
  · intro s _; show (1 : Int) ≤ 1; omega
  · intro s _; show (0 : Int) ≤ 0 ∧ (0 : Int) ≤ 1; omega
  · intro s _ h; cases h
  · intro s _; rfl
  · intro s _; rfl
  · intro s _ q hq; cases hq
  · intro s _; exact .nil
  · intro s _ p q n hn; cases hn
  · intro s _ p q; exact .nil
  · intro s _ p q _; rfl
  · intro s _ q _; rfl
  · intro s _ p q _; rfl
  · exact Nat.le_refl _
  · intro n m h1 h2 h3; have h3' : m < 1 := h3; omega
  · intro n h1 h2; have h2' : n < 1 := h2; omega
  · intro s _; show 0 < 1; omega
  · intro x hx; cases hx
  · intro s _; show 0 ≤ (0 : Int) ∧ (0 : Int) ≤ _; omega
  · intro s _ k n hk; simp at hk
  · intro s _ p n _ hn; cases hn
  · intro s _ _ n hn; cases hn
  · intro n h1 h2; have h2' : n < 1 := h2; omega
theorem loop7a {A : Arena} {x : Nat} (h : LnP A x X0 []) {v0 v2 : AV} {cs : List (Int × Int × Int)} (hv0 : SlA 3 (cs.map c3A) v0) (hin : ∀ c ∈ cs, inI c.1 ∧ inI c.2.1 ∧ inI c.2.2) :
    ∃ B X G v4 v9, iter (evC (envOf GW fsQ) 3000 lp7x0) mask7x0 3000 (st7x0 v0 v2 (.ptr x 0 0) (.int .i64 0)) A = some (.exit 0 ((st7x0 v0 v2 (.ptr x 0 0) v4).set 9 v9) B) ∧ LnP B x X [] ∧ OkX 120 X G ∧ K X G := by
  obtain ⟨N, hN⟩ : ∃ N, N = min cs.length 120 := ⟨_, rfl⟩
  obtain ⟨o, h1, B, X, G, v4, v9, rfl, hX⟩ := iter_inv (E := envOf GW fsQ) (fuel := 3000) (a := lp7x0) (mask := mask7x0)
    (fun κ σ A' => ∃ (i : Nat) (X : PS) (G : Logs), i + κ = N ∧ σ = st7x0 v0 v2 (.ptr x 0 0) (.int .i64 (i : Int)) ∧ LnP A' x X [] ∧ OkX i X G ∧ K X G)
    (fun o => ∃ B X G v4 v9, o = .exit 0 ((st7x0 v0 v2 (.ptr x 0 0) v4).set 9 v9) B ∧ LnP B x X [] ∧ OkX 120 X G ∧ K X G)
    (by
      rintro κ σ A' ⟨i, X, G, hik, rfl, g1, g2, g3⟩
      rw [cl7x0]
      by_cases hi : i < N
      · obtain ⟨B, X', G', e, k1, k2, k3⟩ := round7a g1 g2 g3 (v2 := v2) hv0 (show i < cs.length by omega) (by omega) hin
        exact .inl ⟨_, B, e, κ - 1, by omega, i + 1, X', G', by omega, rfl, k1, k2, k3⟩
      · obtain rfl : i = N := by omega
        have hn := hv0.len
        rw [List.length_map] at hn
        have b1 := evLss (i : Int) (cs.length : Int)
        have b2 := evLss (i : Int) 120
        have g2' : OkX 120 X G := ⟨g2.j, fun t ht => (g2.w t ht).mono (by omega), by have := g2.N; omega, by have := g2.fl; omega⟩
        refine .inr ⟨_, ?_, (fun _ _ h => by cases h), A', X, G, .int .i64 (i : Int), .bool false, rfl, g1, g2', g3⟩
        by_cases h1 : i < cs.length
        · rw [decide_eq_true (by omega)] at b1
          rw [decide_eq_false (by omega)] at b2
          simp [lp7x0, hn, b1, b2, -evBin, -evLenSl]
        · rw [decide_eq_false (by omega)] at b1
          simp [lp7x0, hn, b1, -evBin, -evLenSl])
    3000 N (st7x0 v0 v2 (.ptr x 0 0) (.int .i64 0)) A (by omega) ⟨0, X0, _, by omega, rfl, h, ok0', k0⟩
  exact ⟨B, X, G, v4, v9, h1, hX⟩
set_option maxRecDepth 100000 in
set_option maxHeartbeats 8000000 in
theorem round7d {A : Arena} {x : Nat} {X : PS} {P : List Nat} {i : Nat → Nat} {q l w : Nat → AV} (h : Ln A x X.e (cont X) X.la P i q l w) {n : Nat} (h1 : 1 ≤ n) (hn : n < X.N) (hN : X.N < 300) (hs : X.sd n < 2) (ho : X.fm n = (X.e (X.sd n)).epoch → X.ar n = 0 → X.ls n = false → False) (v2 : AV) :
    run (envOf GW fsQ) 3000 [.code lp7x3] (st7x3 v2 (.ptr x 0 0) (.int .i64 (n : Int))) A = some (.normal (st7x3 v2 (.ptr x 0 0) (.int .i64 ((n + 1 : Nat) : Int))) A) := by
  have hrow := h.row
  have f3 : evLoad false 1 A (.ptr x 0 3) = some (w 1) := h.ldw (k := 1) (by omega)
  have f4 : evLoad false 1 A (.ptr x 0 4) = some (w 2) := h.ldw (k := 2) (by omega)
  have f6 : evLoad false 1 A (.ptr x 0 6) = some (w 4) := h.ldw (k := 4) (by omega)
  have f7 : evLoad false 1 A (.ptr x 0 7) = some (w 5) := h.ldw (k := 5) (by omega)
  have hl1 := h.len (k := 1) (by omega)
  rw [cont_len X (by omega) (by omega)] at hl1
  obtain ⟨r1, x1, l1⟩ := h.gsd hn
  obtain ⟨r2, x2, l2⟩ := h.gfm hn
  obtain ⟨r3, x3, l3⟩ := h.gar hn
  obtain ⟨r4, x4, l4⟩ := h.gls hn
  have a26 := ev26 (h.end_ hs) (fun _ _ _ => none)
  obtain ⟨xi, li⟩ := h.idx hs
  have b1 := evLss (n : Int) (X.N : Int)
  rw [decide_eq_true (by omega)] at b1
  have b3 := evEql (X.fm n) (X.e (X.sd n)).epoch
  have b4 := evEql (X.ar n) 0
  have b6 := evAdd (a := (n : Int)) (b := 1) (by omega)
  rw [show (n : Int) + 1 = ((n + 1 : Nat) : Int) by omega] at b6
  obtain ⟨t, ht⟩ : ∃ t, t = n + 1 := ⟨_, rfl⟩
  rw [← ht] at b6 ⊢
  by_cases c3 : X.fm n = (X.e (X.sd n)).epoch
  · rw [decide_eq_true c3] at b3
    by_cases c4 : X.ar n = 0
    · rw [decide_eq_true c4] at b4
      have c5 : X.ls n = true := by
        cases e : X.ls n
        · exact absurd e (fun e => ho c3 c4 e)
        · rfl
      rw [c5] at l4
      simp [lp7x3, b1, b3, b4, b6, hrow, f3, f4, f6, f7, hl1, x1, l1, x2, l2, x3, l3, x4, l4, a26, xi, li, -evBin, -evLoad, -pureH, -evLenSl, -evIndexSl]
    · rw [decide_eq_false c4] at b4
      simp [lp7x3, b1, b3, b4, b6, hrow, f3, f4, f6, f7, hl1, x1, l1, x2, l2, x3, l3, a26, xi, li, -evBin, -evLoad, -pureH, -evLenSl, -evIndexSl]
  · rw [decide_eq_false c3] at b3
    simp [lp7x3, b1, b3, b6, hrow, f3, f4, hl1, x1, l1, x2, l2, a26, xi, li, -evBin, -evLoad, -pureH, -evLenSl, -evIndexSl]
theorem loop7d {A : Arena} {x : Nat} {X : PS} {P : List Nat} {i : Nat → Nat} {q l w : Nat → AV} (h : Ln A x X.e (cont X) X.la P i q l w) (hN : X.N < 300) (ho : ∀ n, 1 ≤ n → n < X.N → X.sd n < 2 ∧ (X.fm n = (X.e (X.sd n)).epoch → X.ar n = 0 → X.ls n = false → False)) (v2 : AV) : ∀ (k n m : Nat), n + k = X.N → 1 ≤ n → k < m →
    iter (evC (envOf GW fsQ) 3000 lp7x3) mask7x3 m (st7x3 v2 (.ptr x 0 0) (.int .i64 (n : Int))) A = some (.exit 6 ((st7x3 v2 (.ptr x 0 0) (.int .i64 (X.N : Int))).set 14 (.bool false)) A)
  | _, _, 0, _, _, h => by omega
  | 0, n, m + 1, hk, h1, hm => by
    obtain rfl : n = X.N := by omega
    have hrow := h.row
    have f3 : evLoad false 1 A (.ptr x 0 3) = some (w 1) := h.ldw (k := 1) (by omega)
    have hl1 := h.len (k := 1) (by omega)
    rw [cont_len X (by omega) (by omega)] at hl1
    have b1 := evLss (X.N : Int) (X.N : Int)
    rw [decide_eq_false (by omega)] at b1
    rw [iter_succ, cl7x3]
    simp [lp7x3, b1, hrow, f3, hl1, -evBin, -evLoad, -evLenSl]
  | k + 1, n, m + 1, hk, h1, hm => by
    have hon := ho n h1 (by omega)
    rw [iter_succ, cl7x3, round7d h h1 (by omega) hN hon.1 hon.2 v2]
    exact loop7d h hN ho v2 k (n + 1) m (by omega) (by omega) (by omega)
set_option maxRecDepth 100000 in
set_option maxHeartbeats 8000000 in
theorem ev7 {v0 : AV} {cs : List (Int × Int × Int)} (hv0 : SlA 3 (cs.map c3A) v0) (hin : ∀ c ∈ cs, inI c.1 ∧ inI c.2.1 ∧ inI c.2.2) : evP (envOf GW fsQ) 3000 mf7 1 [v0] = some (.bool true) := by
  obtain ⟨B, x, v36, hB⟩ := ev36 (fun _ _ _ => none) []
  obtain ⟨C, X, G, v4, v9, lp, hC, ok, hk⟩ := loop7a (v2 := .bool true) hB hv0 hin
  have okY : OkY 120 X G := ⟨ok.j, hk, fun t ht => (ok.w t ht).wb (by omega), fun t ht => by have := (ok.w t ht).ticks; omega, by have := ok.N; omega⟩
  obtain ⟨W, hW⟩ : ∃ W, W = max (X.e 0).queue.length (X.e 1).queue.length := ⟨_, rfl⟩
  have q0 := (ok.w 0 (by omega)).queue
  have q1 := (ok.w 1 (by omega)).queue
  obtain ⟨n, hn⟩ : ∃ n, n = 12 + 3 * W := ⟨_, rfl⟩
  obtain ⟨D, G', lp2, hD, okD⟩ := loop7c hC okY (by omega) (by have := ok.fl; omega) (n := n) (by omega) (.bool true)
  obtain ⟨dn, op⟩ := rnds_done okY (W := W) (fun s hs => by
    rcases (show s = 0 ∨ s = 1 by omega) with rfl | rfl <;> omega)
  rw [← hn] at dn op
  obtain ⟨Z, hZ⟩ : ∃ Z, Z = rnds X n := ⟨_, rfl⟩
  rw [← hZ] at dn op hD okD
  obtain ⟨i, q, l, w, hC⟩ := hC
  obtain ⟨i', q', l', w', hD⟩ := hD
  have lp3 := loop7d hD okD.N (fun m h1 h2 => ⟨(okD.j.mf m h1 h2).1, op m h1 h2⟩) (.bool true) (Z.N - 1) 1 3000 (by have := okD.j.n1; omega) (by omega) (by have := okD.N; omega)
  have lp3' : iter (evC (envOf GW fsQ) 3000 lp7x3) mask7x3 3000 (st7x3 (.bool true) (.ptr x 0 0) (.int .i64 1)) D = _ := lp3
  have hrow := hC.row
  have okC := hC.ldok
  have hrowD := hD.row
  have okDd := hD.ldok
  have xi0 : evIndexArr 2 1 C (.ptr x 0 0) (.int .i64 0) = some (.ptr x 0 0) := (hC.idx (s := 0) (by omega)).1
  have li0 : evLoad false 1 C (.ptr x 0 0) = some (.ptr (i 0) 0 0) := (hC.idx (s := 0) (by omega)).2
  have xi1 : evIndexArr 2 1 C (.ptr x 0 0) (.int .i64 1) = some (.ptr x 0 1) := (hC.idx (s := 1) (by omega)).1
  have li1 : evLoad false 1 C (.ptr x 0 1) = some (.ptr (i 1) 0 0) := (hC.idx (s := 1) (by omega)).2
  have yi0 : evIndexArr 2 1 D (.ptr x 0 0) (.int .i64 0) = some (.ptr x 0 0) := (hD.idx (s := 0) (by omega)).1
  have mi0 : evLoad false 1 D (.ptr x 0 0) = some (.ptr (i' 0) 0 0) := (hD.idx (s := 0) (by omega)).2
  have yi1 : evIndexArr 2 1 D (.ptr x 0 0) (.int .i64 1) = some (.ptr x 0 1) := (hD.idx (s := 1) (by omega)).1
  have mi1 : evLoad false 1 D (.ptr x 0 1) = some (.ptr (i' 1) 0 0) := (hD.idx (s := 1) (by omega)).2
  have a0 := ev27 (hC.end_ (s := 0) (by omega)) (fun _ _ _ => none)
  have a1 := ev27 (hC.end_ (s := 1) (by omega)) (fun _ _ _ => none)
  have d0 := ev27 (hD.end_ (s := 0) (by omega)) (fun _ _ _ => none)
  have d1 := ev27 (hD.end_ (s := 1) (by omega)) (fun _ _ _ => none)
  rw [(dn 0 (by omega)).1] at d0
  rw [(dn 1 (by omega)).1] at d1
  have p0 := ev25 (hD.end_ (s := 0) (by omega)) (fun _ _ _ => none)
  have p1 := ev25 (hD.end_ (s := 1) (by omega)) (fun _ _ _ => none)
  have e0 := ev26 (hD.end_ (s := 0) (by omega)) (fun _ _ _ => none)
  have e1 := ev26 (hD.end_ (s := 1) (by omega)) (fun _ _ _ => none)
  have k0 : (Z.e 0).peer = (Z.e 1).epoch := (dn 0 (by omega)).2
  have k1 : (Z.e 1).peer = (Z.e 0).epoch := (dn 1 (by omega)).2
  rw [k0] at p0
  rw [k1] at p1
  have b0 := evEql (Z.e 1).epoch (Z.e 1).epoch
  rw [decide_eq_true rfl] at b0
  have b1 := evEql (Z.e 0).epoch (Z.e 0).epoch
  rw [decide_eq_true rfl] at b1
  have hmx : (if (X.e 0).queue.length < (X.e 1).queue.length then ((X.e 1).queue.length : Int) else ((X.e 0).queue.length : Int)) = (W : Int) := by
    split <;> omega
  obtain ⟨w3, hw3⟩ : ∃ w3 : Nat, w3 = 3 * W := ⟨_, rfl⟩
  have b2 : evBin .mul (.int .i64 3) (.int .i64 (W : Int)) = some (.int .i64 (w3 : Int)) := by
    rw [hw3]
    simp only [evBin]
    rw [if_pos trivial, wrapI (by unfold inI; omega), Int.natCast_mul]
    rfl
  have b3 := evAdd (a := 12) (b := (w3 : Int)) (by omega)
  rw [show (12 : Int) + (w3 : Int) = (n : Int) by omega] at b3
  have d0' : H27 (fun _ _ _ => none) [.ptr (i' 0) 0 0] D = some (.int .i64 0, D) := d0
  have d1' : H27 (fun _ _ _ => none) [.ptr (i' 1) 0 0] D = some (.int .i64 0, D) := d1
  have b4 : evBin .neq (.int .i64 0) (.int .i64 0) = some (.bool false) := rfl
  have m12 : pureH 4 M12 (fun _ _ _ => none) [] [] = some (.bool true, []) := by simp
  rw [evP_run _ _ rfl]
  simp [mf7, m12, v36, go7x0 lp, hrow, okC, xi0, li0, xi1, li1, a0, a1, go7x2 lp2, hrowD, okDd, yi0, mi0, yi1, mi1, hmx, b2, b3, b4, d0', d1', go7x3 lp3', p0, p1, e0, e1, b0, b1, -evBin, -evLoad, -pureH]
theorem ev7L (args : List AV) (h : LawArgs Try.prog 8 Try.f7.params.toList args) : ∃ fuel, evP (envOf GW fsQ) fuel mf7 1 args = some (.bool true) := by
  rw [Try.params7] at h
  obtain ⟨a, r, rfl, h0, h⟩ := h.cons
  obtain rfl := h.nil
  obtain ⟨cs, hv0, hin⟩ := calls_arg (n := 5) h0
  exact ⟨3000, ev7 hv0 hin⟩
end Go.Proofs.Ytfidjdlmmcaplaa
