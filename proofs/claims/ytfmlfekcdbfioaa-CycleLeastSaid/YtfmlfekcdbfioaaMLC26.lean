/-
  Cycle: the law CycleLeast, run.
-/
import Derived.Test.YtfmlfekcdbfioaaMLC25
namespace Go.Proofs.Ytfmlfekcdbfioaa
open Go

/-- starts raised one by one -/
def mvS (s ms : List Int) (n i : Nat) : List Int := (List.range n).map fun j => if j < i ∧ j < ms.length then s.getD j 0 + pick (ms.getD j 0) 50 - 10 else s.getD j 0
def shS (s : List Int) (sh : Int) (n i : Nat) : List Int := (List.range n).map fun j => if j < i then s.getD j 0 + sh else 0
theorem range_set {n i : Nat} {f g : Nat → Int} (h : ∀ j, j < n → j ≠ i → f j = g j) : ((List.range n).map f).set i (g i) = (List.range n).map g := by
  apply List.ext_getElem?
  intro j
  by_cases hj : i = j
  · subst hj
    rw [List.getElem?_set]
    simp only [if_true, List.length_map, List.length_range]
    split
    · rename_i hi; simp [hi]
    · rename_i hi; simp [hi]
  · rw [List.getElem?_set_ne hj]
    simp only [List.getElem?_map]
    by_cases hjn : j < n
    · rw [List.getElem?_range hjn]
      simp only [Option.map_some]
      rw [h j hjn (Ne.symm hj)]
    · rw [List.getElem?_eq_none (by simp; omega)]; rfl
theorem mvS_get {s ms : List Int} {n i j : Nat} (hj : j < n) : (mvS s ms n i).getD j 0 = if j < i ∧ j < ms.length then s.getD j 0 + pick (ms.getD j 0) 50 - 10 else s.getD j 0 := by
  unfold mvS; rw [List.getD_eq_getElem?_getD, List.getElem?_map, List.getElem?_range hj]; rfl
theorem shS_get {s : List Int} {sh : Int} {n i j : Nat} (hj : j < n) : (shS s sh n i).getD j 0 = if j < i then s.getD j 0 + sh else 0 := by
  unfold shS; rw [List.getD_eq_getElem?_getD, List.getElem?_map, List.getElem?_range hj]; rfl
theorem mvS_len (s ms : List Int) (n i : Nat) : (mvS s ms n i).length = n := by simp [mvS]
theorem shS_len (s : List Int) (sh : Int) (n i : Nat) : (shS s sh n i).length = n := by simp [shS]
theorem shS_set (s : List Int) (sh : Int) (n i : Nat) : (shS s sh n i).set i (s.getD i 0 + sh) = shS s sh n (i + 1) := by
  have := range_set (n := n) (i := i) (f := fun j => if j < i then s.getD j 0 + sh else 0) (g := fun j => if j < i + 1 then s.getD j 0 + sh else 0) (fun j _ hji => by
    by_cases h : j < i
    · rw [if_pos h, if_pos (by omega)]
    · rw [if_neg h, if_neg (by omega)])
  simp only [Nat.lt_succ_self, if_true] at this
  exact this
theorem mvS_set (s ms : List Int) (n i : Nat) (h : i < ms.length) : (mvS s ms n i).set i (s.getD i 0 + pick (ms.getD i 0) 50 - 10) = mvS s ms n (i + 1) := by
  have := range_set (n := n) (i := i) (f := fun j => if j < i ∧ j < ms.length then s.getD j 0 + pick (ms.getD j 0) 50 - 10 else s.getD j 0) (g := fun j => if j < i + 1 ∧ j < ms.length then s.getD j 0 + pick (ms.getD j 0) 50 - 10 else s.getD j 0) (fun j _ hji => by
    by_cases h : j < i ∧ j < ms.length
    · rw [if_pos h, if_pos (by omega)]
    · rw [if_neg h, if_neg (by omega)])
  rw [if_pos ⟨by omega, h⟩] at this
  exact this
theorem mvS_keep (s ms : List Int) (n i : Nat) (h : ¬ i < ms.length) : mvS s ms n i = mvS s ms n (i + 1) := by
  unfold mvS
  apply List.map_congr_left
  intro j _
  by_cases h' : j < i ∧ j < ms.length
  · rw [if_pos h', if_pos (by omega)]
  · rw [if_neg h', if_neg (by omega)]
def B6 (s ms : List Int) (sh : Int) (n i : Nat) : Arena := [.dead, .row 1 false (intsA (mvS s ms n i)), .row 1 false (intsA (shS s sh n i))]
section
variable {s ms : List Int} {n : Nat} {S y : AV} {shift : Int}
set_option maxRecDepth 100000 in
theorem round6 (fuel : Nat) (hS : SlA 1 (intsA s) S) (hsl : s.length = n) (hn : n ≤ 7) (hs : ∀ z ∈ s, 0 ≤ z ∧ z ≤ 100000000) (hy : SlA 1 (intsA ms) y) (hyr : ∀ z ∈ ms, inI z) (_hym : ms.length ≤ 9223372036854775807) (hsh : inI shift) {i : Nat} (hi : i < n) (v6 v7 v8 : AV) :
    run (envOf GC fsN) fuel [.code lp6x0] (st6x0 (.int .i64 (n : Int)) y (.int .i64 shift) v6 v7 v8 S (.sl 1 0 n) (.sl 2 0 n) (.int .i64 (i : Int))) (B6 s ms (pick shift 1000) n i) =
      some (.normal (st6x0 (.int .i64 (n : Int)) y (.int .i64 shift) v6 v7 v8 S (.sl 1 0 n) (.sl 2 0 n) (.int .i64 ((i + 1 : Nat) : Int))) (B6 s ms (pick shift 1000) n (i + 1))) := by
  have hlen := hy.len
  rw [intsA_len] at hlen
  have b1 := lt_nat i n .i64
  rw [decide_eq_true hi] at b1
  have b2 := lt_nat i ms.length .i64
  have b3 := add1_nat i (by omega)
  have hil : i < s.length := by omega
  have x1 := fun A => hS.int (A := A) _ _ (List.getElem?_eq_getElem hil) .i64
  have hg : s.getD i 0 = s[i] := by rw [List.getD_eq_getElem?_getD, List.getElem?_eq_getElem hil]; rfl
  have hb := hs _ (List.getElem_mem hil)
  rw [← hg] at x1 hb
  have psh := pick_range shift 1000 (by omega)
  have m1 := M12_eq hsh (show (0 : Int) < 1000 by omega)
  have hset1 := shS_set s (pick shift 1000) n i
  obtain ⟨sh, hshe⟩ : ∃ z, z = pick shift 1000 := ⟨_, rfl⟩
  rw [← hshe] at psh m1 hset1 ⊢
  have b4 := evAdd (a := s.getD i 0) (b := sh) (by omega)
  have hmg : (intsA (mvS s ms n i))[i]? = some (.int .i64 (s.getD i 0)) := by
    rw [intsA_get (by rw [mvS_len]; exact hi), mvS_get hi, if_neg (by omega)]
  have hvl : i < (intsA (shS s sh n i)).length := by rw [intsA_len, shS_len]; exact hi
  have hvg : (intsA (shS s sh n i))[i]? = some (.int .i64 0) := by
    rw [intsA_get (by rw [shS_len]; exact hi), shS_get hi, if_neg (by omega)]
  have e1 : (intsA (shS s sh n i)).set i (.int .i64 (s.getD i 0 + sh)) = intsA (shS s sh n (i + 1)) := by rw [intsA_set, hset1]
  unfold B6
  obtain ⟨i1, hi1⟩ : ∃ i1 : Nat, i1 = i + 1 := ⟨_, rfl⟩
  by_cases hm : i < ms.length
  · rw [decide_eq_true hm] at b2
    have x2 := fun A => hy.int (A := A) _ _ (List.getElem?_eq_getElem hm) .i64
    have hg2 : ms.getD i 0 = ms[i] := by rw [List.getD_eq_getElem?_getD, List.getElem?_eq_getElem hm]; rfl
    have hin := hyr _ (List.getElem_mem hm)
    rw [← hg2] at x2 hin
    have p50 := pick_range (ms.getD i 0) 50 (by omega)
    have m2 := M12_eq hin (show (0 : Int) < 50 by omega)
    have hset2 := mvS_set s ms n i hm
    have e2 : (intsA (mvS s ms n i)).set i (.int .i64 (s.getD i 0 + pick (ms.getD i 0) 50 - 10)) = intsA (mvS s ms n (i + 1)) := by rw [intsA_set, hset2]
    obtain ⟨q, hq⟩ : ∃ z, z = pick (ms.getD i 0) 50 := ⟨_, rfl⟩
    rw [← hq] at p50 m2 e2
    have b5 := evAdd (a := s.getD i 0) (b := q) (by omega)
    have b6 := evSub (a := s.getD i 0 + q) (b := 10) (by omega)
    obtain ⟨z, hz⟩ : ∃ z, z = s.getD i 0 := ⟨_, rfl⟩
    obtain ⟨mi, hmi⟩ : ∃ z, z = ms.getD i 0 := ⟨_, rfl⟩
    rw [← hmi] at x2 m2
    rw [← hz] at x1 b4 b5 b6 hmg e1 e2
    obtain ⟨z1, hz1⟩ : ∃ w, w = z + sh := ⟨_, rfl⟩
    obtain ⟨z2, hz2⟩ : ∃ w, w = z + q := ⟨_, rfl⟩
    rw [← hz1] at b4 e1
    rw [← hz2] at b5 b6 e2
    obtain ⟨z3, hz3⟩ : ∃ w, w = z2 - 10 := ⟨_, rfl⟩
    rw [← hz3] at b6 e2
    rw [← hi1] at b3 e1 e2 ⊢
    obtain ⟨MS, hMS⟩ : ∃ M, M = intsA (mvS s ms n i) := ⟨_, rfl⟩
    obtain ⟨VS, hVS⟩ : ∃ M, M = intsA (shS s sh n i) := ⟨_, rfl⟩
    rw [← hMS] at hmg e2
    rw [← hVS] at hvg e1
    rw [← hMS, ← hVS, ← e1, ← e2]
    have k1 : ∀ L, evIndexSl 1 [.dead, .row 1 false MS, .row 1 false L] (.sl 1 0 n) (.int .i64 (i : Int)) = some (.ptr 1 i 0) := fun L => by simp [evIndexSl, hi]
    have k2 : ∀ L L', evIndexSl 1 [.dead, .row 1 false L', .row 1 false L] (.sl 2 0 n) (.int .i64 (i : Int)) = some (.ptr 2 i 0) := fun L L' => by simp [evIndexSl, hi]
    simp [lp6x0, hlen, b1, b2, b3, b4, b5, b6, x1, x2, k1, k2, m1, m2, hmg, hvg, -evBin, -evIndexSl, -evLenSl]
  · rw [decide_eq_false hm] at b2
    have hk := mvS_keep s ms n i hm
    obtain ⟨z, hz⟩ : ∃ z, z = s.getD i 0 := ⟨_, rfl⟩
    rw [← hz] at x1 b4 hmg e1
    obtain ⟨z1, hz1⟩ : ∃ w, w = z + sh := ⟨_, rfl⟩
    rw [← hz1] at b4 e1
    rw [← hk]
    rw [← hi1] at b3 e1 ⊢
    obtain ⟨MS, hMS⟩ : ∃ M, M = intsA (mvS s ms n i) := ⟨_, rfl⟩
    obtain ⟨VS, hVS⟩ : ∃ M, M = intsA (shS s sh n i) := ⟨_, rfl⟩
    rw [← hVS] at hvg e1
    rw [← hMS, ← hVS, ← e1]
    have k2 : ∀ L L', evIndexSl 1 [.dead, .row 1 false L', .row 1 false L] (.sl 2 0 n) (.int .i64 (i : Int)) = some (.ptr 2 i 0) := fun L L' => by simp [evIndexSl, hi]
    simp [lp6x0, hlen, b1, b2, b3, b4, x1, k2, m1, hvg, -evBin, -evIndexSl, -evLenSl]
end
/-- is one of the first i lower -/
def lowB (a b : List Int) (i : Nat) : Bool := (List.range i).any fun j => decide (a.getD j 0 < b.getD j 0)
theorem lowB_succ (a b : List Int) (i : Nat) : lowB a b (i + 1) = (lowB a b i || decide (a.getD i 0 < b.getD i 0)) := by
  unfold lowB; rw [List.range_succ, List.any_append]; simp
theorem lowB_true {a b : List Int} {i : Nat} (h : lowB a b i = true) : ∃ j, j < i ∧ a.getD j 0 < b.getD j 0 := by
  unfold lowB at h
  rw [List.any_eq_true] at h
  obtain ⟨j, hj, h⟩ := h
  exact ⟨j, by simpa using hj, by simpa using h⟩
set_option maxRecDepth 100000 in
theorem round6b (fuel : Nat) {s m : List Int} {n : Nat} {S : AV} {VS : List AV} (hS : SlA 1 (intsA s) S) (hsl : s.length = n) (hml : m.length = n) (hn : n ≤ 7) {i : Nat} (hi : i < n) (v6 v7 v8 : AV) :
    run (envOf GC fsN) fuel [.code lp6x1] (st6x1 (.int .i64 (n : Int)) v6 v7 v8 S (.sl 1 0 n) (.sl 2 0 n) (.bool (lowB m s i)) (.int .i64 (i : Int))) [.dead, .row 1 false (intsA m), .row 1 false VS] =
      some (.normal (st6x1 (.int .i64 (n : Int)) v6 v7 v8 S (.sl 1 0 n) (.sl 2 0 n) (.bool (lowB m s (i + 1))) (.int .i64 ((i + 1 : Nat) : Int))) [.dead, .row 1 false (intsA m), .row 1 false VS]) := by
  have b1 := lt_nat i n .i64
  rw [decide_eq_true hi] at b1
  have b3 := add1_nat i (by omega)
  have hil : i < s.length := by omega
  have x1 := fun A => hS.int (A := A) _ _ (List.getElem?_eq_getElem hil) .i64
  have hg : s.getD i 0 = s[i] := by rw [List.getD_eq_getElem?_getD, List.getElem?_eq_getElem hil]; rfl
  rw [← hg] at x1
  have hmg : (intsA m)[i]? = some (.int .i64 (m.getD i 0)) := intsA_get (by omega)
  have b2 := evLss (m.getD i 0) (s.getD i 0)
  rw [lowB_succ]
  obtain ⟨z, hz⟩ : ∃ z, z = s.getD i 0 := ⟨_, rfl⟩
  obtain ⟨y, hy⟩ : ∃ z, z = m.getD i 0 := ⟨_, rfl⟩
  rw [← hz] at x1 b2 ⊢
  rw [← hy] at hmg b2 ⊢
  obtain ⟨d, hd⟩ : ∃ d, d = decide (y < z) := ⟨_, rfl⟩
  rw [← hd] at b2 ⊢
  obtain ⟨i1, hi1⟩ : ∃ i1 : Nat, i1 = i + 1 := ⟨_, rfl⟩
  rw [← hi1] at b3 ⊢
  obtain ⟨MS, hMS⟩ : ∃ M, M = intsA m := ⟨_, rfl⟩
  rw [← hMS] at hmg ⊢
  have k1 : evIndexSl 1 [.dead, .row 1 false MS, .row 1 false VS] (.sl 1 0 n) (.int .i64 (i : Int)) = some (.ptr 1 i 0) := by simp [evIndexSl, hi]
  cases hlo : lowB m s i with
  | true => simp [lp6x1, b1, b3, -evBin, -evIndexSl, -evLenSl]
  | false => simp [lp6x1, b1, b2, b3, x1, k1, hmg, -evBin, -evIndexSl, -evLenSl]

theorem ver_shift {n : Int} {l : List CArc} {p : Int} {s : List Int} {m : Nat} (hnm : n = (m : Int)) (h : VerOk n l p s) (hs : ∀ x ∈ s, x ≤ 100000000) {sh : Int} (hsh : 0 ≤ sh ∧ sh < 1000) : VerOk n l p (shS s sh m m) := by
  subst hnm
  obtain ⟨h1, h2, h3, h4⟩ := h
  refine ⟨h1, by rw [shS_len], fun x hx => ?_, fun a ha => ?_⟩
  · obtain ⟨j, hj, rfl⟩ := List.mem_map.1 hx
    rw [List.mem_range] at hj
    simp only [hj, if_true]
    have hjl : j < s.length := by omega
    have hg : s.getD j 0 = s[j] := by rw [List.getD_eq_getElem?_getD, List.getElem?_eq_getElem hjl]; rfl
    rw [hg]
    have := h3 _ (List.getElem_mem hjl)
    have := hs _ (List.getElem_mem hjl)
    omega
  · obtain ⟨q1, q2⟩ := lar_ends (n := m) (p := p) h1.1.2.2 a ha
    rw [shS_get q1, shS_get q2, if_pos q1, if_pos q2]
    have := h4 a ha
    omega
open Classical in
set_option maxRecDepth 100000 in
set_option maxHeartbeats 4000000 in
theorem ev6 {x y : AV} {r : List R4} {ms : List Int} (hx : r4sOf x = some r) {n q shift : Int} (hn : inI n) (hq : inI q) (hsh : inI shift) (hy : SlA 1 (intsA ms) y) (hyr : ∀ z ∈ ms, inI z) (hym : ms.length ≤ 9223372036854775807) : evP (envOf GC fsN) 50 mf6 1 [.int .i64 n, x, .int .i64 q, y, .int .i64 shift] = some (.bool true) := by
  have p7 := pick_range n 7 (by omega)
  have p80 := pick_range q 80 (by omega)
  have m1 := M12_eq hn (show (0 : Int) < 7 by omega)
  have m2 := M12_eq hq (show (0 : Int) < 80 by omega)
  have m3 := M12_eq hq (show (0 : Int) < 3 by omega)
  obtain ⟨n0, hn0⟩ : ∃ z, z = pick n 7 := ⟨_, rfl⟩
  obtain ⟨q0, hq0⟩ : ∃ z, z = pick q 80 := ⟨_, rfl⟩
  obtain ⟨c0, hc0⟩ : ∃ z, z = pick q 3 := ⟨_, rfl⟩
  rw [← hn0] at p7 m1
  rw [← hq0] at p80 m2
  rw [← hc0] at m3
  have b1 := add1_pick p7
  have b2 := evSub (a := q0) (b := 10) (by omega)
  have b3 := evGtr c0 0
  obtain ⟨n1, hn1⟩ : ∃ z : Nat, (z : Int) = 1 + n0 := ⟨(1 + n0).toNat, by omega⟩
  obtain ⟨p, hp⟩ : ∃ z, z = q0 - 10 := ⟨_, rfl⟩
  obtain ⟨d, hd⟩ : ∃ z, z = decide (c0 > 0) := ⟨_, rfl⟩
  rw [← hn1] at b1
  rw [← hp] at b2
  rw [← hd] at b3
  have hn32 : 1 ≤ (n1 : Int) ∧ (n1 : Int) ≤ 32 := by omega
  have m5 : M13 [x, .int .i64 (n1 : Int), .bool d] = some (slA 4 ((arcsD r n1 d).map arcA)) := by
    simp only [M13, hx, Option.map_some]; exact if_pos hn32.1
  have harg := arcsD_arg hn32 r d
  have hval := arcsD_valid hn32 r d
  obtain ⟨l, hl⟩ : ∃ l, l = arcsD r n1 d := ⟨_, rfl⟩
  rw [← hl] at m5 harg hval
  have hR : Ready n1 l p := ⟨hval, by unfold isPer; omega⟩
  have v1 := fun h A => H14_eq h (A := A) (frz_slA A 4 4 (l.map arcA)) harg n1 p
  simp only [lvT_form] at v1
  have hfx : ∀ A, frz A 4 x = x := fun A => (r4sOf_some hx).1.frz 4
  have hfT : ∀ A k, frz A k (slA 4 (l.map arcA)) = slA 4 (l.map arcA) := fun A k => frz_slA A k 4 _
  obtain ⟨T, hT⟩ : ∃ T, T = slA 4 (l.map arcA) := ⟨_, rfl⟩
  rw [← hT] at m5 v1 harg hfT
  rw [evP_run _ _ rfl]
  cases hok : (lvM n1 l p).2.2 with
  | false =>
    rw [hok] at v1
    obtain ⟨S, hS1⟩ : ∃ S, S = slA 1 (intsA (lvM n1 l p).1) := ⟨_, rfl⟩
    obtain ⟨C, hC1⟩ : ∃ S, S = slA 1 (intsA (lvM n1 l p).2.1) := ⟨_, rfl⟩
    rw [← hS1, ← hC1] at v1
    simp [mf6, m1, m2, m3, m5, b1, b2, b3, v1, hfx, frz_i, frz_b, -frz, -evBin]
  | true =>
    obtain ⟨e1, e2, e3, e4⟩ := lv_starts hR hok
    rw [hok] at v1
    have hin := ver_in e2
    have psh := pick_range shift 1000 (by omega)
    obtain ⟨s, hs⟩ : ∃ s, s = (lvM n1 l p).1 := ⟨_, rfl⟩
    rw [← hs] at e2 e3 e4 hin v1
    have hsl : s.length = n1 := by have := e2.2.1; omega
    have hne : s ≠ [] := by
      intro h
      rw [h] at hsl
      simp at hsl; omega
    have hSf : slA 1 (intsA s) = .fs 1 (intsA s) := by
      cases s with
      | nil => exact absurd rfl hne
      | cons a r => rfl
    have hS := slA_holds 1 (intsA s)
    have hlen := hS.len
    rw [intsA_len, hsl] at hlen
    have hsb : ∀ z ∈ s, 0 ≤ z ∧ z ≤ 100000000 := fun z hz => ⟨(e2.2.2.1 z hz).1, e3 z hz⟩
    have b4 := evNeq (n1 : Int) n1
    rw [decide_eq_false (by simp)] at b4
    -- the first loop
    have lp0 := iter_up (E := envOf GC fsN) (fuel := 50) (a := lp6x0) (mask := mask6x0) (fun i => st6x0 (.int .i64 (n1 : Int)) y (.int .i64 shift) (.bool true) (.int .i64 p) T (slA 1 (intsA s)) (.sl 1 0 n1) (.sl 2 0 n1) (.int .i64 (i : Int))) (fun i => B6 s ms (pick shift 1000) n1 i) n1
      (o := .exit 0 ((st6x0 (.int .i64 (n1 : Int)) y (.int .i64 shift) (.bool true) (.int .i64 p) T (slA 1 (intsA s)) (.sl 1 0 n1) (.sl 2 0 n1) (.int .i64 (n1 : Int))).set 18 (.bool false)) (B6 s ms (pick shift 1000) n1 n1))
      (fun _ => cl6x0) (fun _ _ h => by cases h) (fun i hi => round6 50 hS hsl (by omega) hsb hy hyr hym hsh hi _ _ _) (by simp [lp6x0]) (show n1 < 50 by omega)
    have lp0 : iter (evC (envOf GC fsN) 50 lp6x0) mask6x0 50 (st6x0 (.int .i64 (n1 : Int)) y (.int .i64 shift) (.bool true) (.int .i64 p) T (slA 1 (intsA s)) (.sl 1 0 n1) (.sl 2 0 n1) (.int .i64 0)) (B6 s ms (pick shift 1000) n1 0) = _ := lp0
    have lp1 := iter_up (E := envOf GC fsN) (fuel := 50) (a := lp6x1) (mask := mask6x1) (fun i => st6x1 (.int .i64 (n1 : Int)) (.bool true) (.int .i64 p) T (slA 1 (intsA s)) (.sl 1 0 n1) (.sl 2 0 n1) (.bool (lowB (mvS s ms n1 n1) s i)) (.int .i64 (i : Int))) (fun _ => B6 s ms (pick shift 1000) n1 n1) n1
      (o := .exit 2 ((st6x1 (.int .i64 (n1 : Int)) (.bool true) (.int .i64 p) T (slA 1 (intsA s)) (.sl 1 0 n1) (.sl 2 0 n1) (.bool (lowB (mvS s ms n1 n1) s n1)) (.int .i64 (n1 : Int))).set 20 (.bool false)) (B6 s ms (pick shift 1000) n1 n1))
      (fun _ => cl6x1) (fun _ _ h => by cases h) (fun i hi => round6b 50 hS hsl (mvS_len s ms n1 n1) (by omega) hi _ _ _) (by simp [lp6x1]) (show n1 < 50 by omega)
    have lp1 : iter (evC (envOf GC fsN) 50 lp6x1) mask6x1 50 (st6x1 (.int .i64 (n1 : Int)) (.bool true) (.int .i64 p) T (slA 1 (intsA s)) (.sl 1 0 n1) (.sl 2 0 n1) (.bool false) (.int .i64 0)) (B6 s ms (pick shift 1000) n1 n1) = _ := lp1
    -- the arena at the beginning
    have hB0 : B6 s ms (pick shift 1000) n1 0 = [.dead, .row 1 false (intsA s), .row 1 false (List.replicate n1 (.int .i64 0))] := by
      have h1 : mvS s ms n1 0 = s := by
        unfold mvS
        apply List.ext_getElem (by simp [hsl])
        intro j h1 h2
        simp [List.getD_eq_getElem?_getD, h2]
      have h2 : intsA (shS s (pick shift 1000) n1 0) = List.replicate n1 (.int .i64 0) := by
        unfold shS intsA
        apply List.ext_getElem (by simp)
        intro j h1 h2
        simp
      unfold B6; rw [h1, h2]
    rw [hB0] at lp0
    have mk : evMake 1 8 (.int .i64 0) [.dead, .row 1 false (intsA s)] (.int .i64 (n1 : Int)) (.int .i64 (n1 : Int)) = some (.sl 2 0 n1, [.dead, .row 1 false (intsA s), .row 1 false (List.replicate n1 (.int .i64 0))]) := by
      simp [evMake]; omega
    have ap : evAppend 1 8 [.row 1 false []] (.sl 0 0 0) (slA 1 (intsA s)) = some (.sl 1 0 n1, [.dead, .row 1 false (intsA s)]) := by
      have := intsA_len s
      simp [evAppend, hS.src, this, hsl]
      omega
    -- the two checks
    have w1 := ver_shift rfl e2 e3 psh
    have k1 := m19 (n := n1) (p := p) harg (intsOf_sl (xs := shS s (pick shift 1000) n1 n1) (by rw [shS_len]; omega) (ver_in w1).2)
    rw [decide_eq_true w1] at k1
    have hmi : ∀ z ∈ mvS s ms n1 n1, inI z := fun z hz => by
      obtain ⟨j, hj, rfl⟩ := List.mem_map.1 hz
      rw [List.mem_range] at hj
      have hjl : j < s.length := by omega
      have hg : s.getD j 0 = s[j] := by rw [List.getD_eq_getElem?_getD, List.getElem?_eq_getElem hjl]; rfl
      have := hsb _ (List.getElem_mem hjl)
      have p50 := pick_range (ms.getD j 0) 50 (by omega)
      rw [hg]
      unfold inI
      split <;> omega
    have k2 := m19 (n := n1) (p := p) harg (intsOf_sl (xs := mvS s ms n1 n1) (by rw [mvS_len]; omega) hmi)
    have hSl : ∀ xs : List Int, xs.length = n1 → slA 1 (intsA xs) = .fs 1 (intsA xs) := fun xs hxs => by
      cases xs with
      | nil => simp at hxs; omega
      | cons a r => rfl
    rw [hSl _ (shS_len _ _ _ _)] at k1
    rw [hSl _ (mvS_len _ _ _ _)] at k2
    have hfA : ∀ (xs : List Int), xs.length = n1 → ∀ A id, A[id]? = some (.row 1 false (intsA xs)) → frz A 4 (.sl id 0 n1) = .fs 1 (intsA xs) := fun xs hxs A id hid => by
      show frz A (3 + 1) _ = _
      simp only [frz, hid, List.drop_zero]
      rw [List.take_of_length_le (by rw [intsA_len]; omega), frz_intsA]
    have f1 := hfA _ (shS_len s (pick shift 1000) n1 n1) (B6 s ms (pick shift 1000) n1 n1) 2 rfl
    have f2 := hfA _ (mvS_len s ms n1 n1) (B6 s ms (pick shift 1000) n1 n1) 1 rfl
    obtain ⟨BB, hBB⟩ : ∃ B, B = B6 s ms (pick shift 1000) n1 n1 := ⟨_, rfl⟩
    rw [← hBB] at lp0 lp1 f1 f2
    have key : lowB (mvS s ms n1 n1) s n1 = true → ¬ VerOk n1 l p (mvS s ms n1 n1) := fun hlo hv => by
      obtain ⟨j, hj, h⟩ := lowB_true hlo
      have := e4 _ hv j (by omega)
      omega
    obtain ⟨SS, hSS⟩ : ∃ S, S = slA 1 (intsA s) := ⟨_, rfl⟩
    rw [← hSS] at v1 lp0 lp1 hlen ap
    obtain ⟨C, hC1⟩ : ∃ S, S = slA 1 (intsA (lvM n1 l p).2.1) := ⟨_, rfl⟩
    rw [← hC1] at v1
    obtain ⟨V1, hV1⟩ : ∃ S, S = intsA (shS s (pick shift 1000) n1 n1) := ⟨_, rfl⟩
    obtain ⟨V2, hV2⟩ : ∃ S, S = intsA (mvS s ms n1 n1) := ⟨_, rfl⟩
    rw [← hV1] at k1 f1
    rw [← hV2] at k2 f2
    obtain ⟨IS, hIS⟩ : ∃ I, I = intsA s := ⟨_, rfl⟩
    rw [← hIS] at mk ap lp0
    obtain ⟨ZS, hZS⟩ : ∃ I, I = List.replicate n1 (AV.int .i64 0) := ⟨_, rfl⟩
    rw [← hZS] at mk lp0
    cases hlo : lowB (mvS s ms n1 n1) s n1 with
    | false =>
      rw [hlo] at lp1
      simp [mf6, m1, m2, m3, m5, b1, b2, b3, b4, v1, hlen, ap, mk, go6x0 lp0, go6x1 lp1, k1, f1, hfx, hfT, frz_i, frz_b, scalarB, -frz, -evBin, -evLenSl, -evMake]
    | true =>
      rw [hlo] at lp1
      rw [decide_eq_false (key hlo)] at k2
      simp [mf6, m1, m2, m3, m5, b1, b2, b3, b4, v1, hlen, ap, mk, go6x0 lp0, go6x1 lp1, k1, k2, f1, f2, hfx, hfT, frz_i, frz_b, scalarB, -frz, -evBin, -evLenSl, -evMake]
theorem ev6L (args : List AV) (h : LawArgs Try.prog 8 Try.f6.params.toList args) : ∃ fuel, evP (envOf GC fsN) fuel mf6 1 args = some (.bool true) := by
  rw [Try.params6] at h
  obtain ⟨a, r, rfl, h0, h⟩ := h.cons
  obtain ⟨b, r, rfl, h1, h⟩ := h.cons
  obtain ⟨c, r, rfl, h2, h⟩ := h.cons
  obtain ⟨d, r, rfl, h3, h⟩ := h.cons
  obtain ⟨e, r, rfl, h4, h⟩ := h.cons
  obtain rfl := h.nil
  obtain ⟨n, rfl, hn⟩ := TA.i64 Try.underlying3 h0
  obtain ⟨r, hr⟩ := r4s_arg (n := 5) h1
  obtain ⟨q, rfl, hq⟩ := TA.i64 Try.underlying3 h2
  obtain ⟨ls, hy, hym, hyr⟩ := TA.ints Try.underlying24 Try.underlying3 (by kernel_rfl) h3
  obtain ⟨sh, rfl, hsh⟩ := TA.i64 Try.underlying3 h4
  exact ⟨50, ev6 hr hn hq hsh hy hyr hym⟩
end Go.Proofs.Ytfmlfekcdbfioaa
