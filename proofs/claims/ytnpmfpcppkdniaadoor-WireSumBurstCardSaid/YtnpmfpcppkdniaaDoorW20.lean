/-
  Wire: Sequence, plain and run.
-/
import Derived.Test.YtnpmfpcppkdniaaDoorW19
import Derived.Test.YtnpmfpcppkdniaaDoorEv25
namespace Go.Proofs.YtnpmfpcppkdniaaDoor
open Go

def enc1 (x : Int × List UInt8) : List UInt8 := enc (zig x.1) ++ (enc (zig x.2.length) ++ x.2)
def cat (l : List (Int × List UInt8)) : List UInt8 := l.flatMap enc1
def okItem (x : Int × List UInt8) : Prop := (-4611686018427387903 ≤ x.1 ∧ x.1 ≤ 4611686018427387903) ∧ x.2.length ≤ 100
theorem cat_take {l : List (Int × List UInt8)} {i : Nat} {x : Int × List UInt8} (h : l[i]? = some x) : cat (l.take (i + 1)) = cat (l.take i) ++ enc1 x := by
  unfold cat
  rw [List.take_add_one, h]
  simp
theorem cat_split {l : List (Int × List UInt8)} {i : Nat} {x : Int × List UInt8} (h : l[i]? = some x) : cat l = cat (l.take i) ++ enc1 x ++ cat (l.drop (i + 1)) := by
  rw [← cat_take h]
  unfold cat
  rw [← List.flatMap_append, List.take_append_drop]
theorem enc1_len {x : Int × List UInt8} (h : okItem x) : (enc1 x).length ≤ 118 := by
  have h1 := zig_lt (n := x.1) (by have := h.1; omega) (by have := h.1; omega)
  have h2 := enc_len10 (z := zig x.1) (by omega)
  have h3 := enc_len10 (z := zig x.2.length) (by rw [zig_nat]; have := h.2; omega)
  have := h.2
  unfold enc1
  simp only [List.length_append]
  omega
theorem cat_len : ∀ (l : List (Int × List UInt8)), (∀ x ∈ l, okItem x) → (cat l).length ≤ 118 * l.length
  | [], _ => by simp [cat]
  | x :: l, h => by
    have h1 := enc1_len (h x (by simp))
    have h2 := cat_len l (fun y hy => h y (by simp [hy]))
    unfold cat at h2 ⊢
    simp only [List.flatMap_cons, List.length_append, List.length_cons]
    omega

def fs6 : List (FuncId × HModel) := [(10, pureH 4 fun args => match args with | [] => some (.bool true) | _ => none), (11, pureH 4 M11), (12, pureH 4 M13), (15, pureH 4 M15), (17, pureH 4 M17), (19, pureH 4 M19)]
@[simp] theorem fs6_10 : lookM fs6 10 = some (pureH 4 fun args => match args with | [] => some (.bool true) | _ => none) := rfl
@[simp] theorem fs6_11 : lookM fs6 11 = some (pureH 4 M11) := rfl
@[simp] theorem fs6_12 : lookM fs6 12 = some (pureH 4 M13) := rfl
@[simp] theorem fs6_15 : lookM fs6 15 = some (pureH 4 M15) := rfl
@[simp] theorem fs6_17 : lookM fs6 17 = some (pureH 4 M17) := rfl
@[simp] theorem fs6_19 : lookM fs6 19 = some (pureH 4 M19) := rfl
theorem sound6 : ∀ f M, lookM fs6 f = some M → FnSpecY Tryd.prog GW f M :=
  lookM_cons (FnSpecY.of_pure spec10 4) (lookM_cons (FnSpecY.of_pure spec11 4) (lookM_cons (FnSpecY.of_pure spec12 4) (lookM_cons (FnSpecY.of_pure spec15 4) (lookM_cons (FnSpecY.of_pure spec17 4) (lookM_cons (FnSpecY.of_pure spec19 4) lookM_nil)))))

/-- what the rounds know of the input -/
structure Seq6 (la ta : AV) (ls : List Int) (ts : List (List UInt8)) (items : List (Int × List UInt8)) : Prop where
  hl : SlA 1 (ls.map (.int .i64)) la
  ht : SlA 1 (ts.map .str) ta
  li : ∀ z ∈ ls, inI z
  cnt : items.length ≤ 20
  it : ∀ (i : Nat) (x : Int × List UInt8), items[i]? = some x → ∃ (c : Int) (t : List UInt8), ls[i]? = some c ∧ ts[i]? = some t ∧ x = (numFrom c, cut 100 t)

theorem Seq6.ok {la ta : AV} {ls : List Int} {ts : List (List UInt8)} {items : List (Int × List UInt8)} (h : Seq6 la ta ls ts items) {i : Nat} {x : Int × List UInt8} (hx : items[i]? = some x) : okItem x := by
  obtain ⟨c, t, _, _, rfl⟩ := h.it i x hx
  have := numFrom_range c
  exact ⟨by simp only; omega, cut_length 100 t⟩
theorem Seq6.okm {la ta : AV} {ls : List Int} {ts : List (List UInt8)} {items : List (Int × List UInt8)} (h : Seq6 la ta ls ts items) : ∀ x ∈ items, okItem x := fun x hx => by
  obtain ⟨i, hi, rfl⟩ := List.mem_iff_getElem.1 hx
  exact h.ok (List.getElem?_eq_getElem hi)

set_option maxRecDepth 100000 in
set_option maxHeartbeats 2000000 in
theorem round6a (fuel : Nat) {la ta : AV} {ls : List Int} {ts : List (List UInt8)} {items : List (Int × List UInt8)} (h : Seq6 la ta ls ts items) (ok : AV) (A : Arena) {i : Nat} {x : Int × List UInt8} (hx : items[i]? = some x) :
    run (envOf GW fs6) fuel [.code lp6x0] (st6x0 la ta ok (.int .i64 (items.length : Int)) (.str (cat (items.take i))) (.int .i64 (i : Int))) A =
      some (.normal (st6x0 la ta ok (.int .i64 (items.length : Int)) (.str (cat (items.take (i + 1)))) (.int .i64 ((i + 1 : Nat) : Int))) A) := by
  have hok := h.ok hx
  have hlen := enc1_len hok
  have hcl := cat_len (items.take i) (fun y hy => h.okm y (List.mem_of_mem_take hy))
  have hi : i < items.length := (List.getElem?_eq_some_iff.1 hx).1
  have hcnt := h.cnt
  obtain ⟨c, t, hc, ht, rfl⟩ := h.it i x hx
  have hcI : inI c := h.li c (List.mem_of_getElem? hc)
  have m1 : M11 [.int .i64 c] = some (.int .i64 (numFrom c)) := by simp only [M11]; exact if_pos hcI
  obtain ⟨⟨h1, h2⟩, h3⟩ := hok
  simp only at h1 h2 h3
  have hct := cat_take hx
  obtain ⟨n, hn⟩ : ∃ n, n = numFrom c := ⟨_, rfl⟩
  obtain ⟨t', ht'⟩ : ∃ t', t' = cut 100 t := ⟨_, rfl⟩
  rw [← hn, ← ht'] at hct hlen
  rw [← hn] at m1 h1 h2
  rw [← ht'] at h3
  have m2 : M13 [.int .i64 n] = some (.tup [.str (enc (zig n)), .int .i64 0]) := by simp only [M13, putInt]; rw [if_pos (by omega), if_neg (by omega)]
  have m3 : M19 [.str t'] = some (.tup [.str (enc (zig t'.length) ++ t'), .int .i64 0]) := by simp only [M19, putStr]; rw [if_neg (by omega)]
  have x1 := fun A => h.hl.int (A := A) _ _ hc .i64
  have x2 := fun A => h.ht.str (A := A) _ ht .i64
  have hi' : (i : Int) < items.length := by omega
  have w : IntKind.i64.wrap ((i : Int) + 1) = ((i + 1 : Nat) : Int) := by rw [wrapI (by unfold inI; omega)]; omega
  have e1 : enc1 (n, t') = enc (zig n) ++ (enc (zig t'.length) ++ t') := rfl
  obtain ⟨a, ha⟩ : ∃ a, a = enc (zig n) := ⟨_, rfl⟩
  obtain ⟨b, hb⟩ : ∃ b, b = enc (zig t'.length) ++ t' := ⟨_, rfl⟩
  obtain ⟨s, hs⟩ : ∃ s, s = cat (items.take i) := ⟨_, rfl⟩
  rw [← ha, ← hb] at e1
  rw [← ha] at m2
  rw [← hb] at m3
  rw [hct, e1, ← hs]
  rw [e1, List.length_append] at hlen
  rw [← hs] at hcl
  simp only [List.length_take] at hcl
  have l1 : s.length + a.length ≤ 9223372036854775807 := by omega
  have l2 : s.length + a.length + b.length ≤ 9223372036854775807 := by omega
  obtain ⟨i1, hi1⟩ : ∃ i1 : Nat, i1 = i + 1 := ⟨_, rfl⟩
  rw [← hi1] at w ⊢
  simp [lp6x0, st6x0, hi', x1, x2, m1, m2, m3, min_cut100, slice_cut, ht'.symm, l1, l2, w, -evIndexSl, -evMin2, -evSliceStr]

theorem loop6a (fuel : Nat) {la ta : AV} {ls : List Int} {ts : List (List UInt8)} {items : List (Int × List UInt8)} (h : Seq6 la ta ls ts items) (ok : AV) (A : Arena) : ∀ (k i m : Nat), i + k = items.length → k < m →
    iter (evC (envOf GW fs6) fuel lp6x0) mask6x0 m (st6x0 la ta ok (.int .i64 (items.length : Int)) (.str (cat (items.take i))) (.int .i64 (i : Int))) A =
      some (.exit 0 ((st6x0 la ta ok (.int .i64 (items.length : Int)) (.str (cat items)) (.int .i64 (items.length : Int))).set 20 (.bool false)) A) := by
  intro k
  induction k with
  | zero =>
    intro i m hik hm
    obtain ⟨m, rfl⟩ : ∃ j, m = j + 1 := ⟨m - 1, by omega⟩
    obtain rfl : i = items.length := by omega
    rw [iter_succ, cl6x0, List.take_length]
    simp [lp6x0]
  | succ k ih =>
    intro i m hik hm
    obtain ⟨m, rfl⟩ : ∃ j, m = j + 1 := ⟨m - 1, by omega⟩
    rw [iter_succ, cl6x0, round6a fuel h ok A (List.getElem?_eq_getElem (show i < items.length by omega))]
    exact ih (i + 1) m (by omega) (by omega)

set_option maxRecDepth 100000 in
set_option maxHeartbeats 4000000 in
theorem round6b (fuel : Nat) {la ta : AV} {ls : List Int} {ts : List (List UInt8)} {items : List (Int × List UInt8)} (h : Seq6 la ta ls ts items) (ok : AV) (A : Arena) {i : Nat} {x : Int × List UInt8} (hx : items[i]? = some x) :
    run (envOf GW fs6) fuel [.code lp6x1] (st6x1 la ta ok (.int .i64 (items.length : Int)) (.str (cat items)) (.int .i64 ((cat (items.take i)).length : Int)) (.int .i64 (i : Int))) A =
      some (.normal (st6x1 la ta ok (.int .i64 (items.length : Int)) (.str (cat items)) (.int .i64 ((cat (items.take (i + 1))).length : Int)) (.int .i64 ((i + 1 : Nat) : Int))) A) := by
  have hok := h.ok hx
  have hall := cat_len items h.okm
  have hsp := cat_split hx
  have hi : i < items.length := (List.getElem?_eq_some_iff.1 hx).1
  have hcnt := h.cnt
  have hct := cat_take hx
  obtain ⟨c, t, hc, ht, rfl⟩ := h.it i x hx
  have hcI : inI c := h.li c (List.mem_of_getElem? hc)
  have m1 : M11 [.int .i64 c] = some (.int .i64 (numFrom c)) := by simp only [M11]; exact if_pos hcI
  obtain ⟨⟨h1, h2⟩, h3⟩ := hok
  simp only at h1 h2 h3
  obtain ⟨n, hn⟩ : ∃ n, n = numFrom c := ⟨_, rfl⟩
  obtain ⟨t', ht'⟩ : ∃ t', t' = cut 100 t := ⟨_, rfl⟩
  rw [← hn, ← ht'] at hct hsp
  rw [← hn] at m1 h1 h2
  rw [← ht'] at h3
  obtain ⟨p, hp⟩ : ∃ p, p = cat (items.take i) := ⟨_, rfl⟩
  obtain ⟨q, hq⟩ : ∃ q, q = cat (items.drop (i + 1)) := ⟨_, rfl⟩
  obtain ⟨s, hs⟩ : ∃ s, s = cat items := ⟨_, rfl⟩
  have e1 : enc1 (n, t') = enc (zig n) ++ (enc (zig t'.length) ++ t') := rfl
  rw [← hp, ← hq, ← hs, e1] at hsp
  rw [← hp, e1] at hct
  rw [← hs] at hall
  have g1 := getInt_enc p ((enc (zig t'.length) ++ t') ++ q) n h1 h2
  have g2 := getStr_enc (p ++ enc (zig n)) q t' (by omega)
  have r1 : p ++ enc (zig n) ++ ((enc (zig t'.length) ++ t') ++ q) = s := by rw [hsp]; simp [List.append_assoc]
  have r2 : p ++ enc (zig n) ++ (enc (zig t'.length) ++ t') ++ q = s := by rw [hsp]; simp [List.append_assoc]
  rw [r1] at g1
  rw [r2] at g2
  have hsl : s.length ≤ 1000000000 := by omega
  have m2 : M15 [.str s, .int .i64 (p.length : Int)] = some (.tup [.int .i64 n, .int .i64 ((p ++ enc (zig n)).length : Int), .int .i64 0]) := by
    simp only [M15]; rw [if_pos hsl, g1]; simp
  have m3 : M17 [.str s, .int .i64 ((p ++ enc (zig n)).length : Int)] = some (.tup [.str t', .int .i64 ((cat (items.take (i + 1))).length : Int), .int .i64 0]) := by
    have hat : ((cat (items.take (i + 1))).length : Int) = ((p ++ enc (zig n)).length : Int) + (((enc (zig t'.length)).length + t'.length : Nat) : Int) := by
      rw [hct]; simp only [List.length_append]; omega
    simp only [M17]; rw [if_pos hsl, g2, hat]
  have x1 := fun A => h.hl.int (A := A) _ _ hc .i64
  have x2 := fun A => h.ht.str (A := A) _ ht .i64
  have hi' : (i : Int) < items.length := by omega
  have w : IntKind.i64.wrap ((i : Int) + 1) = ((i + 1 : Nat) : Int) := by rw [wrapI (by unfold inI; omega)]; omega
  obtain ⟨b, hb⟩ : ∃ b : Int, b = ((p ++ enc (zig n)).length : Int) := ⟨_, rfl⟩
  obtain ⟨at2, hat2⟩ : ∃ b : Int, b = ((cat (items.take (i + 1))).length : Int) := ⟨_, rfl⟩
  rw [← hb] at m2 m3
  rw [← hat2] at m3 ⊢
  obtain ⟨i1, hi1⟩ : ∃ i1 : Nat, i1 = i + 1 := ⟨_, rfl⟩
  rw [← hi1] at w ⊢
  rw [← hs, ← hp]
  simp [lp6x1, st6x1, hi', x1, x2, m1, m2, m3, min_cut100, slice_cut, ht'.symm, w, -evIndexSl, -evMin2, -evSliceStr]

theorem loop6b (fuel : Nat) {la ta : AV} {ls : List Int} {ts : List (List UInt8)} {items : List (Int × List UInt8)} (h : Seq6 la ta ls ts items) (ok : AV) (A : Arena) : ∀ (k i m : Nat), i + k = items.length → k < m →
    iter (evC (envOf GW fs6) fuel lp6x1) mask6x1 m (st6x1 la ta ok (.int .i64 (items.length : Int)) (.str (cat items)) (.int .i64 ((cat (items.take i)).length : Int)) (.int .i64 (i : Int))) A =
      some (.exit 2 ((st6x1 la ta ok (.int .i64 (items.length : Int)) (.str (cat items)) (.int .i64 ((cat items).length : Int)) (.int .i64 (items.length : Int))).set 22 (.bool false)) A) := by
  intro k
  induction k with
  | zero =>
    intro i m hik hm
    obtain ⟨m, rfl⟩ : ∃ j, m = j + 1 := ⟨m - 1, by omega⟩
    obtain rfl : i = items.length := by omega
    rw [iter_succ, cl6x1, List.take_length]
    simp [lp6x1]
  | succ k ih =>
    intro i m hik hm
    obtain ⟨m, rfl⟩ : ∃ j, m = j + 1 := ⟨m - 1, by omega⟩
    rw [iter_succ, cl6x1, round6b fuel h ok A (List.getElem?_eq_getElem (show i < items.length by omega))]
    exact ih (i + 1) m (by omega) (by omega)

set_option maxRecDepth 100000 in
set_option maxHeartbeats 4000000 in
theorem ev6 {la ta : AV} {ls : List Int} {ts : List (List UInt8)} (hl : SlA 1 (ls.map (.int .i64)) la) (ht : SlA 1 (ts.map .str) ta) (li : ∀ z ∈ ls, inI z) : evP (envOf GW fs6) 30 mf6 1 [la, ta] = some (.bool true) := by
  obtain ⟨items, hit⟩ : ∃ items, items = (List.zipWith (fun c t => (numFrom c, cut 100 t)) ls ts).take 20 := ⟨_, rfl⟩
  have hN : items.length = min (min ls.length ts.length) 20 := by rw [hit]; simp; omega
  have h : Seq6 la ta ls ts items := ⟨hl, ht, li, by omega, fun i x hx => by
    have hi : i < items.length := (List.getElem?_eq_some_iff.1 hx).1
    have h1 : i < ls.length := by omega
    have h2 : i < ts.length := by omega
    refine ⟨ls[i], ts[i], List.getElem?_eq_getElem h1, List.getElem?_eq_getElem h2, ?_⟩
    rw [hit, List.getElem?_take_of_lt (by omega), List.getElem?_zipWith, List.getElem?_eq_getElem h1, List.getElem?_eq_getElem h2] at hx
    simpa using hx.symm⟩
  have hall := cat_len items h.okm
  have la1 := hl.len
  have ta1 := ht.len
  simp only [List.length_map] at la1 ta1
  have mn1 := min2_nat ls.length ts.length .i64 .i64
  have mn2 := min2_nat (min ls.length ts.length) 20 .i64 .i64
  rw [← hN] at mn2
  have lpa := loop6a 30 h (.bool true) [] items.length 0 30 (by omega) (by have := h.cnt; omega)
  have lpb := loop6b 30 h (.bool true) [] items.length 0 30 (by omega) (by have := h.cnt; omega)
  simp only [List.take_zero, show cat [] = [] from rfl, Int.natCast_zero, Int.cast_ofNat_Int, List.length_nil] at lpa lpb mn2
  have hsl : (cat items).length ≤ 1000000000 := by have := h.cnt; omega
  have hend : getInt (cat items) ((cat items).length : Int) = .tup [.int .i64 0, .int .i64 0, .int .i64 10] := by
    unfold getInt
    rw [if_neg (by omega)]
    simp [dec]
  have me : M15 [.str (cat items), .int .i64 ((cat items).length : Int)] = some (.tup [.int .i64 0, .int .i64 0, .int .i64 10]) := by
    simp only [M15]; rw [if_pos hsl, hend]
  obtain ⟨s, hs⟩ : ∃ s, s = cat items := ⟨_, rfl⟩
  obtain ⟨N, hN'⟩ : ∃ N : Int, N = (items.length : Int) := ⟨_, rfl⟩
  rw [← hs] at me
  simp only [← hs, ← hN'] at lpa lpb mn2
  rw [evP_run _ _ rfl]
  simp [mf6, la1, ta1, mn1, mn2, go6x0 lpa, go6x1 lpb, me, -evLenSl, -evMin2]

theorem ev6L (args : List AV) (h : LawArgs Tryd.prog 8 Tryd.f6.params.toList args) : ∃ fuel, evP (envOf GW fs6) fuel mf6 1 args = some (.bool true) := by
  rw [Tryd.params6] at h
  obtain ⟨a, r, rfl, h0, h⟩ := h.cons
  obtain ⟨b, r, rfl, h1, h⟩ := h.cons
  obtain rfl := h.nil
  obtain ⟨ls, hl, _, li⟩ := TA.ints (by kernel_rfl) Tryd.underlying3 (by kernel_rfl) h0
  obtain ⟨ts, ht, _, _⟩ := TA.strs (by kernel_rfl) Tryd.underlying9 (by kernel_rfl) h1
  exact ⟨30, ev6 hl ht li⟩
end Go.Proofs.YtnpmfpcppkdniaaDoor
