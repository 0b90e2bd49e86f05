/-
  What the proof is built on (D4 to D23).
-/
import Derived.Test.YtgbnngmpaefbcaaDoorC04
import Derived.Shelf.Strings.OnBuilder
import Derived.Shelf.Small.Bits
import Derived.Test.YtgbnngmpaefbcaaDoorProg
import Derived.Test.YtgbnngmpaefbcaaDoorChecked
/-
  Digest: add, as a whole (49).
-/
namespace Go.Proofs.YtgbnngmpaefbcaaDoor
open Go

theorem loop49x0 (fuel : Nat) {ws h : List W32} (hw : ws.length = 64) (hh : h.length = 8) {w r : Nat} {v0 : AV} (hne : w ≠ r) : ∀ (c i : Nat) (A : Arena) (m : Nat), i + c = 64 → A[w]? = some (rowV ws) → A[r]? = some (rowV (rnds ws h i)) → c < m →
    iter (evC (envOf GD fs49) fuel lp49x0) mask49x0 m (st49x0 v0 (.ptr w 0 0) (.ptr r 0 0) (wsA kW) (.int .i64 (i : Int))) A = some (.exit 0 ((st49x0 v0 (.ptr w 0 0) (.ptr r 0 0) (wsA kW) (.int .i64 64)).set 13 (.bool false)) (A.set r (rowV (rnds ws h 64)))) := by
  intro c
  induction c with
  | zero =>
    intro i A m hi hW hA hm
    obtain ⟨m, rfl⟩ : ∃ j, m = j + 1 := ⟨m - 1, by omega⟩
    obtain rfl : i = 64 := by omega
    have hs : A.set r (rowV (rnds ws h 64)) = A := by
      obtain ⟨h1, h2⟩ := List.getElem?_eq_some_iff.1 hA
      rw [← h2]; simp
    rw [iter_succ, cl49x0, hs]
    simp [lp49x0]
  | succ c ih =>
    intro i A m hi hW hA hm
    obtain ⟨m, rfl⟩ : ∃ j, m = j + 1 := ⟨m - 1, by omega⟩
    have hl := (List.getElem?_eq_some_iff.1 hA).1
    rw [iter_succ, cl49x0, round49x0 fuel hw (rnds_len hh i) (by omega) hW hA hne]
    have := ih (i + 1) (A.set r (rowV (rnds ws h (i + 1)))) m (by omega) (by rw [List.getElem?_set_ne (Ne.symm hne)]; exact hW) (by simp [hl]) (by omega)
    rw [List.set_set] at this
    exact this

/-- the sums, as far as they are done -/
def part8 (h v : List W32) (i : Nat) : List W32 := (List.zipWith (· + ·) h v).take i ++ h.drop i
theorem part8_len {h v : List W32} (hh : h.length = 8) (hv : v.length = 8) {i : Nat} (hi : i ≤ 8) : (part8 h v i).length = 8 := by
  simp [part8, hh, hv]; omega
theorem part8_get {h v : List W32} (hh : h.length = 8) (hv : v.length = 8) {i : Nat} (hi : i < 8) : (part8 h v i)[i]? = some (h.getD i 0) := by
  have : ((List.zipWith (· + ·) h v).take i).length = i := by simp [hh, hv]; omega
  rw [part8, List.getElem?_append_right (by omega), this, Nat.sub_self, List.getElem?_drop, Nat.add_zero, List.getD_eq_getElem?_getD, List.getElem?_eq_getElem (by omega)]; rfl
theorem part8_set {h v : List W32} (hh : h.length = 8) (hv : v.length = 8) {i : Nat} (hi : i < 8) : (part8 h v i).set i (h.getD i 0 + v.getD i 0) = part8 h v (i + 1) := by
  obtain ⟨a, b, c, d, e, f, g, k, rfl⟩ := len8 hh
  obtain ⟨a', b', c', d', e', f', g', k', rfl⟩ := len8 hv
  have : i = 0 ∨ i = 1 ∨ i = 2 ∨ i = 3 ∨ i = 4 ∨ i = 5 ∨ i = 6 ∨ i = 7 := by omega
  rcases this with rfl | rfl | rfl | rfl | rfl | rfl | rfl | rfl <;> rfl

theorem nilC {_A : Arena} {id i o : Nat} : evNilCheck (.ptr id i o) = some (.ptr id i o) := rfl
set_option maxRecDepth 100000 in
set_option maxHeartbeats 4000000 in
theorem round49x1 (E : Env) (fuel : Nat) {h v : List W32} (hh : h.length = 8) (hv : v.length = 8) {i : Nat} (hi : i < 8) {A : Arena} {q r : Nat} (hQ : A[q]? = some (rowV (part8 h v i))) (hV : A[r]? = some (rowV v)) (_hne : q ≠ r) :
    run E fuel [.code lp49x1] (st49x1 (.ptr q 0 0) (.ptr r 0 0) (.int .i64 (i : Int))) A =
      some (.normal (st49x1 (.ptr q 0 0) (.ptr r 0 0) (.int .i64 ((i + 1 : Nat) : Int))) (A.set q (rowV (part8 h v (i + 1))))) := by
  have hp := part8_len (v := v) hh hv (i := i) (by omega)
  have c0 := Dlt_nat i 8 .i64
  rw [decide_eq_true hi] at c0
  have p0 := Dadd_nat i 1 (by omega)
  have x0 : evIndexArr 8 1 A (.ptr q 0 0) (.int .i64 (i : Int)) = some (.ptr q i 0) := idx_arr hQ hi (by simp; omega)
  have x1 : evIndexArr 8 1 A (.ptr r 0 0) (.int .i64 (i : Int)) = some (.ptr r i 0) := idx_arr hV hi (by simp; omega)
  have l0 : evLoad false 1 A (.ptr q i 0) = some (wA (h.getD i 0)) := load_arr hQ (by rw [List.getElem?_map, part8_get hh hv hi]; rfl) rfl
  have l1 : evLoad false 1 A (.ptr r i 0) = some (wA (v.getD i 0)) := load_arr hV (by rw [List.getElem?_map, List.getD_eq_getElem?_getD, List.getElem?_eq_getElem (by omega)]; rfl) rfl
  have st : evStore 1 A (.ptr q i 0) (wA (h.getD i 0 + v.getD i 0)) = some (A.set q (rowV (part8 h v (i + 1)))) := by
    rw [store_arr hQ (by rw [List.getElem?_map, part8_get hh hv hi]; rfl) rfl rfl, ← List.map_set, part8_set hh hv hi]; rfl
  have aw := add_w (h.getD i 0) (v.getD i 0)
  rw [show ((1 : Nat) : Int) = 1 from rfl] at p0
  rw [show ((8 : Nat) : Int) = 8 from rfl] at c0
  generalize rowV (part8 h v (i + 1)) = RR at *
  generalize h.getD i 0 = X at *
  generalize v.getD i 0 = Y at *
  generalize ((i + 1 : Nat) : Int) = I1 at *
  generalize (i : Int) = I0 at *
  clear hQ hV hp hh hv hi
  simp [lp49x1, c0, p0, x0, x1, l0, l1, st, aw, -evBin, -evLoad, -evStore]
theorem loop49x1 (E : Env) (fuel : Nat) {h v : List W32} (hh : h.length = 8) (hv : v.length = 8) {q r : Nat} (hne : q ≠ r) : ∀ (c i : Nat) (A : Arena) (m : Nat), i + c = 8 → A[q]? = some (rowV (part8 h v i)) → A[r]? = some (rowV v) → c < m →
    iter (evC E fuel lp49x1) mask49x1 m (st49x1 (.ptr q 0 0) (.ptr r 0 0) (.int .i64 (i : Int))) A = some (.exit 2 ((st49x1 (.ptr q 0 0) (.ptr r 0 0) (.int .i64 8)).set 15 (.bool false)) (A.set q (rowV (part8 h v 8)))) := by
  intro c
  induction c with
  | zero =>
    intro i A m hi hA hV hm
    obtain ⟨m, rfl⟩ : ∃ j, m = j + 1 := ⟨m - 1, by omega⟩
    obtain rfl : i = 8 := by omega
    have hs : A.set q (rowV (part8 h v 8)) = A := by
      obtain ⟨h1, h2⟩ := List.getElem?_eq_some_iff.1 hA
      rw [← h2]; simp
    rw [iter_succ, cl49x1, hs]
    simp [lp49x1]
  | succ c ih =>
    intro i A m hi hA hV hm
    obtain ⟨m, rfl⟩ : ∃ j, m = j + 1 := ⟨m - 1, by omega⟩
    have hl := (List.getElem?_eq_some_iff.1 hA).1
    rw [iter_succ, cl49x1, round49x1 E fuel hh hv (by omega) hA hV hne]
    have := ih (i + 1) (A.set q (rowV (part8 h v (i + 1)))) m (by omega) (by simp [hl]) (by rw [List.getElem?_set_ne hne]; exact hV) (by omega)
    rw [List.set_set] at this
    exact this
theorem part8_all {h v : List W32} (hh : h.length = 8) (hv : v.length = 8) : part8 h v 8 = List.zipWith (· + ·) h v := by
  rw [part8, List.take_of_length_le (by simp [hh, hv]), List.drop_of_length_le (by omega), List.append_nil]

noncomputable def H49 : HModel := fun _ => evFun (envOf GD fs49) 100 mf49
theorem spec49 : FnSpecY Tryd.prog GD 49 H49 := (evFun_sound (envOf_sound sound49) rfl at49 comp49 (by first | exact PureIn.nil | (repeat (first | exact PureIn.nil | refine PureIn.cons (M := _) rfl ?_)))).y
theorem storeA_row {A : Arena} {id n : Nat} {es : List AV} {l : List W32} (h : A[id]? = some (.row 1 false es)) (hn : es.length = n) (hn1 : 1 < n) (hx : l.length = n) : evStoreA n A (.ptr id 0 0) (wsA l) = some (A.set id (rowV l)) := by
  have hd : es.drop n = [] := List.drop_of_length_le (by omega)
  have h1 : n ≠ 1 := by omega
  have h2 : 0 < n := by omega
  simp [evStoreA, wsA, rowV, h, h1, AV.solid, cellsOf, hx, hn, hd, h2]
theorem load_row {A : Arena} {id n : Nat} {l : List W32} (h : A[id]? = some (rowV l)) (hn : l.length = n) (hn1 : 1 < n) : evLoad true n A (.ptr id 0 0) = some (wsA l) := by
  have ht : (l.map wA).take n = l.map wA := List.take_of_length_le (by simp; omega)
  have hf : (l.map wA).all flat1 = true := List.all_eq_true.2 fun e he => by obtain ⟨x, _, rfl⟩ := List.mem_map.1 he; rfl
  have h1 : (n == 1) = false := by simp; omega
  simp only [evLoad, h, rowV, List.drop_zero, ht, hf, h1, wsA]
  simp [hn]
/-- what add leaves behind: the schedule, and the words of the last round -/
def J49 (h : List W32) (b : List UInt8) : Arena := [rowV (schedT b), rowV (rnds (schedT b) h 64)]
set_option maxRecDepth 100000 in
set_option maxHeartbeats 4000000 in
theorem H49_eq (hd : Handler) {A : Arena} {q : Nat} {h : List W32} (hh : h.length = 8) (hQ : A[q]? = some (rowV h)) {c : AV} {b : List UInt8} (hb : b.length = 64) (hc : frz A 4 c = .fs 1 (bytesA b)) :
    H49 hd [.ptr q 0 0, c] A = some (.tup [], A.set q (rowV (addT h b)) ++ J49 h b) := by
  have hlt := (List.getElem?_eq_some_iff.1 hQ).1
  have m := M61_eq hb
  have hsl := sched_len b
  have hz : ([.int .u32 0, .int .u32 0, .int .u32 0, .int .u32 0, .int .u32 0, .int .u32 0, .int .u32 0, .int .u32 0, .int .u32 0, .int .u32 0, .int .u32 0, .int .u32 0, .int .u32 0, .int .u32 0, .int .u32 0, .int .u32 0, .int .u32 0, .int .u32 0, .int .u32 0, .int .u32 0, .int .u32 0, .int .u32 0, .int .u32 0, .int .u32 0, .int .u32 0, .int .u32 0, .int .u32 0, .int .u32 0, .int .u32 0, .int .u32 0, .int .u32 0, .int .u32 0, .int .u32 0, .int .u32 0, .int .u32 0, .int .u32 0, .int .u32 0, .int .u32 0, .int .u32 0, .int .u32 0, .int .u32 0, .int .u32 0, .int .u32 0, .int .u32 0, .int .u32 0, .int .u32 0, .int .u32 0, .int .u32 0, .int .u32 0, .int .u32 0, .int .u32 0, .int .u32 0, .int .u32 0, .int .u32 0, .int .u32 0, .int .u32 0, .int .u32 0, .int .u32 0, .int .u32 0, .int .u32 0, .int .u32 0, .int .u32 0, .int .u32 0, .int .u32 0] : List AV) = List.replicate 64 (wA 0) := rfl
  have hz8 : ([.int .u32 0, .int .u32 0, .int .u32 0, .int .u32 0, .int .u32 0, .int .u32 0, .int .u32 0, .int .u32 0] : List AV) = List.replicate 8 (wA 0) := rfl
  have al1 : evAllocA (List.replicate 64 (wA 0)) A = some (.ptr A.length 0 0, A ++ [.row 1 false (List.replicate 64 (wA 0))]) := by simp [evAllocA]
  have sa1 : evStoreA 64 (A ++ [.row 1 false (List.replicate 64 (wA 0))]) (.ptr A.length 0 0) (wsA (schedT b)) = some (A ++ [rowV (schedT b)]) := by
    rw [storeA_row (es := List.replicate 64 (wA 0)) (by simp) (by simp) (by omega) hsl]; simp
  obtain ⟨A1, hA1⟩ : ∃ X, X = A ++ [rowV (schedT b)] := ⟨_, rfl⟩
  have hl1 : A1.length = A.length + 1 := by rw [hA1]; simp
  have ld : evLoad true 8 A1 (.ptr q 0 0) = some (wsA h) := load_row (by rw [hA1, List.getElem?_append_left hlt]; exact hQ) hh (by omega)
  have al2 : evAllocA (List.replicate 8 (wA 0)) A1 = some (.ptr A1.length 0 0, A1 ++ [.row 1 false (List.replicate 8 (wA 0))]) := by simp [evAllocA]
  have sa2 : evStoreA 8 (A1 ++ [.row 1 false (List.replicate 8 (wA 0))]) (.ptr A1.length 0 0) (wsA h) = some (A1 ++ [rowV h]) := by
    rw [storeA_row (es := List.replicate 8 (wA 0)) (by simp) (by simp) (by omega) hh]; simp
  obtain ⟨A2, hA2⟩ : ∃ X, X = A1 ++ [rowV h] := ⟨_, rfl⟩
  have gl : evLoad true 64 A2 (.fp (kW.map wA)) = some (wsA kW) := by simp [evLoad, kW_len, wsA]
  have hW2 : A2[A.length]? = some (rowV (schedT b)) := by rw [hA2, List.getElem?_append_left (by omega), hA1]; simp
  have hV2 : A2[A1.length]? = some (rowV (rnds (schedT b) h 0)) := by rw [hA2]; simp [rnds]
  have hne : A.length ≠ A1.length := by omega
  have lp0 := loop49x0 100 (v0 := .ptr q 0 0) hsl hh hne 64 0 A2 100 rfl hW2 hV2 (by omega)
  obtain ⟨A3, hA3⟩ : ∃ X, X = A2.set A1.length (rowV (rnds (schedT b) h 64)) := ⟨_, rfl⟩
  have hvl := rnds_len (ws := schedT b) hh 64
  have hQ3 : A3[q]? = some (rowV (part8 h (rnds (schedT b) h 64) 0)) := by
    rw [hA3, List.getElem?_set_ne (by omega), hA2, List.getElem?_append_left (by omega), hA1, List.getElem?_append_left hlt, hQ]; rfl
  have hV3 : A3[A1.length]? = some (rowV (rnds (schedT b) h 64)) := by rw [hA3, List.getElem?_set_self (by rw [hA2]; simp)]
  have lp1 := loop49x1 (envOf GD fs49) 100 hh hvl (q := q) (r := A1.length) (by omega) 8 0 A3 100 rfl hQ3 hV3 (by omega)
  rw [part8_all hh hvl] at lp1
  rw [show List.zipWith (· + ·) h (rnds (schedT b) h 64) = addT h b from rfl] at lp1
  unfold J49
  have hfin : A3.set q (rowV (addT h b)) = A.set q (rowV (addT h b)) ++ [rowV (schedT b), rowV (rnds (schedT b) h 64)] := by
    rw [hA3, hA2, hA1, List.set_append_right _ _ (by simp), List.set_append_left _ _ (by simp; omega), List.set_append_left _ _ hlt]
    simp
  rw [← hfin]
  rw [← hA1] at sa1
  rw [← hA2] at sa2
  rw [← hA3] at lp0
  rw [show ((0 : Nat) : Int) = 0 from rfl] at lp0 lp1
  have sc : scalarB 4 (wsA (schedT b)) = true := by simp [wsA, scalarB, wA]
  have gk : (envOf GD fs49).glob 0 = some (kW.map wA) := rfl
  unfold H49
  rw [evFun_run _ _ rfl]
  unfold mf49
  rw [hz, hz8]
  generalize A3.set q (rowV (addT h b)) = FIN at *
  generalize wsA (schedT b) = SC at *
  generalize wsA h = HH at *
  generalize wsA kW = KS at *
  generalize kW.map wA = KM at *
  generalize List.replicate 64 (wA 0) = Z64 at *
  generalize List.replicate 8 (wA 0) = Z8 at *
  generalize A ++ [Ent.row 1 false Z64] = B1 at *
  generalize A1 ++ [Ent.row 1 false Z8] = B2 at *
  clear hA1 hA2 hA3 hW2 hV2 hQ3 hV3 hfin hl1 hne hz hz8
  simp [hc, m, sc, al1, sa1, ld, al2, sa2, gl, gk, go49x0 lp0, go49x1 lp1, -evLoad, -evAllocA]
end Go.Proofs.YtgbnngmpaefbcaaDoor
/-
  Digest: the bytes of the words (50).
-/
namespace Go.Proofs.YtgbnngmpaefbcaaDoor
open Go

def byteW (x : W32) (n : Nat) : UInt8 := UInt8.ofNat (x >>> n).toNat
def digT (h : List W32) : List UInt8 := h.flatMap fun x => [byteW x 24, byteW x 16, byteW x 8, byteW x 0]
theorem digT_len {h : List W32} (hh : h.length = 8) : (digT h).length = 32 := by
  obtain ⟨a, b, c, d, e, f, g, k, rfl⟩ := len8 hh
  rfl
theorem digT_get {h : List W32} (hh : h.length = 8) {i k : Nat} (hi : i < 8) (hk : k < 4) : (digT h).getD (4 * i + k) 0 = byteW (h.getD i 0) (24 - 8 * k) := by
  obtain ⟨a, b, c, d, e, f, g, z, rfl⟩ := len8 hh
  have h1 : i = 0 ∨ i = 1 ∨ i = 2 ∨ i = 3 ∨ i = 4 ∨ i = 5 ∨ i = 6 ∨ i = 7 := by omega
  have h2 : k = 0 ∨ k = 1 ∨ k = 2 ∨ k = 3 := by omega
  rcases h1 with rfl | rfl | rfl | rfl | rfl | rfl | rfl | rfl <;> rcases h2 with rfl | rfl | rfl | rfl <;> rfl
def outT (h : List W32) (j : Nat) : List UInt8 := (digT h).take j ++ List.replicate (32 - j) 0
theorem outT_len {h : List W32} (hh : h.length = 8) {j : Nat} (hj : j ≤ 32) : (outT h j).length = 32 := by
  simp [outT, digT_len hh]; omega
theorem outT_set {h : List W32} (hh : h.length = 8) {j : Nat} (hj : j < 32) : (outT h j).set j ((digT h).getD j 0) = outT h (j + 1) := by
  have hl := digT_len hh
  have ht : ((digT h).take j).length = j := by simp; omega
  obtain ⟨n, hn⟩ : ∃ n, 32 - j = n + 1 := ⟨32 - j - 1, by omega⟩
  unfold outT
  rw [List.set_append_right _ _ (by omega), ht, Nat.sub_self, hn, show 32 - (j + 1) = n by omega, List.replicate_succ, List.set_cons_zero, List.getD_eq_getElem?_getD, List.getElem?_eq_getElem (by omega), ← List.take_append_getElem (show j < (digT h).length by omega)]
  simp only [List.append_assoc, List.singleton_append, Option.getD_some]
theorem conv8_w (x : W32) : evConvInt .u8 (wA x) = some (.int .u8 ((UInt8.ofNat x.toNat).toNat : Int)) := by
  have : IntKind.u8.wrap (x.toNat : Int) = ((UInt8.ofNat x.toNat).toNat : Int) := by
    simp only [IntKind.wrap, IntKind.signed, IntKind.bits, Bool.false_and, Bool.false_eq_true, if_false]
    simp
  simp only [evConvInt, wA, this]
theorem bytesA_set (l : List UInt8) (i : Nat) (b : UInt8) : (bytesA l).set i (.int .u8 (b.toNat : Int)) = bytesA (l.set i b) := by
  simp [bytesA, List.map_set]
theorem bytesA_len (l : List UInt8) : (bytesA l).length = l.length := by simp [bytesA]

section
variable {h : List W32} (hh : h.length = 8)
include hh
set_option maxRecDepth 100000 in
set_option maxHeartbeats 4000000 in
theorem round50x0 (E : Env) (fuel : Nat) {i k r : Nat} (hi : i < 8) (hk : k < 4) {A : Arena} (hA : A[r]? = some (.row 1 false (bytesA (outT h (4 * i + k))))) (v7 v8 : AV) :
    run E fuel [.code lp50x0] (st50x0 (.ptr r 0 0) (.int .i64 (i : Int)) (wA (h.getD i 0)) v7 v8 (.int .i64 (k : Int))) A =
      some (.normal (st50x0 (.ptr r 0 0) (.int .i64 (i : Int)) (wA (h.getD i 0)) v7 v8 (.int .i64 ((k + 1 : Nat) : Int))) (A.set r (.row 1 false (bytesA (outT h (4 * i + k + 1)))))) := by
  have ho := outT_len hh (j := 4 * i + k) (by omega)
  have c0 := Dlt_nat k 4 .i64
  rw [decide_eq_true hk] at c0
  have p0 := Dadd_nat k 1 (by omega)
  have m0 := Dmul_nat 4 i (by omega)
  have p1 := Dadd_nat (4 * i) k (by omega)
  have m1 := Dmul_nat 8 k (by omega)
  have q0 := Dsub_nat 24 (8 * k) (by omega) (by omega)
  have sh := shr_w (h.getD i 0) .i64 (24 - 8 * k) (by omega)
  have cv := conv8_w (h.getD i 0 >>> (24 - 8 * k))
  rw [show UInt8.ofNat (h.getD i 0 >>> (24 - 8 * k)).toNat = (digT h).getD (4 * i + k) 0 from (digT_get hh hi hk).symm] at cv
  have ix : evIndexArr 32 1 A (.ptr r 0 0) (.int .i64 ((4 * i + k : Nat) : Int)) = some (.ptr r (4 * i + k) 0) := idx_arr hA (by omega) (by rw [bytesA_len]; omega)
  have st : evStore 1 A (.ptr r (4 * i + k) 0) (.int .u8 (((digT h).getD (4 * i + k) 0).toNat : Int)) = some (A.set r (.row 1 false (bytesA (outT h (4 * i + k + 1))))) := by
    rw [store_arr hA (List.getElem?_eq_getElem (by rw [bytesA_len]; omega)) rfl rfl, bytesA_set, outT_set hh (by omega)]
  rw [show ((1 : Nat) : Int) = 1 from rfl] at p0
  rw [show ((4 : Nat) : Int) = 4 from rfl] at c0 m0
  rw [show ((8 : Nat) : Int) = 8 from rfl] at m1
  rw [show ((24 : Nat) : Int) = 24 from rfl] at q0
  generalize bytesA (outT h (4 * i + k + 1)) = RR at *
  generalize h.getD i 0 >>> (24 - 8 * k) = Y at *
  generalize wA (h.getD i 0) = X at *
  generalize (((digT h).getD (4 * i + k) 0).toNat : Int) = D at *
  generalize ((4 * i + k : Nat) : Int) = J at *
  generalize ((24 - 8 * k : Nat) : Int) = J2 at *
  generalize ((8 * k : Nat) : Int) = J3 at *
  generalize ((4 * i : Nat) : Int) = J4 at *
  generalize ((k + 1 : Nat) : Int) = K1 at *
  generalize (k : Int) = K0 at *
  generalize (i : Int) = I0 at *
  generalize 4 * i + k = N at *
  clear hA ho hi hk
  simp [lp50x0, c0, p0, m0, p1, m1, q0, sh, cv, ix, st, -evBin, -evStore, -evConvInt]
theorem loop50x0 (E : Env) (fuel : Nat) {i r : Nat} (hi : i < 8) (v7 v8 : AV) : ∀ (c k : Nat) (A : Arena) (m : Nat), k + c = 4 → A[r]? = some (.row 1 false (bytesA (outT h (4 * i + k)))) → c < m →
    iter (evC E fuel lp50x0) mask50x0 m (st50x0 (.ptr r 0 0) (.int .i64 (i : Int)) (wA (h.getD i 0)) v7 v8 (.int .i64 (k : Int))) A = some (.exit 2 ((st50x0 (.ptr r 0 0) (.int .i64 (i : Int)) (wA (h.getD i 0)) v7 v8 (.int .i64 4)).set 11 (.bool false)) (A.set r (.row 1 false (bytesA (outT h (4 * (i + 1))))))) := by
  intro c
  induction c with
  | zero =>
    intro k A m hk hA hm
    obtain ⟨m, rfl⟩ : ∃ j, m = j + 1 := ⟨m - 1, by omega⟩
    obtain rfl : k = 4 := by omega
    have hs : A.set r (.row 1 false (bytesA (outT h (4 * (i + 1))))) = A := by
      obtain ⟨h1, h2⟩ := List.getElem?_eq_some_iff.1 hA
      rw [show 4 * (i + 1) = 4 * i + 4 by omega, ← h2]; simp
    rw [iter_succ, cl50x0, hs]
    simp [lp50x0]
  | succ c ih =>
    intro k A m hk hA hm
    obtain ⟨m, rfl⟩ : ∃ j, m = j + 1 := ⟨m - 1, by omega⟩
    have hl := (List.getElem?_eq_some_iff.1 hA).1
    rw [iter_succ, cl50x0, round50x0 hh E fuel hi (by omega) hA]
    have := ih (k + 1) (A.set r (.row 1 false (bytesA (outT h (4 * i + k + 1))))) m (by omega) (by simp [hl]; rfl) (by omega)
    rw [List.set_set] at this
    exact this
set_option maxRecDepth 100000 in
set_option maxHeartbeats 4000000 in
theorem round50x1 (E : Env) {i r : Nat} (hi : i < 8) {A : Arena} (hA : A[r]? = some (.row 1 false (bytesA (outT h (4 * i))))) :
    run E 50 [.code lp50x1] (st50x1 (.ptr r 0 0) (wsA h) (.int .i64 (i : Int))) A =
      some (.normal (st50x1 (.ptr r 0 0) (wsA h) (.int .i64 ((i + 1 : Nat) : Int))) (A.set r (.row 1 false (bytesA (outT h (4 * (i + 1))))))) := by
  have c0 := Dlt_nat i 8 .i64
  rw [decide_eq_true hi] at c0
  have p0 := Dadd_nat i 1 (by omega)
  have iv := idx_val (i := i) hh hi .i64
  have lp := loop50x0 hh E 50 hi (wsA h) (.int .i64 (i : Int)) 4 0 A 50 rfl hA (by omega)
  rw [show ((1 : Nat) : Int) = 1 from rfl] at p0
  rw [show ((8 : Nat) : Int) = 8 from rfl] at c0
  rw [show ((0 : Nat) : Int) = 0 from rfl] at lp
  generalize bytesA (outT h (4 * (i + 1))) = RR at *
  generalize wA (h.getD i 0) = X at *
  generalize wsA h = HH at *
  generalize ((i + 1 : Nat) : Int) = I1 at *
  generalize (i : Int) = I0 at *
  simp [lp50x1, c0, p0, iv, go50x0 lp, -evBin]
theorem loop50x1 (E : Env) {r : Nat} : ∀ (c i : Nat) (A : Arena) (m : Nat), i + c = 8 → A[r]? = some (.row 1 false (bytesA (outT h (4 * i)))) → c < m →
    iter (evC E 50 lp50x1) mask50x1 m (st50x1 (.ptr r 0 0) (wsA h) (.int .i64 (i : Int))) A = some (.exit 0 ((st50x1 (.ptr r 0 0) (wsA h) (.int .i64 8)).set 9 (.bool false)) (A.set r (.row 1 false (bytesA (outT h 32))))) := by
  intro c
  induction c with
  | zero =>
    intro i A m hi hA hm
    obtain ⟨m, rfl⟩ : ∃ j, m = j + 1 := ⟨m - 1, by omega⟩
    obtain rfl : i = 8 := by omega
    have hs : A.set r (.row 1 false (bytesA (outT h 32))) = A := by
      obtain ⟨h1, h2⟩ := List.getElem?_eq_some_iff.1 hA
      rw [show 32 = 4 * 8 by omega, ← h2]; simp
    rw [iter_succ, cl50x1, hs]
    simp [lp50x1]
  | succ c ih =>
    intro i A m hi hA hm
    obtain ⟨m, rfl⟩ : ∃ j, m = j + 1 := ⟨m - 1, by omega⟩
    have hl := (List.getElem?_eq_some_iff.1 hA).1
    rw [iter_succ, cl50x1, round50x1 hh E (by omega) hA]
    have := ih (i + 1) (A.set r (.row 1 false (bytesA (outT h (4 * (i + 1)))))) m (by omega) (by simp [hl]) (by omega)
    rw [List.set_set] at this
    exact this
end
noncomputable def M50 : PModel := fun args => evP (envOf GD []) 50 mf50 1 args
theorem spec50 : PureSpec Tryd.prog GD 50 M50 := PureSpec.of_ev (E := envOf GD []) (envOf_sound lookM_nil) rfl at50 comp50 1 fun _ _ h => ⟨50, h⟩
set_option maxRecDepth 100000 in
set_option maxHeartbeats 4000000 in
theorem M50_eq {h : List W32} (hh : h.length = 8) : M50 [wsA h] = some (.str (digT h)) := by
  have hz : ([.int .u8 0, .int .u8 0, .int .u8 0, .int .u8 0, .int .u8 0, .int .u8 0, .int .u8 0, .int .u8 0, .int .u8 0, .int .u8 0, .int .u8 0, .int .u8 0, .int .u8 0, .int .u8 0, .int .u8 0, .int .u8 0, .int .u8 0, .int .u8 0, .int .u8 0, .int .u8 0, .int .u8 0, .int .u8 0, .int .u8 0, .int .u8 0, .int .u8 0, .int .u8 0, .int .u8 0, .int .u8 0, .int .u8 0, .int .u8 0, .int .u8 0, .int .u8 0] : List AV) = bytesA (outT h 0) := by
    rw [outT, List.take_zero]; rfl
  have bx : evBox (cellsOf (wsA h)).length (wsA h) [] = some (.ptr 0 0 0, [.row 8 false [wsA h]]) := by
    have : (wsA h).solid = true := rfl
    simp [evBox, wsA, cellsOf, hh]
  have ld : ∀ x, evLoad true 8 [.row 8 false [wsA h], x] (.ptr 0 0 0) = some (wsA h) := fun x => rfl
  have hbl : (bytesA (outT h 0)).length = 32 := by rw [bytesA_len, outT_len hh (by omega)]
  have al : evAllocA (bytesA (outT h 0)) [.row 8 false [wsA h]] = some (.ptr 1 0 0, [.row 8 false [wsA h], .row 1 false (bytesA (outT h 0))]) := by
    simp [evAllocA, hbl]
  have lp := loop50x1 hh (envOf GD []) 8 0 [.row 8 false [wsA h], .row 1 false (bytesA (outT h 0))] (r := 1) 50 rfl rfl (by omega)
  simp only [List.set_cons_zero, List.set_cons_succ] at lp
  have ho : outT h 32 = digT h := by simp [outT, List.take_of_length_le (show (digT h).length ≤ 32 by rw [digT_len hh]; omega)]
  rw [ho] at lp
  have sl : evSliceArr 32 1 [.row 8 false [wsA h], .row 1 false (bytesA (digT h))] none none (.ptr 1 0 0) = some (.sl 1 0 32) := by
    simp [evSliceArr, bytesA_len, digT_len hh, evBounds, loB, hiB]
  have ts : evToStr [.row 8 false [wsA h], .row 1 false (bytesA (digT h))] (.sl 1 0 32) = some (.str (digT h)) :=
    toStr_full (.inr ⟨1, false, by rw [bytesA_len, digT_len hh], rfl⟩)
  rw [show ((0 : Nat) : Int) = 0 from rfl] at lp
  unfold M50
  rw [evP_run _ _ rfl]
  unfold mf50
  rw [hz]
  generalize bytesA (outT h 0) = Z at *
  generalize bytesA (digT h) = D at *
  generalize wsA h = HH at *
  generalize digT h = DD at *
  simp [bx, ld, al, go50x1 lp, sl, ts, -evBox, -evLoad, -evAllocA, -cellsOf]
end Go.Proofs.YtgbnngmpaefbcaaDoor
/-
  Digest: what is digested is padded (27, the first two loops).
-/
namespace Go.Proofs.YtgbnngmpaefbcaaDoor
open Go

def padN (n : Nat) : Nat := (119 - n % 64) % 64
def lenB (n : Nat) : List UInt8 := [7, 6, 5, 4, 3, 2, 1, 0].map fun i => UInt8.ofNat (8 * n / 2 ^ (8 * i))
def padT (s : List UInt8) : List UInt8 := s ++ [128] ++ List.replicate (padN s.length) 0 ++ lenB s.length
theorem padT_len (s : List UInt8) : (padT s).length = 64 * ((s.length + 72) / 64) := by
  simp only [padT, lenB, padN, List.length_append, List.length_map, List.length_cons, List.length_nil, List.length_replicate]
  omega
theorem Full.len {A : Arena} {o : AV} {esz : Nat} {xs : List AV} (h : Full A o esz xs) : evLenSl o = some (.int .i64 (xs.length : Int)) := by
  rcases h with ⟨rfl, rfl⟩ | ⟨id, gr, rfl, _⟩ <;> rfl
theorem Full.ne_words {A : Arena} {o : AV} {l : List UInt8} {h : List W32} {r : Nat} (hF : Full A o 1 (bytesA l)) (hA : A[r]? = some (rowV h)) (hh : h ≠ []) : ∀ n, o ≠ .sl r 0 n := by
  rintro n rfl
  rcases hF with ⟨h, _⟩ | ⟨id, gr, h1, h2⟩
  · cases h
  · cases h1
    rw [hA] at h2
    injection h2 with h2
    unfold rowV at h2
    injection h2 with _ _ h2
    cases h with
    | nil => exact hh rfl
    | cons x xs =>
      cases l with
      | nil => simp [bytesA] at h2
      | cons y ys => simp [bytesA, wA] at h2
theorem rem_nat (a b : Nat) (h : 0 < b) : evBin .rem (.int .i64 (a : Int)) (.int .i64 (b : Int)) = some (.int .i64 ((a % b : Nat) : Int)) := by
  have h0 : ¬ ((b : Int) = 0) := by omega
  simp only [evBin, if_true, if_neg h0, Int.tmod_eq_emod_of_nonneg (Int.natCast_nonneg a)]
  simp
theorem ne_nat (a b : Nat) (k : IntKind) : evBin .neq (.int k (a : Int)) (.int k (b : Int)) = some (.bool (!decide (a = b))) := by
  rw [bNe]
  by_cases h : a = b
  · simp [h]
  · have : ¬ ((a : Int) = (b : Int)) := by omega
    simp [h, this]
theorem conv8_n (m : Nat) (k : IntKind) : evConvInt .u8 (.int k (m : Int)) = some (.int .u8 ((UInt8.ofNat m).toNat : Int)) := by
  have : IntKind.u8.wrap (m : Int) = ((UInt8.ofNat m).toNat : Int) := by
    simp only [IntKind.wrap, IntKind.signed, IntKind.bits, Bool.false_and, Bool.false_eq_true, if_false]
    simp
  simp only [evConvInt, this]
theorem Dshr_nat (a n : Nat) (h : n ≤ 64) (k : IntKind) : evBin .shr (.int .i64 (a : Int)) (.int k (n : Int)) = some (.int .i64 ((a / 2 ^ n : Nat) : Int)) := by
  have h0 : ¬ ((n : Int) < 0) := by omega
  have : (a : Int).fdiv (2 ^ n) = ((a / 2 ^ n : Nat) : Int) := by
    rw [Int.fdiv_eq_ediv_of_nonneg _ (by exact_mod_cast Nat.zero_le (2 ^ n))]
    norm_cast
  simp only [evBin, if_neg h0, IntKind.bits, Int.toNat_natCast, Nat.min_eq_left h, this]
theorem app_byte {A : Arena} {o : AV} {l : List UInt8} (h : Full A o 1 (bytesA l)) (hl : l.length ≤ 100000) (b : UInt8) :
    ∃ o' A', evAppend 1 1 A o (.fs 1 [.int .u8 (b.toNat : Int)]) = some (o', A') ∧ Full A' o' 1 (bytesA (l ++ [b])) ∧ A.length ≤ A'.length ∧ (∀ id, id < A.length → (∀ n, o ≠ .sl id 0 n) → A'[id]? = A[id]?) := by
  have := append_full (x := .fs 1 [.int .u8 (b.toNat : Int)]) (ys := [.int .u8 (b.toNat : Int)]) (bytes := 1) h rfl (by simp) (by omega) (by omega) (by rw [bytesA_len]; simp; omega)
  rw [show bytesA l ++ [.int .u8 (b.toNat : Int)] = bytesA (l ++ [b]) by simp [bytesA]] at this
  exact this

set_option maxRecDepth 100000 in
set_option maxHeartbeats 4000000 in
theorem loop27x0 (E : Env) (fuel : Nat) {s : List UInt8} (hs : s.length ≤ 5000) {h : List W32} (hh : h ≠ []) (v0 v2 : AV) : ∀ (c z : Nat) (A : Arena) (o : AV) (m : Nat), z + c = padN s.length → Full A o 1 (bytesA (s ++ [128] ++ List.replicate z 0)) → A[0]? = some (rowV h) → c < m →
    ∃ o' A' d6, iter (evC E fuel lp27x0) mask27x0 m (st27x0 v0 v2 o) A = some (.exit 0 ((st27x0 v0 v2 o').set 6 d6) A') ∧ Full A' o' 1 (bytesA (s ++ [128] ++ List.replicate (padN s.length) 0)) ∧ A'[0]? = some (rowV h) := by
  intro c
  induction c with
  | zero =>
    intro z A o m hz hF hA hm
    obtain ⟨m, rfl⟩ : ∃ j, m = j + 1 := ⟨m - 1, by omega⟩
    obtain rfl : z = padN s.length := by omega
    have hl := hF.len
    rw [bytesA_len] at hl
    have hlen : (s ++ [128] ++ List.replicate (padN s.length) 0).length % 64 = 56 := by simp [padN]; omega
    have r0 := rem_nat (s ++ [128] ++ List.replicate (padN s.length) 0).length 64 (by omega)
    have n0 := ne_nat ((s ++ [128] ++ List.replicate (padN s.length) 0).length % 64) 56 .i64
    rw [hlen] at n0 r0
    refine ⟨o, A, .bool false, ?_, hF, hA⟩
    rw [iter_succ, cl27x0]
    rw [show ((64 : Nat) : Int) = 64 from rfl, show ((56 : Nat) : Int) = 56 from rfl] at r0
    rw [show ((56 : Nat) : Int) = 56 from rfl] at n0
    generalize ((s ++ [128] ++ List.replicate (padN s.length) 0).length : Int) = N at *
    simp [lp27x0, hl, r0, n0, -evBin, -evLenSl]
  | succ c ih =>
    intro z A o m hz hF hA hm
    obtain ⟨m, rfl⟩ : ∃ j, m = j + 1 := ⟨m - 1, by omega⟩
    have hl := hF.len
    rw [bytesA_len] at hl
    have hpn : padN s.length < 64 := Nat.mod_lt _ (by omega)
    have hlen : ¬ ((s ++ [128] ++ List.replicate z 0).length % 64 = 56) := by
      have := hz
      simp [padN] at this ⊢; omega
    have hsm : (s ++ [128] ++ List.replicate z 0).length ≤ 100000 := by simp; omega
    have r0 := rem_nat (s ++ [128] ++ List.replicate z 0).length 64 (by omega)
    have n0 := ne_nat ((s ++ [128] ++ List.replicate z 0).length % 64) 56 .i64
    rw [decide_eq_false hlen] at n0
    obtain ⟨o1, A1, a1, a2, a3, a4⟩ := app_byte hF hsm 0
    rw [List.append_assoc _ _ [0], show List.replicate z (0 : UInt8) ++ [0] = List.replicate (z + 1) 0 from (List.replicate_succ' ..).symm] at a2
    have hlt := (List.getElem?_eq_some_iff.1 hA).1
    have hA1 : A1[0]? = some (rowV h) := (a4 0 hlt (hF.ne_words hA hh)).trans hA
    obtain ⟨o', A', d6, i1, i2, i3⟩ := ih (z + 1) A1 o1 m (by omega) a2 hA1 (by omega)
    refine ⟨o', A', d6, ?_, i2, i3⟩
    rw [show ((64 : Nat) : Int) = 64 from rfl] at r0
    rw [show ((56 : Nat) : Int) = 56 from rfl] at n0
    rw [show (((0 : UInt8).toNat : Nat) : Int) = 0 from rfl] at a1
    rw [iter_succ, cl27x0]
    generalize (((s ++ [128] ++ List.replicate z 0).length % 64 : Nat) : Int) = N2 at *
    generalize ((s ++ [128] ++ List.replicate z 0).length : Int) = N at *
    have hr : run E fuel [.code lp27x0] (st27x0 v0 v2 o) A = some (.normal (st27x0 v0 v2 o1) A1) := by
      simp [lp27x0, hl, r0, n0, a1, -evBin, -evLenSl]
    rw [hr]
    exact i1

set_option maxRecDepth 100000 in
set_option maxHeartbeats 4000000 in
theorem loop27x1 (E : Env) (fuel : Nat) {s l : List UInt8} (hs : s.length ≤ 5000) (hl5 : l.length ≤ 90000) {h : List W32} (hh : h ≠ []) (v2 : AV) : ∀ (c j : Nat) (A : Arena) (o : AV) (m : Nat), j + c = 8 → Full A o 1 (bytesA (l ++ (lenB s.length).take j)) → A[0]? = some (rowV h) → c < m →
    ∃ o' A' d4 d7, iter (evC E fuel lp27x1) mask27x1 m (st27x1 (.str s) v2 o (.int .i64 (7 - j))) A = some (.exit 2 (((st27x1 (.str s) v2 o' d4)).set 7 d7) A') ∧ Full A' o' 1 (bytesA (l ++ lenB s.length)) ∧ A'[0]? = some (rowV h) := by
  intro c
  induction c with
  | zero =>
    intro j A o m hj hF hA hm
    obtain ⟨m, rfl⟩ : ∃ j, m = j + 1 := ⟨m - 1, by omega⟩
    obtain rfl : j = 8 := by omega
    refine ⟨o, A, .int .i64 (-1), .bool false, ?_, hF, hA⟩
    have n0 : evBin .geq (.int .i64 (-1)) (.int .i64 0) = some (.bool false) := rfl
    rw [iter_succ, cl27x1]
    rw [show (7 - ((8 : Nat) : Int)) = -1 from rfl]
    simp [lp27x1, n0, -evBin]
  | succ c ih =>
    intro j A o m hj hF hA hm
    obtain ⟨m, rfl⟩ : ∃ j, m = j + 1 := ⟨m - 1, by omega⟩
    have hlt := (List.getElem?_eq_some_iff.1 hA).1
    obtain ⟨i, hi⟩ : ∃ i, i + j = 7 := ⟨7 - j, by omega⟩
    have hij : (7 - (j : Int)) = (i : Int) := by omega
    have hb : (lenB s.length).take (j + 1) = (lenB s.length).take j ++ [UInt8.ofNat (8 * s.length / 2 ^ (8 * i))] := by
      have : j = 0 ∨ j = 1 ∨ j = 2 ∨ j = 3 ∨ j = 4 ∨ j = 5 ∨ j = 6 ∨ j = 7 := by omega
      rcases this with rfl | rfl | rfl | rfl | rfl | rfl | rfl | rfl
      all_goals (first | (have hi' : i = 7 := (by omega); subst hi'; rfl) | (have hi' : i = 6 := (by omega); subst hi'; rfl) | (have hi' : i = 5 := (by omega); subst hi'; rfl) | (have hi' : i = 4 := (by omega); subst hi'; rfl) | (have hi' : i = 3 := (by omega); subst hi'; rfl) | (have hi' : i = 2 := (by omega); subst hi'; rfl) | (have hi' : i = 1 := (by omega); subst hi'; rfl) | (have hi' : i = 0 := (by omega); subst hi'; rfl))
    have hln : (lenB s.length).length = 8 := by simp [lenB]
    have hsm : (l ++ (lenB s.length).take j).length ≤ 100000 := by
      rw [List.length_append, List.length_take]; omega
    obtain ⟨o1, A1, a1, a2, a3, a4⟩ := app_byte hF hsm (UInt8.ofNat (8 * s.length / 2 ^ (8 * i)))
    rw [List.append_assoc, ← hb] at a2
    have hA1 : A1[0]? = some (rowV h) := (a4 0 hlt (hF.ne_words hA hh)).trans hA
    obtain ⟨o', A', d4, d7, i1, i2, i3⟩ := ih (j + 1) A1 o1 m (by omega) a2 hA1 (by omega)
    refine ⟨o', A', d4, d7, ?_, i2, i3⟩
    have n0 : evBin .geq (.int .i64 (i : Int)) (.int .i64 0) = some (.bool true) := by rw [bGe]; simp
    have m0 := Dmul_nat 8 s.length (by omega)
    have m1 := Dmul_nat 8 i (by omega)
    have sh := Dshr_nat (8 * s.length) (8 * i) (by omega) .i64
    have cv := conv8_n (8 * s.length / 2 ^ (8 * i)) .i64
    have q0 : evBin .sub (.int .i64 (i : Int)) (.int .i64 1) = some (.int .i64 (7 - ((j + 1 : Nat) : Int))) := by
      rw [bSub _ _ (by unfold inI; omega)]; congr 2; omega
    have ls : evLenStr (.str s) = some (.int .i64 (s.length : Int)) := by simp [evLenStr]
    rw [show ((8 : Nat) : Int) = 8 from rfl] at m0 m1
    rw [iter_succ, cl27x1, hij]
    generalize ((UInt8.ofNat (8 * s.length / 2 ^ (8 * i))).toNat : Int) = B at *
    generalize ((8 * s.length / 2 ^ (8 * i) : Nat) : Int) = Q at *
    generalize ((8 * i : Nat) : Int) = J at *
    generalize ((8 * s.length : Nat) : Int) = S8 at *
    generalize (s.length : Int) = S0 at *
    have hr : run E fuel [.code lp27x1] (st27x1 (.str s) v2 o (.int .i64 (i : Int))) A = some (.normal (st27x1 (.str s) v2 o1 (.int .i64 (7 - ((j + 1 : Nat) : Int)))) A1) := by
      generalize ((7 - ((j + 1 : Nat) : Int)) : Int) = I1 at *
      generalize (i : Int) = I0 at *
      simp [lp27x1, n0, m0, m1, sh, cv, ls, a1, q0, -evBin, -evConvInt, -evLenStr]
    rw [hr]
    exact i1
end Go.Proofs.YtgbnngmpaefbcaaDoor
/-
  Digest: Chunk (48, 60), Sum (27).
-/
namespace Go.Proofs.YtgbnngmpaefbcaaDoor
open Go

noncomputable def H48 : HModel := fun _ => evFun (envOf GD []) 100 mf48
theorem spec48 : FnSpecY Tryd.prog GD 48 H48 := (evFun_sound (envOf_sound lookM_nil) rfl at48 comp48 PureIn.nil).y
noncomputable def H60 : HModel := fun h => evFun (envY GD [] h) 100 mf60
theorem spec60 : FnSpecY Tryd.prog GD 60 H60 := evFun_soundY lookM_nil at60 comp60 PureIn.nil

theorem H48_eq (hd : Handler) (A : Arena) (id n : Nat) : H48 hd [.sl id 0 n, .int .i64 64] A = some (.func (.func 60) [] [.ptr A.length 0 0, .ptr (A.length + 1) 0 0], A ++ [.row 1 false [.sl id 0 n], .row 1 false [.int .i64 64]]) := by
  have l0 : evLoad false 1 (A ++ [.row 1 false [.sl id 0 n], .row 1 false [.int .i64 64]]) (.ptr (A.length + 1) 0 0) = some (.int .i64 64) := load_arr (es := [.int .i64 64]) (by simp) rfl rfl
  unfold H48
  rw [evFun_run _ _ rfl]
  have b0 : evBin .lss (.int .i64 64) (.int .i64 1) = some (.bool false) := rfl
  simp [mf48, l0, b0, -evLoad, -evBin]

theorem lo_nat (k : IntKind) (n : Nat) : loB (some (.int k (n : Int))) = some n := by simp [loB]
theorem hi_nat (k : IntKind) {n len : Nat} (h : n ≤ len) : hiB len (some (.int k (n : Int))) = some n := by
  have : (n : Int) ≤ (len : Int) := by omega
  simp [hiB, this]
theorem slice_lohi {A : Arena} {id off len lo hi e : Nat} {gr : Bool} {es : List AV} {k k' : IntKind} (hid : A[id]? = some (.row e gr es)) (h1 : lo ≤ hi) (h2 : hi ≤ len) : evSliceSl e A (some (.int k (lo : Int))) (some (.int k' (hi : Int))) (.sl id off len) = some (.sl id (off + lo) (hi - lo)) := by
  simp only [evSliceSl, hid, evBounds, lo_nat, hi_nat k' h2, if_pos h1, if_true, Option.map_some]
theorem slice_lo {A : Arena} {id off len lo e : Nat} {gr : Bool} {es : List AV} {k : IntKind} (hid : A[id]? = some (.row e gr es)) (h1 : lo ≤ len) : evSliceSl e A (some (.int k (lo : Int))) none (.sl id off len) = some (.sl id (off + lo) (len - lo)) := by
  simp only [evSliceSl, hid, evBounds, lo_nat, hiB, if_pos h1, if_true, Option.map_some]
theorem slice_hi {A : Arena} {id off len hi e : Nat} {gr : Bool} {es : List AV} {k : IntKind} (hid : A[id]? = some (.row e gr es)) (h1 : hi ≤ len) : evSliceSl e A none (some (.int k (hi : Int))) (.sl id off len) = some (.sl id off hi) := by
  simp only [evSliceSl, hid, evBounds, hi_nat k h1, loB, if_pos (Nat.zero_le _), if_true, Option.map_some, Nat.add_zero, Nat.sub_zero]
section
variable {a b id nb : Nat}
/-- what the iterator finds -/
structure ChunkAt (A : Arena) (a b id nb : Nat) (P : List UInt8) : Prop where
  ra : A[a]? = some (.row 1 false [.sl id 0 (64 * nb)])
  rb : A[b]? = some (.row 1 false [.int .i64 64])
  ri : ∃ gr, A[id]? = some (.row 1 gr (bytesA P))

set_option maxRecDepth 100000 in
set_option maxHeartbeats 4000000 in
theorem round60 (h : Handler) (L : Nat) {P : List UInt8} (hnb : nb ≤ 2000) {A B : Arena} (hA : ChunkAt A a b id nb P) (hB : ChunkAt B a b id nb P) {i : Nat} (hi : i < nb) (hy : h (.func (.yield L) [] []) [.csl id (64 * i) 64] A = some (.bool true, B)) :
    run (envY GD [] h) 100 [.code lp60x0] (st60x0 (.func (.yield L) [] []) (.ptr a 0 0) (.ptr b 0 0) (.int .i64 ((64 * i : Nat) : Int))) A =
      some (.normal (st60x0 (.func (.yield L) [] []) (.ptr a 0 0) (.ptr b 0 0) (.int .i64 ((64 * (i + 1) : Nat) : Int))) B) := by
  obtain ⟨gr, hri⟩ := hA.ri
  have la : evLoad false 1 A (.ptr a 0 0) = some (.sl id 0 (64 * nb)) := load_arr hA.ra rfl rfl
  have lb : evLoad false 1 A (.ptr b 0 0) = some (.int .i64 64) := load_arr hA.rb rfl rfl
  have lb2 : evLoad false 1 B (.ptr b 0 0) = some (.int .i64 64) := load_arr hB.rb rfl rfl
  have c0 := Dlt_nat (64 * i) (64 * nb) .i64
  rw [decide_eq_true (by omega)] at c0
  have ln : evLenSl (.sl id 0 (64 * nb)) = some (.int .i64 ((64 * nb : Nat) : Int)) := rfl
  have s0 : evSliceSl 1 A (some (.int .i64 ((64 * i : Nat) : Int))) none (.sl id 0 (64 * nb)) = some (.sl id (64 * i) (64 * nb - 64 * i)) := by
    rw [slice_lo hri (by omega), Nat.zero_add]
  have ln2 : evLenSl (.sl id (64 * i) (64 * nb - 64 * i)) = some (.int .i64 ((64 * nb - 64 * i : Nat) : Int)) := rfl
  have mn : evMinL false (.int .i64 64) [.int .i64 ((64 * nb - 64 * i : Nat) : Int)] = some (.int .i64 64) := by
    have := min2_nat 64 (64 * nb - 64 * i) .i64 .i64
    simp only [evMinL]
    rw [show (.int .i64 64 : AV) = .int .i64 ((64 : Nat) : Int) from rfl, this, show min 64 (64 * nb - 64 * i) = 64 by omega]
  have p0 := Dadd_nat (64 * i) 64 (by omega)
  have s1 : evSliceM 1 A (some (.int .i64 ((64 * i : Nat) : Int))) (.int .i64 ((64 * i + 64 : Nat) : Int)) (.int .i64 ((64 * i + 64 : Nat) : Int)) (.sl id 0 (64 * nb)) = some (.csl id (64 * i) 64) := by
    have e : evSliceSl 1 A (some (.int .i64 ((64 * i : Nat) : Int))) (some (.int .i64 ((64 * i + 64 : Nat) : Int))) (.sl id 0 (64 * nb)) = some (.sl id (64 * i) 64) := by
      rw [slice_lohi hri (by omega) (by omega), Nat.zero_add, Nat.add_sub_cancel_left]
    simp only [evSliceM, if_true, e]
  rw [show ((64 : Nat) : Int) = 64 from rfl] at p0
  rw [show 64 * (i + 1) = 64 * i + 64 by omega]
  generalize ((64 * i + 64 : Nat) : Int) = I1 at *
  generalize ((64 * nb - 64 * i : Nat) : Int) = D at *
  generalize ((64 * nb : Nat) : Int) = N at *
  generalize ((64 * i : Nat) : Int) = I0 at *
  simp [lp60x0, la, lb, lb2, c0, ln, s0, ln2, mn, p0, s1, hy, -evBin, -evLoad, -evSliceSl, -evSliceM, -evLenSl, -evMinL]
theorem loop60 (h : Handler) (L : Nat) {P : List UInt8} (hnb : nb ≤ 2000) {I : Nat → Arena → Prop} (hI : ∀ i A, I i A → ChunkAt A a b id nb P)
    (hs : ∀ i, i < nb → ∀ A, I i A → ∃ B, h (.func (.yield L) [] []) [.csl id (64 * i) 64] A = some (.bool true, B) ∧ I (i + 1) B) : ∀ (c i : Nat) (A : Arena) (m : Nat), i + c = nb → I i A → c < m →
    ∃ B, iter (evC (envY GD [] h) 100 lp60x0) mask60x0 m (st60x0 (.func (.yield L) [] []) (.ptr a 0 0) (.ptr b 0 0) (.int .i64 ((64 * i : Nat) : Int))) A = some (.exit 0 ((st60x0 (.func (.yield L) [] []) (.ptr a 0 0) (.ptr b 0 0) (.int .i64 ((64 * nb : Nat) : Int))).set 5 (.bool false)) B) ∧ I nb B := by
  intro c
  induction c with
  | zero =>
    intro i A m hi hA hm
    obtain ⟨m, rfl⟩ : ∃ j, m = j + 1 := ⟨m - 1, by omega⟩
    obtain rfl : i = nb := by omega
    refine ⟨A, ?_, hA⟩
    have la : evLoad false 1 A (.ptr a 0 0) = some (.sl id 0 (64 * i)) := load_arr (hI _ _ hA).ra rfl rfl
    have c0 := Dlt_nat (64 * i) (64 * i) .i64
    rw [decide_eq_false (by omega)] at c0
    have ln : evLenSl (.sl id 0 (64 * i)) = some (.int .i64 ((64 * i : Nat) : Int)) := rfl
    rw [iter_succ, cl60x0]
    generalize ((64 * i : Nat) : Int) = N at *
    simp [lp60x0, la, c0, ln, -evBin, -evLoad, -evLenSl]
  | succ c ih =>
    intro i A m hi hA hm
    obtain ⟨m, rfl⟩ : ∃ j, m = j + 1 := ⟨m - 1, by omega⟩
    obtain ⟨B, h1, h2⟩ := hs i (by omega) A hA
    obtain ⟨C, h3, h4⟩ := ih (i + 1) B m (by omega) h2 (by omega)
    refine ⟨C, ?_, h4⟩
    rw [iter_succ, cl60x0, round60 h L hnb (hI _ _ hA) (hI _ _ h2) (by omega) h1]
    exact h3
theorem H60_eq (h : Handler) (L : Nat) {P : List UInt8} (hnb : nb ≤ 90) {I : Nat → Arena → Prop} (hI : ∀ i A, I i A → ChunkAt A a b id nb P)
    (hs : ∀ i, i < nb → ∀ A, I i A → ∃ B, h (.func (.yield L) [] []) [.csl id (64 * i) 64] A = some (.bool true, B) ∧ I (i + 1) B) {A : Arena} (hA : I 0 A) :
    ∃ B, H60 h [.func (.yield L) [] [], .ptr a 0 0, .ptr b 0 0] A = some (.tup [], B) ∧ I nb B := by
  obtain ⟨B, lp, hB⟩ := loop60 h L (by omega) hI hs nb 0 A 100 (by omega) hA (by omega)
  refine ⟨B, ?_, hB⟩
  unfold H60
  rw [evFun_run _ _ rfl]
  rw [show ((64 * 0 : Nat) : Int) = 0 from rfl] at lp
  simp [mf60, go60x0 lp, pack]
end

theorem yieldH_normal {E : Env} {fuel n0 l : Nat} {r : Loop} {σ σ1 σ2 σ3 args : List AV} {ps : List Nat} {asg bdy : MC} {h : Handler} {A A2 A3 : Arena} (h1 : A[n0]? = some (.loop r 0)) (h2 : setAll σ ps args = some σ1)
    (h3 : run E fuel [.code asg] σ1 A = some (.normal σ2 A2)) (h4 : A2[n0]? = some (.loop r 0)) (h5 : run E fuel [.code bdy] σ2 (A2.set n0 .dead) = some (.normal σ3 A3)) :
    yieldH n0 l r σ ps (evC E fuel asg) (evC E fuel bdy) h (.func (.yield l) [] []) args A = some (.bool true, A3.set n0 (.loop r 0)) := by
  unfold yieldH
  simp only [evC_run, h1, h2, h3, h4, h5, and_self, if_true]

def H0 : List W32 := [1779033703, 3144134277, 1013904242, 2773480762, 1359893119, 2600822924, 528734635, 1541459225]
def hsT (P : List UInt8) : Nat → List W32
  | 0 => H0
  | n + 1 => addT (hsT P n) ((P.drop (64 * n)).take 64)
theorem hsT_len (P : List UInt8) : ∀ n, (hsT P n).length = 8
  | 0 => rfl
  | n + 1 => addT_len (hsT_len P n) _
/-- the digest of a string -/
def sumT (s : List UInt8) : List UInt8 := digT (hsT (padT s) ((s.length + 72) / 64))
theorem sumT_len (s : List UInt8) : (sumT s).length = 32 := digT_len (hsT_len _ _)

noncomputable def fs27 : List (FuncId × HModel) := [(48, H48), (60, H60), (49, H49), (50, pureH 4 M50)]
@[simp] theorem fs27_48 : lookM fs27 48 = some H48 := rfl
@[simp] theorem fs27_60 : lookM fs27 60 = some H60 := rfl
@[simp] theorem fs27_49 : lookM fs27 49 = some H49 := rfl
@[simp] theorem fs27_50 : lookM fs27 50 = some (pureH 4 M50) := rfl
theorem sound27 : ∀ f M, lookM fs27 f = some M → FnSpecY Tryd.prog GD f M := lookM_cons spec48 (lookM_cons spec60 (lookM_cons spec49 (lookM_cons (FnSpecY.of_pure spec50 4) lookM_nil)))

theorem frz_csl {A : Arena} {id o n : Nat} {gr : Bool} {P : List UInt8} (h : A[id]? = some (.row 1 gr (bytesA P))) (k : Nat) : frz A (k + 1) (.csl id o n) = .fs 1 (bytesA ((P.drop o).take n)) := by
  simp only [frz, h, bytesA, ← List.map_drop, ← List.map_take, List.map_map]
  congr 1
  apply List.map_congr_left
  intro x _
  cases k <;> rfl
theorem set_setAll {v0 v1 v2 v3 v4 v5 v6 v7 v8 v9 c : AV} : setAll [v0, v1, v2, v3, v4, v5, v6, v7, v8, v9] [9] [c] = some [v0, v1, v2, v3, v4, v5, v6, v7, v8, c] := rfl
theorem set_dead_back {A : Arena} {n0 : Nat} {e RR : Ent} {J : Arena} (hn : A[n0]? = some e) (hn0 : n0 ≠ 0) : ((A.set n0 .dead).set 0 RR ++ J).set n0 e = A.set 0 RR ++ J := by
  have hln := (List.getElem?_eq_some_iff.1 hn).1
  have h1 : n0 < ((A.set n0 .dead).set 0 RR).length := by simpa using hln
  rw [List.set_append_left _ _ h1]
  congr 1
  apply List.ext_getElem?
  intro k
  by_cases hk : k = n0
  · subst hk
    rw [List.getElem?_set_self h1, List.getElem?_set_ne (Ne.symm hn0), hn]
  · rw [List.getElem?_set_ne (Ne.symm hk)]
    by_cases h0 : k = 0
    · subst h0
      by_cases hA : 0 < A.length
      · rw [List.getElem?_set_self (by simpa using hA), List.getElem?_set_self hA]
      · omega
    · rw [List.getElem?_set_ne (Ne.symm h0), List.getElem?_set_ne (Ne.symm hk), List.getElem?_set_ne (Ne.symm h0)]
theorem yield27 (hd : Handler) {P : List UInt8} {i n0 L id : Nat} {r : Loop} {v0 v1 v3 v4 v5 v6 v7 v8 v9 : AV} {A : Arena} (hP : 64 * i + 64 ≤ P.length) (hn : A[n0]? = some (.loop r 0)) (h0 : A[0]? = some (rowV (hsT P i))) {gr : Bool} (hid : A[id]? = some (.row 1 gr (bytesA P))) (hn0 : n0 ≠ 0) (hni : n0 ≠ id) :
    yieldH n0 L r [v0, v1, .ptr 0 0 0, v3, v4, v5, v6, v7, v8, v9] [9] (evC (envY GD fs27 hd) 100 lp27x2) (evC (envY GD fs27 hd) 100 lp27x3) hd (.func (.yield L) [] []) [.csl id (64 * i) 64] A =
      some (.bool true, A.set 0 (rowV (hsT P (i + 1))) ++ J49 (hsT P i) ((P.drop (64 * i)).take 64)) := by
  have hl0 := (List.getElem?_eq_some_iff.1 h0).1
  have hln := (List.getElem?_eq_some_iff.1 hn).1
  have hJ := H49_eq hd (A := A.set n0 .dead) (q := 0) (h := hsT P i) (hsT_len P i) (by rw [List.getElem?_set_ne hn0]; exact h0) (c := .csl id (64 * i) 64) (b := (P.drop (64 * i)).take 64) (by simp; omega) (frz_csl (by rw [List.getElem?_set_ne hni]; exact hid) 3)
  rw [← hsT] at hJ
  generalize J49 (hsT P i) ((P.drop (64 * i)).take 64) = J at *
  have ha : run (envY GD fs27 hd) 100 [.code lp27x2] [v0, v1, .ptr 0 0 0, v3, v4, v5, v6, v7, v8, .csl id (64 * i) 64] A = some (.normal [v0, v1, .ptr 0 0 0, v3, v4, .csl id (64 * i) 64, v6, v7, v8, .csl id (64 * i) 64] A) := by simp [lp27x2]
  have hb : run (envY GD fs27 hd) 100 [.code lp27x3] [v0, v1, .ptr 0 0 0, v3, v4, .csl id (64 * i) 64, v6, v7, v8, .csl id (64 * i) 64] (A.set n0 .dead) = some (.normal [.undef, .undef, .undef, .undef, .undef, .undef, .undef, .undef, .undef, .undef] ((A.set n0 .dead).set 0 (rowV (hsT P (i + 1))) ++ J)) := by
    generalize rowV (hsT P (i + 1)) = RR at *
    simp [lp27x3, hJ]
  have he := set_dead_back (RR := rowV (hsT P (i + 1))) (J := J) hn hn0
  have hy := yieldH_normal (l := L) (h := hd) hn (set_setAll (v0 := v0) (v1 := v1) (v2 := .ptr 0 0 0) (v3 := v3) (v4 := v4) (v5 := v5) (v6 := v6) (v7 := v7) (v8 := v8) (v9 := v9) (c := .csl id (64 * i) 64)) ha hn hb
  rw [he] at hy
  exact hy

/-- the memory behind some blocks -/
def YA (P : List UInt8) (X : Arena) : Nat → Arena
  | 0 => X
  | i + 1 => (YA P X i).set 0 (rowV (hsT P (i + 1))) ++ J49 (hsT P i) ((P.drop (64 * i)).take 64)
theorem YA_len (P : List UInt8) (X : Arena) : ∀ i, X.length ≤ (YA P X i).length
  | 0 => Nat.le_refl _
  | i + 1 => by have := YA_len P X i; simp only [YA, List.length_append, List.length_set]; omega
theorem YA_get (P : List UInt8) (X : Arena) {k : Nat} (hk : k < X.length) (h0 : k ≠ 0) : ∀ i, (YA P X i)[k]? = X[k]?
  | 0 => rfl
  | i + 1 => by
    have := YA_len P X i
    rw [YA, List.getElem?_append_left (by simp; omega), List.getElem?_set_ne (Ne.symm h0), YA_get P X hk h0 i]
theorem YA_zero (P : List UInt8) (X : Arena) (hX : X[0]? = some (rowV (hsT P 0))) : ∀ i, (YA P X i)[0]? = some (rowV (hsT P i))
  | 0 => hX
  | i + 1 => by
    have := YA_len P X i
    have hl := (List.getElem?_eq_some_iff.1 hX).1
    rw [YA, List.getElem?_append_left (by simp; omega), List.getElem?_set_self (by omega)]
theorem YA_set (P : List UInt8) (X : Arena) {k : Nat} (hk : k < X.length) (h0 : k ≠ 0) (e : Ent) : ∀ i, (YA P X i).set k e = YA P (X.set k e) i
  | 0 => rfl
  | i + 1 => by
    have := YA_len P X i
    rw [YA, YA, List.set_append_left _ _ (by simp; omega), List.set_comm _ _ (Ne.symm h0), YA_set P X hk h0 e i]

set_option maxRecDepth 100000 in
theorem range27 {P : List UInt8} {nb a b id : Nat} {X : Arena} (hP : P.length = 64 * nb) (hnb : nb ≤ 90) (hc : ChunkAt X a b id nb P) (hX : X[0]? = some (rowV (hsT P 0))) (ha : a ≠ 0) (hb : b ≠ 0) (hi : id ≠ 0) (o : AV) (K : List KC) :
    run (envOf GD fs27) 100 (.code (.rangeFunc (.var 8) [9] lp27x2 lp27x3) :: K) [.undef, .undef, .ptr 0 0 0, o, .undef, .undef, .undef, .undef, .func (.func 60) [] [.ptr a 0 0, .ptr b 0 0], .undef] X =
      after (envOf GD fs27) 100 K (.normal [.undef, .undef, .ptr 0 0 0, o, .undef, .undef, .undef, .undef, .func (.func 60) [] [.ptr a 0 0, .ptr b 0 0], .undef] (YA P (X ++ [.dead]) nb)) := by
  refine run_rangeFunc _ _ _ _ _ fun L r => ?_
  have hal := (List.getElem?_eq_some_iff.1 hc.ra).1
  have hbl := (List.getElem?_eq_some_iff.1 hc.rb).1
  have h0l := (List.getElem?_eq_some_iff.1 hX).1
  obtain ⟨gr, hri⟩ := hc.ri
  have hil := (List.getElem?_eq_some_iff.1 hri).1
  have old : ∀ {k : Nat}, k < X.length → (X ++ [Ent.loop r 0])[k]? = X[k]? := fun h => List.getElem?_append_left h
  have hX' : (X ++ [Ent.loop r 0])[0]? = some (rowV (hsT P 0)) := (old h0l).trans hX
  have hI : ∀ i A, A = YA P (X ++ [Ent.loop r 0]) i → ChunkAt A a b id nb P := by
    rintro i _ rfl
    refine ⟨?_, ?_, gr, ?_⟩
    · rw [YA_get P _ (by simp; omega) ha, old hal]; exact hc.ra
    · rw [YA_get P _ (by simp; omega) hb, old hbl]; exact hc.rb
    · rw [YA_get P _ (by simp; omega) hi, old hil]; exact hri
  have hs : ∀ i, i < nb → ∀ A, A = YA P (X ++ [Ent.loop r 0]) i → ∃ B, yieldH X.length L r [.undef, .undef, .ptr 0 0 0, o, .undef, .undef, .undef, .undef, .func (.func 60) [] [.ptr a 0 0, .ptr b 0 0], .undef] [9] (evC (envY GD fs27 fun _ _ _ => none) 100 lp27x2) (evC (envY GD fs27 fun _ _ _ => none) 100 lp27x3) (fun _ _ _ => none) (.func (.yield L) [] []) [.csl id (64 * i) 64] A = some (.bool true, B) ∧ B = YA P (X ++ [Ent.loop r 0]) (i + 1) := by
    rintro i hib _ rfl
    refine ⟨_, yield27 _ (gr := gr) (by omega) ?_ (YA_zero P _ hX' i) ?_ (by omega) (by omega), rfl⟩
    · rw [YA_get P _ (by simp) (by omega)]; simp
    · rw [YA_get P _ (by simp; omega) hi, old hil]; exact hri
  obtain ⟨B, hB, rfl⟩ := H60_eq _ L hnb (I := fun i A => A = YA P (X ++ [Ent.loop r 0]) i) hI hs (A := X ++ [Ent.loop r 0]) rfl
  have hcall : callM fs27 (yieldH X.length L r [.undef, .undef, .ptr 0 0 0, o, .undef, .undef, .undef, .undef, .func (.func 60) [] [.ptr a 0 0, .ptr b 0 0], .undef] [9] (evC (envY GD fs27 fun _ _ _ => none) 100 lp27x2) (evC (envY GD fs27 fun _ _ _ => none) 100 lp27x3) (fun _ _ _ => none))
      (.func (.func 60) [] [.ptr a 0 0, .ptr b 0 0]) [.func (.yield L) [] []] (X ++ [Ent.loop r 0]) = _ := hB
  show (match callM fs27 _ (.func (.func 60) [] [.ptr a 0 0, .ptr b 0 0]) [.func (.yield L) [] []] (X ++ [Ent.loop r 0]) with
    | some (_, A') => afterR X.length _ A'
    | none => none) = _
  erw [hcall]
  have e1 : (YA P (X ++ [Ent.loop r 0]) nb)[X.length]? = some (.loop r 0) := by
    rw [YA_get P _ (by simp) (by omega)]; simp
  simp only [afterR, e1]
  rw [YA_set P _ (by simp) (by omega)]
  simp
end Go.Proofs.YtgbnngmpaefbcaaDoor
/-
  Digest: Sum (27), as a whole.
-/
namespace Go.Proofs.YtgbnngmpaefbcaaDoor
open Go

noncomputable def M27 : PModel := fun args => evP (envOf GD fs27) 100 mf27 1 args
theorem spec27 : PureSpec Tryd.prog GD 27 M27 := PureSpec.of_ev (E := envOf GD fs27) (envOf_sound sound27) rfl at27 comp27 1 fun _ _ h => ⟨100, h⟩
theorem H0A : wsA H0 = .agg [.int .u32 1779033703, .int .u32 3144134277, .int .u32 1013904242, .int .u32 2773480762, .int .u32 1359893119, .int .u32 2600822924, .int .u32 528734635, .int .u32 1541459225] := rfl
set_option maxRecDepth 100000 in
set_option maxHeartbeats 4000000 in
theorem M27_eq {s : List UInt8} (hs : s.length ≤ 5000) : M27 [.str s] = some (.str (sumT s)) := by
  obtain ⟨nb, hnb⟩ : ∃ nb, nb = (s.length + 72) / 64 := ⟨_, rfl⟩
  have hn90 : nb ≤ 90 := by omega
  have hPl : (padT s).length = 64 * nb := by rw [hnb]; exact padT_len s
  have hH : H0 ≠ [] := by simp [H0]
  have al : evAllocA [.int .u32 0, .int .u32 0, .int .u32 0, .int .u32 0, .int .u32 0, .int .u32 0, .int .u32 0, .int .u32 0] [] = some (.ptr 0 0 0, [.row 1 false [.int .u32 0, .int .u32 0, .int .u32 0, .int .u32 0, .int .u32 0, .int .u32 0, .int .u32 0, .int .u32 0]]) := rfl
  have sa : evStoreA 8 [.row 1 false [.int .u32 0, .int .u32 0, .int .u32 0, .int .u32 0, .int .u32 0, .int .u32 0, .int .u32 0, .int .u32 0]] (.ptr 0 0 0) (wsA H0) = some [rowV H0] := by
    rw [storeA_row (n := 8) (es := [.int .u32 0, .int .u32 0, .int .u32 0, .int .u32 0, .int .u32 0, .int .u32 0, .int .u32 0, .int .u32 0]) rfl rfl (by omega) rfl]; rfl
  rw [H0A] at sa
  have tb : evToBytes [rowV H0] (.str s) = some (.sl 1 0 s.length, [rowV H0, .row 1 false (bytesA s)]) := rfl
  have hF0 : Full [rowV H0, .row 1 false (bytesA s)] (.sl 1 0 s.length) 1 (bytesA s) := .inr ⟨1, false, by rw [bytesA_len], rfl⟩
  obtain ⟨o1, A1, a1, f1, _, k1⟩ := app_byte hF0 (by omega) 128
  have h1 : A1[0]? = some (rowV H0) := k1 0 (by simp) (hF0.ne_words (r := 0) rfl hH)
  obtain ⟨o2, A2, d6, lp0, f2, h2⟩ := loop27x0 (envOf GD fs27) 100 hs hH (.str s) (.ptr 0 0 0) (padN s.length) 0 A1 o1 100 (by omega) (by simpa using f1) h1 (by unfold padN; omega)
  have hp : (s ++ [128] ++ List.replicate (padN s.length) 0).length ≤ 90000 := by simp [padN]; omega
  obtain ⟨o3, A3, d4, d7, lp1, f3, h3⟩ := loop27x1 (envOf GD fs27) 100 hs hp hH (.ptr 0 0 0) 8 0 A2 o2 100 rfl (by simpa using f2) h2 (by omega)
  change Full A3 o3 1 (bytesA (padT s)) at f3
  have hne : bytesA (padT s) ≠ [] := by
    intro h
    have := congrArg List.length h
    rw [bytesA_len, hPl, List.length_nil] at this
    omega
  have hw := f3.ne_words h3 hH
  obtain ⟨id, gr, ho3, hid⟩ : ∃ id gr, o3 = .sl id 0 (64 * nb) ∧ A3[id]? = some (.row 1 gr (bytesA (padT s))) := by
    rcases f3 with ⟨_, h⟩ | ⟨id, gr, h1, h2⟩
    · exact absurd h hne
    · exact ⟨id, gr, by rw [h1, bytesA_len, hPl], h2⟩
  subst ho3
  have hi0 : id ≠ 0 := by rintro rfl; exact hw _ rfl
  have hidl := (List.getElem?_eq_some_iff.1 hid).1
  have h0l := (List.getElem?_eq_some_iff.1 h3).1
  obtain ⟨X, hX⟩ : ∃ X, X = A3 ++ [Ent.row 1 false [.sl id 0 (64 * nb)], .row 1 false [.int .i64 64]] := ⟨_, rfl⟩
  have c48 := fun hd => H48_eq hd A3 id (64 * nb)
  have hX0 : X[0]? = some (rowV (hsT (padT s) 0)) := by rw [hX, List.getElem?_append_left h0l]; exact h3
  have hch : ChunkAt X A3.length (A3.length + 1) id nb (padT s) := ⟨by rw [hX]; simp, by rw [hX]; simp, gr, by rw [hX, List.getElem?_append_left hidl]; exact hid⟩
  have rg := fun K => range27 hPl hn90 hch hX0 (by omega) (by omega) hi0 (.sl id 0 (64 * nb)) K
  have ld : evLoad true 8 (YA (padT s) (X ++ [.dead]) nb) (.ptr 0 0 0) = some (wsA (hsT (padT s) nb)) := load_row (YA_zero _ _ (by rw [List.getElem?_append_left (by rw [hX]; simp)]; exact hX0) nb) (hsT_len _ _) (by omega)
  have m := M50_eq (hsT_len (padT s) nb)
  have hsum : sumT s = digT (hsT (padT s) nb) := by rw [hnb]; rfl
  rw [← hX] at c48
  rw [← hsum] at m
  have fz := fun A => frz_agg (A := A) (l := hsT (padT s) nb) 3
  have sc : scalarB 4 (.str (sumT s)) = true := rfl
  rw [show (((128 : UInt8).toNat : Nat) : Int) = 128 from rfl] at a1
  rw [show (7 - ((0 : Nat) : Int)) = 7 from rfl] at lp1
  unfold M27
  rw [evP_run _ _ rfl]
  unfold mf27
  generalize wsA (hsT (padT s) nb) = WS at *
  generalize YA (padT s) (X ++ [.dead]) nb = Y at *
  generalize sumT s = ST at *
  clear hsum hX hX0 hch hid f3 f2 f1 hF0 h1 h2 h3 k1 hw hp hH hPl hne
  simp [al, sa, tb, a1, go27x0 lp0, go27x1 lp1, c48, rg, ld, m, fz, -evAllocA, -evToBytes, -evLoad, -evBin]
end Go.Proofs.YtgbnngmpaefbcaaDoor
/-
  Digest: strings.Join and bits.Len by the library's contracts (printed by the kit's lay-shelf and lay-plain).
-/
namespace Go.Proofs
open Go.Shelf
def Tryd.lays156_ren : Go.Shelf.Ren := ⟨fun | 156 => 59 | 165 => 68 | 166 => 69 | 169 => 70 | 240 => 72 | 241 => 73 | 276 => 74 | 277 => 75 | n => n, fun | 31 => 22 | 9 => 9 | 3 => 3 | 4 => 4 | 0 => 0 | 20 => 20 | 72 => 95 | 76 => 99 | 70 => 93 | 37 => 45 | 75 => 98 | 127 => 101 | 164 => 102 | 5 => 5 | 80 => 71 | n => n, fun | n => n⟩
theorem Tryd.lays156 : Go.Proofs.Lays.n156 Tryd.prog Tryd.lays156_ren := {
  mixed := by kernel_rfl
  f156 := Tryd.func59.trans (congrArg some (by kernel_rfl))
  f165 := Tryd.func68.trans (congrArg some (by kernel_rfl))
  f166 := Tryd.func69.trans (congrArg some (by kernel_rfl))
  f169 := Tryd.func70.trans (congrArg some (by kernel_rfl))
  f240 := Tryd.func72.trans (congrArg some (by kernel_rfl))
  f241 := Tryd.func73.trans (congrArg some (by kernel_rfl))
  f276 := Tryd.func74.trans (congrArg some (by kernel_rfl))
  f277 := Tryd.func75.trans (congrArg some (by kernel_rfl))
  t0 := Tryd.underlying0
  a0 := Tryd.isAgg0
  z0 := Tryd.sizeOf0
  v0 := Tryd.zeroValue0
  t3 := Tryd.underlying3
  a3 := Tryd.isAgg3
  z3 := Tryd.sizeOf3
  v3 := Tryd.zeroValue3
  t4 := Tryd.underlying4
  a4 := Tryd.isAgg4
  z4 := Tryd.sizeOf4
  v4 := Tryd.zeroValue4
  t9 := Tryd.underlying9
  a9 := Tryd.isAgg9
  z9 := Tryd.sizeOf9
  v9 := Tryd.zeroValue9
  t20 := Tryd.underlying20
  a20 := Tryd.isAgg20
  z20 := Tryd.sizeOf20
  v20 := Tryd.zeroValue20
  t31 := Tryd.underlying22
  a31 := Tryd.isAgg22
  z31 := Tryd.sizeOf22
  v31 := Tryd.zeroValue22
  t37 := Tryd.underlying45
  a37 := Tryd.isAgg45
  z37 := Tryd.sizeOf45
  v37 := Tryd.zeroValue45
  t70 := Tryd.underlying93
  a70 := Tryd.isAgg93
  z70 := Tryd.sizeOf93
  v70 := Tryd.zeroValue93
  t72 := Tryd.underlying95
  a72 := Tryd.isAgg95
  z72 := Tryd.sizeOf95
  v72 := Tryd.zeroValue95
  t75 := Tryd.underlying98
  a75 := Tryd.isAgg98
  z75 := Tryd.sizeOf98
  v75 := Tryd.zeroValue98
  t76 := Tryd.underlying99
  a76 := Tryd.isAgg99
  z76 := Tryd.sizeOf99
  v76 := Tryd.zeroValue99
  t127 := Tryd.underlying101
  a127 := Tryd.isAgg101
  z127 := Tryd.sizeOf101
  v127 := Tryd.zeroValue101
  t164 := Tryd.underlying102
  a164 := Tryd.isAgg102
  z164 := Tryd.sizeOf102
  v164 := Tryd.zeroValue102 }
theorem Tryd.Builder_Extra_156 : Builder.Extra Tryd.prog Tryd.lays156_ren := {
  sizeBuilder := by kernel_rfl
  liesBuilder := by kernel_rfl
  t5 := Tryd.underlying5
  a5 := Tryd.isAgg5
  z5 := Tryd.sizeOf5
  v5 := Tryd.zeroValue5
  infoByte := by kernel_rfl
  cellsByte := by kernel_rfl
  sizeByte := by kernel_rfl
  neB5 := by decide }
open Go.RowKit in
theorem Tryd.strings_Join_none (a : Option Addr) (c : Nat) (sep : ByteArray) (w : World) :
    Calls Tryd.prog 59 #[.slice a 0 c, .string sep] w fun e w' => e = .returned (.string ⟨#[]⟩) ∧ w' = w := Any.strings_Join_none Tryd.lays156 Tryd.Builder_Extra_156 a c sep w
open Go.RowKit in
theorem Tryd.strings_Join (bk o c : Nat) (xs : List ByteArray) (sep : ByteArray) (w : World) (hcells : ∀ (j : Nat) x, xs[j]? = some x → w.cell? ⟨bk, o + j, none⟩ = some (.string x)) (hbk : bk < w.heap.size) (hN : xs.length ≤ 140737488355328) (hcap : xs.length ≤ c) (hlen : (Lib.join (xs.map (·.data.toList)) sep.data.toList).length ≤ 140737488355328) :
    Calls Tryd.prog 59 #[.slice (some ⟨bk, o, none⟩) xs.length c, .string sep] w fun e w' => e = .returned (.string ⟨(Lib.join (xs.map (·.data.toList)) sep.data.toList).toArray⟩) ∧ Below w.heap.size w w' := Any.strings_Join Tryd.lays156 Tryd.Builder_Extra_156 bk o c xs sep w hcells hbk hN hcap hlen
def Tryd.lays125_ren : Go.Shelf.Ren := ⟨fun | 125 => 53 | 128 => 65 | 129 => 66 | n => n, fun | 46 => 75 | 3 => 3 | 51 => 64 | 53 => 91 | 4 => 4 | 5 => 5 | 9 => 9 | n => n, fun | n => n⟩
theorem Tryd.lays125 : Go.Proofs.Lays.n125 Tryd.prog Tryd.lays125_ren := {
  mixed := by kernel_rfl
  f125 := Tryd.func53.trans (congrArg some (by kernel_rfl))
  f128 := Tryd.func65.trans (congrArg some (by kernel_rfl))
  f129 := Tryd.func66.trans (congrArg some (by kernel_rfl))
  t3 := Tryd.underlying3
  a3 := Tryd.isAgg3
  z3 := Tryd.sizeOf3
  v3 := Tryd.zeroValue3
  t4 := Tryd.underlying4
  a4 := Tryd.isAgg4
  z4 := Tryd.sizeOf4
  v4 := Tryd.zeroValue4
  t5 := Tryd.underlying5
  a5 := Tryd.isAgg5
  z5 := Tryd.sizeOf5
  v5 := Tryd.zeroValue5
  t9 := Tryd.underlying9
  a9 := Tryd.isAgg9
  z9 := Tryd.sizeOf9
  v9 := Tryd.zeroValue9
  t46 := Tryd.underlying75
  a46 := Tryd.isAgg75
  z46 := Tryd.sizeOf75
  v46 := Tryd.zeroValue75
  t51 := Tryd.underlying64
  a51 := Tryd.isAgg64
  z51 := Tryd.sizeOf64
  v51 := Tryd.zeroValue64
  t53 := Tryd.underlying91
  a53 := Tryd.isAgg91
  z53 := Tryd.sizeOf91
  v53 := Tryd.zeroValue91 }
theorem Tryd.bits_Len (x : Int) (w : World) (h0 : 0 ≤ x) (h1 : x ≤ 18446744073709551615) :
    Calls Tryd.prog 53 #[.int .u64 x] w fun e w' => e = .returned (.int .i64 (Lib.bitLen x.toNat)) ∧ w' = w := Any.bits_Len Tryd.lays125 x w h0 h1
end Go.Proofs
/-
  Digest: strings.Join (59), bits.Len (53), left (37).
-/
namespace Go.Proofs.YtgbnngmpaefbcaaDoor
open Go

/-- a list of strings -/
def strA (l : List UInt8) : AV := .str l
def strsA (l : List (List UInt8)) : List AV := l.map strA
def strsOf : List AV → Option (List (List UInt8))
  | [] => some []
  | .str l :: r => (strsOf r).map (l :: ·)
  | _ :: _ => none
theorem strsOf_some : ∀ {es : List AV} {l : List (List UInt8)}, strsOf es = some l → es = strsA l
  | [], l, h => by injection h with h; subst h; rfl
  | .str x :: r, l, h => by
    simp only [strsOf, Option.map_eq_some_iff] at h
    obtain ⟨m, h1, rfl⟩ := h
    rw [strsOf_some h1]; rfl
theorem strsOf_strsA : ∀ l : List (List UInt8), strsOf (strsA l) = some l
  | [] => rfl
  | a :: r => by rw [show strsA (a :: r) = .str a :: strsA r from rfl, strsOf, strsOf_strsA r]; rfl

noncomputable def M59 : PModel := fun args => match args with
  | [.fs 1 es, .str sep] => (strsOf es).bind fun l => if (Lib.join l sep).length ≤ 140737488355328 ∧ l.length ≤ 140737488355328 then some (.str (Lib.join l sep)) else none
  | _ => none
theorem spec59 : PureSpec Tryd.prog GD 59 M59 := by
  refine ⟨fun args w => enters_of Tryd.func59 (by kernel_rfl) rfl args w, fun args r h w OK vs hok hG hl => ?_⟩
  unfold M59 at h
  split at h
  · rename_i es sep
    simp only [Option.bind_eq_some_iff, Option.ite_none_right_eq_some, Option.some.injEq] at h
    obtain ⟨l, hes, ⟨hlen, hl2⟩, rfl⟩ := h
    rw [strsOf_some hes] at hl
    match vs, hl with
    | [v1, v2], ⟨h1, h2, _⟩ =>
    obtain ⟨b, o, cap, T, c, fz, vals, rfl, hb, hh, hcap, hv, hsz, hc⟩ := h1.inv_fs
    obtain ⟨s, rfl, hs⟩ := h2.inv_str
    have hln : (strsA l).length = l.length := by simp [strsA]
    obtain ⟨xs, hxs⟩ : ∃ xs : List ByteArray, xs = l.map fun x => ⟨x.toArray⟩ := ⟨_, rfl⟩
    have hxl : xs.length = l.length := by rw [hxs]; simp
    have hmap : xs.map (·.data.toList) = l := by rw [hxs]; simp [Function.comp_def]
    have hcells : ∀ (j : Nat) x, xs[j]? = some x → w.cell? ⟨b, o + j, none⟩ = some (.string x) := by
      intro j x hj
      obtain ⟨hj1, hj2⟩ := List.getElem?_eq_some_iff.1 hj
      have hjl : j < l.length := by omega
      have hvj := hv j (by omega)
      rw [show (strsA l)[j]'(by omega) = .str l[j] by simp [strsA, strA]] at hvj
      obtain ⟨u, hu, hud⟩ := hvj.inv_str
      have := hc j (by omega) 0 (by omega)
      rw [hu] at this
      have hux : u = x := by
        subst hxs
        rw [← hj2, List.getElem_map]
        cases u with
        | mk d => simp only at hud; rw [← hud]
      rw [hux] at this
      simp only [World.cell?, hh]
      rw [Nat.mul_one, Nat.add_zero] at this
      simpa [Value.cells] using this
    have key := Tryd.strings_Join b o cap xs s w hcells (hok b hb) (by omega) (by omega) (by rw [hmap, hs]; exact hlen)
    rw [hmap, hs, hxl] at key
    rw [hln]
    refine Calls.mono key ?_
    rintro e w' ⟨rfl, hbel⟩
    refine ⟨_, OK, rfl, .str _ _ _ (by simp), fun b' h => Nat.lt_of_lt_of_le (hok b' h) hbel.size, ?_⟩
    exact ⟨hbel.os, hbel.tape, hbel.output, hbel.size, fun b' h _ => hbel.block b' h, Ghost.le_refl _, fun _ h => h, fun id inc h => (by cases h), fun _ h => .inl h, fun b' r h _ => by rw [hbel.block b' (Array.getElem?_eq_some_iff.1 h).1]; exact h, fun id inc h _ => (by cases h)⟩
  · cases h

noncomputable def M53 : PModel := fun args => match args with
  | [.int .u64 x] => if 0 ≤ x ∧ x ≤ 18446744073709551615 then some (.int .i64 (Lib.bitLen x.toNat)) else none
  | _ => none
theorem spec53 : PureSpec Tryd.prog GD 53 M53 := by
  refine ⟨fun args w => enters_of Tryd.func53 (by kernel_rfl) rfl args w, fun args r h w OK vs hok hG hl => ?_⟩
  unfold M53 at h
  split at h
  · rename_i x
    simp only [Option.ite_none_right_eq_some, Option.some.injEq] at h
    obtain ⟨⟨h0, h1⟩, rfl⟩ := h
    match vs, hl with
    | [v1], ⟨hv, _⟩ =>
    obtain rfl := hv.inv_int
    refine Calls.mono (Tryd.bits_Len x w h0 h1) ?_
    rintro e w' ⟨rfl, rfl⟩
    exact ⟨_, OK, rfl, .int _ _ _, hok, Ext.refl _ _ _⟩
  · cases h
end Go.Proofs.YtgbnngmpaefbcaaDoor
/-
  Digest: left (37), Leaf (26), Node (29), Chain (33).
-/
namespace Go.Proofs.YtgbnngmpaefbcaaDoor
open Go

/-! ### the greatest power of two below a number -/
def leftT (n : Nat) : Nat := 2 ^ (Lib.bitLen (n - 1) - 1)
theorem bitLen_bounds : ∀ (k x : Nat), x < 2 ^ k → x ≠ 0 → k ≤ 64 → 0 < Lib.bitLen x ∧ 2 ^ (Lib.bitLen x - 1) ≤ x ∧ x < 2 ^ Lib.bitLen x
  | 0, x, h, h0, _ => by simp at h; omega
  | k + 1, x, h, h0, hk => by
    have h64 : x < 2 ^ 64 := Nat.lt_of_lt_of_le h (Nat.pow_le_pow_right (by omega) hk)
    have e := Lib.bitLen_half x h0 h64
    by_cases h2 : x / 2 = 0
    · have : x = 1 := by omega
      subst this
      have e1 : Lib.bitLen 1 = 1 := by decide
      rw [e1]; decide
    · obtain ⟨i1, i2, i3⟩ := bitLen_bounds k (x / 2) (by rw [Nat.pow_succ] at h; omega) h2 (by omega)
      obtain ⟨j, hj⟩ : ∃ j, Lib.bitLen (x / 2) = j + 1 := ⟨Lib.bitLen (x / 2) - 1, by omega⟩
      rw [hj, Nat.add_sub_cancel] at i2
      rw [hj] at i3
      rw [e, hj]
      refine ⟨by omega, ?_, ?_⟩
      · rw [show 1 + (j + 1) - 1 = j + 1 by omega, Nat.pow_succ]
        omega
      · rw [show 1 + (j + 1) = (j + 1) + 1 by omega, Nat.pow_succ]
        omega
theorem leftT_bounds {n : Nat} (h2 : 2 ≤ n) (h : n < 9223372036854775808) : 1 ≤ leftT n ∧ leftT n < n ∧ n ≤ 2 * leftT n ∧ leftT n < 4611686018427387905 := by
  obtain ⟨i1, i2, i3⟩ := bitLen_bounds 64 (n - 1) (by omega) (by omega) (Nat.le_refl _)
  obtain ⟨j, hj⟩ : ∃ j, Lib.bitLen (n - 1) = j + 1 := ⟨Lib.bitLen (n - 1) - 1, by omega⟩
  unfold leftT
  rw [hj, Nat.pow_succ] at i3
  rw [hj, Nat.add_sub_cancel] at i2
  rw [hj, Nat.add_sub_cancel]
  have := Nat.two_pow_pos j
  have hle : Lib.bitLen (n - 1) ≤ 63 := Lib.bitLen_le (n - 1) 63 (by omega) (by omega)
  have h62 := Nat.pow_le_pow_right (n := 2) (by omega) (show j ≤ 62 by omega)
  rw [show (2 : Nat) ^ 62 = 4611686018427387904 from rfl] at h62
  omega
/-- a power of two with these bounds is it -/
theorem leftT_unique {n j : Nat} (h1 : 2 ^ j < n) (h2 : n ≤ 2 * 2 ^ j) (h : n < 9223372036854775808) : leftT n = 2 ^ j := by
  have hp := Nat.two_pow_pos j
  obtain ⟨b1, b2, b3, _⟩ := leftT_bounds (n := n) (by omega) h
  unfold leftT at *
  generalize Lib.bitLen (n - 1) - 1 = i at *
  have : i = j := by
    rcases Nat.lt_trichotomy i j with hl | hl | hl
    · have := Nat.pow_le_pow_right (n := 2) (by omega) (show i + 1 ≤ j by omega)
      rw [Nat.pow_succ] at this; omega
    · exact hl
    · have := Nat.pow_le_pow_right (n := 2) (by omega) (show j + 1 ≤ i by omega)
      rw [Nat.pow_succ] at this; omega
  rw [this]

noncomputable def fs37 : List (FuncId × HModel) := [(53, pureH 4 M53)]
@[simp] theorem fs37_53 : lookM fs37 53 = some (pureH 4 M53) := rfl
theorem sound37 : ∀ f M, lookM fs37 f = some M → FnSpecY Tryd.prog GD f M := lookM_cons (FnSpecY.of_pure spec53 4) lookM_nil
noncomputable def M37 : PModel := fun args => evP (envOf GD fs37) 10 mf37 1 args
theorem spec37 : PureSpec Tryd.prog GD 37 M37 := PureSpec.of_ev (E := envOf GD fs37) (envOf_sound sound37) rfl at37 comp37 1 fun _ _ h => ⟨10, h⟩
theorem frz_i (A : Arena) (n : Nat) (k : IntKind) (z : Int) : frz A n (.int k z) = .int k z := by cases n <;> rfl
theorem frz_b (A : Arena) (n : Nat) (b : Bool) : frz A n (.bool b) = .bool b := by cases n <;> rfl
theorem frz_s (A : Arena) (n : Nat) (s : List UInt8) : frz A n (.str s) = .str s := by cases n <;> rfl
theorem M37_eq {n : Nat} (h2 : 2 ≤ n) (h : n < 9223372036854775808) : M37 [.int .i64 (n : Int)] = some (.int .i64 (leftT n : Int)) := by
  obtain ⟨i1, i2, i3⟩ := bitLen_bounds 64 (n - 1) (by omega) (by omega) (Nat.le_refl _)
  have hb := leftT_bounds h2 h
  have q0 : evBin .sub (.int .i64 (n : Int)) (.int .i64 1) = some (.int .i64 ((n - 1 : Nat) : Int)) := by
    rw [bSub _ _ (by unfold inI; omega)]; congr 2; omega
  have cv : evConvInt .u64 (.int .i64 ((n - 1 : Nat) : Int)) = some (.int .u64 ((n - 1 : Nat) : Int)) := by
    simp only [evConvInt]
    rw [wrapU64 (by omega)]
  have m : M53 [.int .u64 ((n - 1 : Nat) : Int)] = some (.int .i64 (Lib.bitLen (n - 1) : Int)) := by
    have : (0 : Int) ≤ ((n - 1 : Nat) : Int) ∧ ((n - 1 : Nat) : Int) ≤ 18446744073709551615 := by omega
    simp only [M53, if_pos this, Int.toNat_natCast]
  have hle : Lib.bitLen (n - 1) ≤ 63 := Lib.bitLen_le (n - 1) 63 (by omega) (by omega)
  have q1 : evBin .sub (.int .i64 (Lib.bitLen (n - 1) : Int)) (.int .i64 1) = some (.int .i64 ((Lib.bitLen (n - 1) - 1 : Nat) : Int)) := by
    rw [bSub _ _ (by unfold inI; omega)]; congr 2; omega
  have sh : evBin .shl (.int .i64 1) (.int .i64 ((Lib.bitLen (n - 1) - 1 : Nat) : Int)) = some (.int .i64 (leftT n : Int)) := by
    have h0 : ¬ (((Lib.bitLen (n - 1) - 1 : Nat) : Int) < 0) := by omega
    have hm : min (Lib.bitLen (n - 1) - 1) 64 = Lib.bitLen (n - 1) - 1 := by omega
    simp only [evBin, if_neg h0, IntKind.bits, Int.toNat_natCast, hm]
    have : (1 : Int) * 2 ^ (Lib.bitLen (n - 1) - 1) = ((leftT n : Nat) : Int) := by unfold leftT; norm_cast; omega
    rw [this, wrapI (by unfold inI; omega)]
  have fz := frz_i
  unfold M37
  rw [evP_run _ _ rfl]
  generalize ((Lib.bitLen (n - 1) - 1 : Nat) : Int) = L1 at *
  generalize (Lib.bitLen (n - 1) : Int) = L0 at *
  generalize ((n - 1 : Nat) : Int) = N1 at *
  generalize (n : Int) = N0 at *
  generalize (leftT n : Int) = R at *
  simp [mf37, q0, cv, m, q1, sh, fz, -evBin, -evConvInt, -frz]

/-! ### Leaf, Node, Chain -/
noncomputable def H47 : HModel := fun _ => evFun (envOf GD []) 10 mf47
theorem spec47 : FnSpecY Tryd.prog GD 47 H47 := (evFun_sound (envOf_sound lookM_nil) rfl at47 comp47 PureIn.nil).y
noncomputable def fs58 : List (FuncId × HModel) := [(59, pureH 4 M59), (27, pureH 4 M27)]
@[simp] theorem fs58_59 : lookM fs58 59 = some (pureH 4 M59) := rfl
@[simp] theorem fs58_27 : lookM fs58 27 = some (pureH 4 M27) := rfl
theorem sound58 : ∀ f M, lookM fs58 f = some M → FnSpecY Tryd.prog GD f M := lookM_cons (FnSpecY.of_pure spec59 4) (lookM_cons (FnSpecY.of_pure spec27 4) lookM_nil)
noncomputable def H58 : HModel := fun _ => evFun (envOf GD fs58) 10 mf58
theorem spec58 : FnSpecY Tryd.prog GD 58 H58 := (evFun_sound (envOf_sound sound58) rfl at58 comp58 (by first | exact PureIn.nil | (repeat (first | exact PureIn.nil | refine PureIn.cons (M := _) rfl ?_)))).y
theorem H47_eq (hd : Handler) (A : Arena) (m : List UInt8) : H47 hd [.str m] A = some (.func (.func 58) [] [.ptr A.length 0 0], A ++ [.row 1 false [.str m]]) := by
  unfold H47
  rw [evFun_run _ _ rfl]
  simp [mf47, pack]
theorem flatten_join : ∀ l : List (List UInt8), Lib.join l [] = l.flatten := fun l => by
  simp only [Lib.join, List.intercalate]
  induction l with
  | nil => rfl
  | cons x r ih =>
    cases r with
    | nil => simp
    | cons y r => simp [List.intersperse] at ih ⊢; exact ih
theorem H58_eq (hd : Handler) {A : Arena} {a : Nat} {m : List UInt8} (hA : A[a]? = some (.row 1 false [.str m])) {l : List (List UInt8)} (hl : l.length ≤ 10) (hs : (m ++ l.flatten).length ≤ 5000) :
    H58 hd [.fs 1 (strsA l), .ptr a 0 0] A = some (.str (sumT (m ++ l.flatten)), A) := by
  have ld : evLoad false 1 A (.ptr a 0 0) = some (.str m) := load_arr hA rfl rfl
  have hs2 := hs
  rw [List.length_append] at hs2
  have m1 : M59 [.fs 1 (strsA l), .str []] = some (.str l.flatten) := by
    simp only [M59, strsOf_strsA, Option.bind_some, flatten_join]
    rw [if_pos ⟨by omega, by omega⟩]
  have m2 := M27_eq hs
  have ad : evBin .add (.str m) (.str l.flatten) = some (.str (m ++ l.flatten)) := by
    have : m.length + l.flatten.length ≤ 9223372036854775807 := by omega
    simp only [evBin, if_pos this]
  have fz : (strsA l).map (frz A 3) = strsA l := by
    rw [strsA, List.map_map]; exact List.map_congr_left fun x _ => rfl
  have f2 : ∀ n, frz A (n + 1) (.fs 1 (strsA l)) = .fs 1 (strsA l) := fun n => rfl
  have sc : ∀ s, scalarB 4 (.str s) = true := fun _ => rfl
  unfold H58
  rw [evFun_run _ _ rfl]
  generalize l.flatten = F at *
  generalize m ++ F = MF at *
  generalize sumT MF = S at *
  simp [mf58, ld, m1, m2, ad, f2, frz_s, pack, -evLoad, -evBin, -frz]
end Go.Proofs.YtgbnngmpaefbcaaDoor
/-
  Digest: Leaf (26), Node (29), Chain (33); isDigest, all (46, 55, 67, 56, 42); the loops of the law's left (28) and of the reference's Left (39).
-/
namespace Go.Proofs.YtgbnngmpaefbcaaDoor
open Go

def leafT (s : List UInt8) : List UInt8 := sumT (0 :: s)
def nodeT (a b : List UInt8) : List UInt8 := sumT (1 :: (a ++ b))
def chainT (h s : List UInt8) : List UInt8 := sumT (2 :: (h ++ s))
noncomputable def fs26 : List (FuncId × HModel) := [(47, H47), (58, H58)]
@[simp] theorem fs26_47 : lookM fs26 47 = some H47 := rfl
@[simp] theorem fs26_58 : lookM fs26 58 = some H58 := rfl
theorem sound26 : ∀ f M, lookM fs26 f = some M → FnSpecY Tryd.prog GD f M := lookM_cons spec47 (lookM_cons spec58 lookM_nil)
noncomputable def M26 : PModel := fun args => evP (envOf GD fs26) 10 mf26 1 args
theorem spec26 : PureSpec Tryd.prog GD 26 M26 := PureSpec.of_ev (E := envOf GD fs26) (envOf_sound sound26) rfl at26 comp26 1 fun _ _ h => ⟨10, h⟩
noncomputable def M29 : PModel := fun args => evP (envOf GD fs26) 10 mf29 2 args
theorem spec29 : PureSpec Tryd.prog GD 29 M29 := PureSpec.of_ev (E := envOf GD fs26) (envOf_sound sound26) rfl at29 comp29 2 fun _ _ h => ⟨10, h⟩
noncomputable def M33 : PModel := fun args => evP (envOf GD fs26) 10 mf33 2 args
theorem spec33 : PureSpec Tryd.prog GD 33 M33 := PureSpec.of_ev (E := envOf GD fs26) (envOf_sound sound26) rfl at33 comp33 2 fun _ _ h => ⟨10, h⟩
theorem M26_eq {s : List UInt8} (hs : s.length ≤ 4000) : M26 [.str s] = some (.str (leafT s)) := by
  have h1 := fun hd => H47_eq hd [] [0]
  have h2 := fun hd => H58_eq hd (A := [.row 1 false [.str [0]]]) (a := 0) (m := [0]) rfl (l := [s]) (by simp) (by simp; omega)
  rw [show [(0 : UInt8)] ++ [s].flatten = 0 :: s by simp] at h2
  have fz := frz_s
  unfold M26
  rw [evP_run _ _ rfl]
  change _ = some (AV.str (sumT (0 :: s)))
  generalize sumT (0 :: s) = S at *
  simp only [strsA, strA, List.map_cons, List.map_nil] at h2
  simp only [List.length_nil, List.nil_append] at h1
  simp [mf26, h1, h2, fz, -frz]
theorem M29_eq {a b : List UInt8} (ha : a.length ≤ 2000) (hb : b.length ≤ 2000) : M29 [.str a, .str b] = some (.str (nodeT a b)) := by
  have h1 := fun hd => H47_eq hd [] [1]
  have h2 := fun hd => H58_eq hd (A := [.row 1 false [.str [1]]]) (a := 0) (m := [1]) rfl (l := [a, b]) (by simp) (by simp; omega)
  rw [show [(1 : UInt8)] ++ [a, b].flatten = 1 :: (a ++ b) by simp] at h2
  have fz := frz_s
  unfold M29
  rw [evP_run _ _ rfl]
  change _ = some (AV.str (sumT (1 :: (a ++ b))))
  generalize sumT (1 :: (a ++ b)) = S at *
  simp only [strsA, strA, List.map_cons, List.map_nil] at h2
  simp only [List.length_nil, List.nil_append] at h1
  simp [mf29, h1, h2, fz, -frz]
theorem M33_eq {a b : List UInt8} (ha : a.length ≤ 2000) (hb : b.length ≤ 2000) : M33 [.str a, .str b] = some (.str (chainT a b)) := by
  have h1 := fun hd => H47_eq hd [] [2]
  have h2 := fun hd => H58_eq hd (A := [.row 1 false [.str [2]]]) (a := 0) (m := [2]) rfl (l := [a, b]) (by simp) (by simp; omega)
  rw [show [(2 : UInt8)] ++ [a, b].flatten = 2 :: (a ++ b) by simp] at h2
  have fz := frz_s
  unfold M33
  rw [evP_run _ _ rfl]
  change _ = some (AV.str (sumT (2 :: (a ++ b))))
  generalize sumT (2 :: (a ++ b)) = S at *
  simp only [strsA, strA, List.map_cons, List.map_nil] at h2
  simp only [List.length_nil, List.nil_append] at h1
  simp [mf33, h1, h2, fz, -frz]
theorem leafT_len (s : List UInt8) : (leafT s).length = 32 := sumT_len _
theorem nodeT_len (a b : List UInt8) : (nodeT a b).length = 32 := sumT_len _
theorem chainT_len (a b : List UInt8) : (chainT a b).length = 32 := sumT_len _

/-! ### the greatest power of two, by doubling -/
set_option maxRecDepth 100000 in
theorem loop28 (E : Env) {n : Nat} (h : n < 9223372036854775808) : ∀ (c j m : Nat), 2 ^ j < n → j + c = 63 → c < m →
    iter (evC E 100 lp28x0) mask28x0 m (st28x0 (.int .i64 (n : Int)) (.int .i64 ((2 ^ j : Nat) : Int))) [] = some (.exit 0 ((st28x0 (.int .i64 (n : Int)) (.int .i64 (leftT n : Int))).set 3 (.bool false)) []) := by
  intro c
  induction c with
  | zero =>
    intro j m hj hc hm
    obtain rfl : j = 63 := by omega
    rw [show (2 : Nat) ^ 63 = 9223372036854775808 from rfl] at hj
    omega
  | succ c ih =>
    intro j m hj hc hm
    obtain ⟨m, rfl⟩ : ∃ k, m = k + 1 := ⟨m - 1, by omega⟩
    have hp := Nat.two_pow_pos j
    have q0 : evBin .sub (.int .i64 (n : Int)) (.int .i64 ((2 ^ j : Nat) : Int)) = some (.int .i64 ((n - 2 ^ j : Nat) : Int)) := by
      rw [bSub _ _ (by unfold inI; omega)]; congr 2; omega
    have c0 := Dlt_nat (2 ^ j) (n - 2 ^ j) .i64
    by_cases hlt : 2 ^ j < n - 2 ^ j
    · have m0 : evBin .mul (.int .i64 2) (.int .i64 ((2 ^ j : Nat) : Int)) = some (.int .i64 ((2 ^ (j + 1) : Nat) : Int)) := by
        have := Dmul_nat 2 (2 ^ j)
        rw [bMul _ _ (by unfold inI; omega)]; congr 2; rw [Nat.pow_succ]; omega
      have := ih (j + 1) m (by rw [Nat.pow_succ]; omega) (by omega) (by omega)
      rw [decide_eq_true hlt] at c0
      rw [iter_succ, cl28x0]
      generalize ((2 ^ (j + 1) : Nat) : Int) = P1 at *
      generalize ((2 ^ j : Nat) : Int) = P0 at *
      generalize ((n - 2 ^ j : Nat) : Int) = D at *
      have hr : run E 100 [.code lp28x0] (st28x0 (.int .i64 (n : Int)) (.int .i64 P0)) [] = some (.normal (st28x0 (.int .i64 (n : Int)) (.int .i64 P1)) []) := by
        simp [lp28x0, q0, c0, m0, -evBin]
      rw [hr]
      exact this
    · rw [decide_eq_false hlt] at c0
      rw [leftT_unique hj (by omega) h]
      rw [iter_succ, cl28x0]
      generalize ((2 ^ j : Nat) : Int) = P0 at *
      generalize ((n - 2 ^ j : Nat) : Int) = D at *
      simp [lp28x0, q0, c0, -evBin]
noncomputable def M28 : PModel := fun args => evP (envOf GD []) 100 mf28 1 args
theorem spec28 : PureSpec Tryd.prog GD 28 M28 := PureSpec.of_ev (E := envOf GD []) (envOf_sound lookM_nil) rfl at28 comp28 1 fun _ _ h => ⟨100, h⟩
theorem spec39 : PureSpec Tryd.prog GD 39 M28 := PureSpec.of_ev (E := envOf GD []) (envOf_sound lookM_nil) rfl at39 comp39 1 fun _ _ h => ⟨100, h⟩
theorem M28_eq {n : Nat} (h2 : 2 ≤ n) (h : n < 9223372036854775808) : M28 [.int .i64 (n : Int)] = some (.int .i64 (leftT n : Int)) := by
  have lp := loop28 (envOf GD []) h 63 0 100 (by omega) rfl (by omega)
  rw [show ((2 ^ 0 : Nat) : Int) = 1 from rfl] at lp
  have fz := frz_i
  unfold M28
  rw [evP_run _ _ rfl]
  simp [mf28, go28x0 lp, fz, -frz]

/-! ### all elements are digests -/
def isDig (s : List UInt8) : Bool := decide (s.length = 32)
noncomputable def M46 : PModel := fun args => evP (envOf GD []) 10 mf46 1 args
theorem spec46 : PureSpec Tryd.prog GD 46 M46 := PureSpec.of_ev (E := envOf GD []) (envOf_sound lookM_nil) rfl at46 comp46 1 fun _ _ h => ⟨10, h⟩
theorem eq_nat (a b : Nat) (k : IntKind) : evBin .eql (.int k (a : Int)) (.int k (b : Int)) = some (.bool (decide (a = b))) := by
  rw [bEq]
  by_cases h : a = b
  · simp [h]
  · have : ¬ ((a : Int) = (b : Int)) := by omega
    simp [h, this]
theorem M46_eq (s : List UInt8) : M46 [.str s] = some (.bool (isDig s)) := by
  have ls : evLenStr (.str s) = some (.int .i64 (s.length : Int)) := by simp [evLenStr]
  have e0 := eq_nat s.length 32 .i64
  rw [show ((32 : Nat) : Int) = 32 from rfl] at e0
  rw [show decide (s.length = 32) = isDig s from rfl] at e0
  unfold M46
  rw [evP_run _ _ rfl]
  simp [mf46, ls, e0, frz_b, -evBin, -evLenStr, -frz]
noncomputable def fs55 : List (FuncId × HModel) := [(46, pureH 4 M46)]
@[simp] theorem fs55_46 : lookM fs55 46 = some (pureH 4 M46) := rfl
theorem sound55 : ∀ f M, lookM fs55 f = some M → FnSpecY Tryd.prog GD f M := lookM_cons (FnSpecY.of_pure spec46 4) lookM_nil
noncomputable def M55 : PModel := fun args => evP (envOf GD fs55) 10 mf55 1 args
theorem spec55 : PureSpec Tryd.prog GD 55 M55 := PureSpec.of_ev (E := envOf GD fs55) (envOf_sound sound55) rfl at55 comp55 1 fun _ _ h => ⟨10, h⟩
theorem M55_eq (s : List UInt8) : M55 [.str s] = some (.bool (!isDig s)) := by
  have m := M46_eq s
  unfold M55
  rw [evP_run _ _ rfl]
  generalize isDig s = b at *
  simp [mf55, m, frz_b, frz_s, -frz]
noncomputable def fs67 : List (FuncId × HModel) := [(55, pureH 4 M55)]
@[simp] theorem fs67_55 : lookM fs67 55 = some (pureH 4 M55) := rfl
theorem sound67 : ∀ f M, lookM fs67 f = some M → FnSpecY Tryd.prog GD f M := lookM_cons (FnSpecY.of_pure spec55 4) lookM_nil
def oddF : AV := .func (.func 55) [] []
theorem SlA.strs {l : List (List UInt8)} {a : AV} (h : SlA 1 (strsA l) a) {i : Nat} {s : List UInt8} (hs : l[i]? = some s) {A : Arena} (k : IntKind) : evIndexSl 1 A a (.int k (i : Int)) = some (.fp [.str s]) :=
  SlA.str l h hs k
theorem SlA.slen {l : List (List UInt8)} {a : AV} (h : SlA 1 (strsA l) a) : evLenSl a = some (.int .i64 (l.length : Int)) := by
  rw [h.len]; simp [strsA]
theorem drop_cons {α : Type} {l r : List α} {s : α} {i : Nat} (h : l.drop i = s :: r) : l[i]? = some s ∧ l.drop (i + 1) = r ∧ i < l.length := by
  have h1 : i < l.length := by
    rcases Nat.lt_or_ge i l.length with h1 | h1
    · exact h1
    · rw [List.drop_of_length_le h1] at h; cases h
  have h2 := List.drop_eq_getElem_cons h1
  rw [h] at h2
  injection h2 with h3 h4
  exact ⟨by rw [h3]; exact List.getElem?_eq_getElem h1, h4.symm, h1⟩
set_option maxRecDepth 100000 in
theorem loop67 {l : List (List UInt8)} {a : AV} (ha : SlA 1 (strsA l) a) (hl : l.length ≤ 1000000) : ∀ (r : List (List UInt8)) (i m : Nat), i ≤ l.length → l.drop i = r → r.length < m →
    ∃ k : Nat, iter (evC (envOf GD fs67) 200 lp67x0) mask67x0 m (st67x0 a oddF (.int .i64 (l.length : Int)) (.int .i64 (i : Int))) [] = some (if r.all isDig then .exit 0 ((st67x0 a oddF (.int .i64 (l.length : Int)) (.int .i64 (l.length : Int))).set 6 (.bool false)) []
      else .ret [a, oddF, .int .i64 (k : Int), .int .i64 (k : Int), .int .i64 (l.length : Int), .int .i64 (k : Int), .bool true, .bool true] []) := by
  intro r
  induction r with
  | nil =>
    intro i m hil hr hm
    obtain ⟨m, rfl⟩ : ∃ k, m = k + 1 := ⟨m - 1, by omega⟩
    have : l.length ≤ i := List.drop_eq_nil_iff.1 hr
    obtain rfl : i = l.length := by omega
    refine ⟨0, ?_⟩
    have c0 := Dlt_nat l.length l.length .i64
    rw [decide_eq_false (by omega)] at c0
    rw [iter_succ, cl67x0, if_pos (by simp)]
    generalize (l.length : Int) = N at *
    simp [lp67x0, c0, -evBin]
  | cons s r ih =>
    intro i m hil hr hm
    obtain ⟨m, rfl⟩ : ∃ k, m = k + 1 := ⟨m - 1, by omega⟩
    obtain ⟨h1, h2, h3⟩ := drop_cons hr
    have c0 := Dlt_nat i l.length .i64
    rw [decide_eq_true h3] at c0
    have ix := fun A => ha.strs h1 (A := A) .i64
    have mm := M55_eq s
    have p0 := Dadd_nat i 1 (by omega)
    rw [show ((1 : Nat) : Int) = 1 from rfl] at p0
    have fz := frz_s
    cases hs : isDig s with
    | false =>
      refine ⟨i, ?_⟩
      rw [hs] at mm
      rw [iter_succ, cl67x0, if_neg (by simp [hs])]
      generalize (l.length : Int) = N at *
      generalize (i : Int) = I0 at *
      simp [lp67x0, oddF, c0, ix, load_fp1, mm, fz, -evBin, -evIndexSl, -evLoad, -frz]
    | true =>
      obtain ⟨k, hk⟩ := ih (i + 1) m (by omega) h2 (by simpa using hm)
      refine ⟨k, ?_⟩
      rw [hs] at mm
      rw [List.all_cons, hs, Bool.true_and, iter_succ, cl67x0]
      generalize ((i + 1 : Nat) : Int) = I1 at *
      generalize (l.length : Int) = N at *
      generalize (i : Int) = I0 at *
      have hr : run (envOf GD fs67) 200 [.code lp67x0] (st67x0 a oddF (.int .i64 N) (.int .i64 I0)) [] = some (.normal (st67x0 a oddF (.int .i64 N) (.int .i64 I1)) []) := by
        simp [lp67x0, oddF, c0, ix, load_fp1, mm, fz, p0, -evBin, -evIndexSl, -evLoad, -frz]
      rw [hr]
      exact hk
noncomputable def M67 : PModel := fun args => evP (envOf GD fs67) 200 mf67 1 args
theorem spec67 : PureSpec Tryd.prog GD 67 M67 := PureSpec.of_ev (E := envOf GD fs67) (envOf_sound sound67) rfl at67 comp67 1 fun _ _ h => ⟨200, h⟩
theorem M67_eq {l : List (List UInt8)} {a : AV} (ha : SlA 1 (strsA l) a) (hl : l.length ≤ 150) : ∃ k : Int, M67 [a, oddF] = some (.int .i64 k) ∧ (decide (0 ≤ k) = !l.all isDig) := by
  obtain ⟨k, lp⟩ := loop67 ha (by omega) l 0 200 (by omega) rfl (by omega)
  have ln := ha.slen
  rw [show ((0 : Nat) : Int) = 0 from rfl] at lp
  have fz := frz_i
  cases hd : l.all isDig with
  | true =>
    rw [hd, if_pos rfl] at lp
    refine ⟨-1, ?_, by simp⟩
    unfold M67
    rw [evP_run _ _ rfl]
    generalize (l.length : Int) = N at *
    simp [mf67, ln, go67x0 lp, fz, -evLenSl, -frz]
  | false =>
    rw [hd, if_neg (by simp)] at lp
    refine ⟨k, ?_, by simp⟩
    unfold M67
    rw [evP_run _ _ rfl]
    generalize (l.length : Int) = N at *
    generalize (k : Int) = K at *
    simp [mf67, ln, go67x0 lp, fz, -evLenSl, -frz]
noncomputable def fs56 : List (FuncId × HModel) := [(67, pureH 4 M67)]
@[simp] theorem fs56_67 : lookM fs56 67 = some (pureH 4 M67) := rfl
theorem sound56 : ∀ f M, lookM fs56 f = some M → FnSpecY Tryd.prog GD f M := lookM_cons (FnSpecY.of_pure spec67 4) lookM_nil
noncomputable def M56 : PModel := fun args => evP (envOf GD fs56) 200 mf56 1 args
theorem spec56 : PureSpec Tryd.prog GD 56 M56 := PureSpec.of_ev (E := envOf GD fs56) (envOf_sound sound56) rfl at56 comp56 1 fun _ _ h => ⟨200, h⟩
theorem M56_eq {l : List (List UInt8)} {a : AV} (ha : SlA 1 (strsA l) a) (hl : l.length ≤ 150) : M56 [a, oddF] = some (.bool (!l.all isDig)) := by
  obtain ⟨k, m, hk⟩ := M67_eq ha hl
  have c0 := bGe .i64 k 0
  rw [hk] at c0
  have f1 := fun A n => ha.frz (A := A) n
  have f2 : ∀ A, frz A 4 oddF = oddF := fun _ => rfl
  have f3 := frz_b
  have sc : scalarB 4 (.int .i64 k) = true := rfl
  unfold M56
  rw [evP_run _ _ rfl]
  generalize l.all isDig = b at *
  generalize oddF = o at *
  simp [mf56, f1, f2, f3, m, c0, -evBin, -frz]
noncomputable def fs42 : List (FuncId × HModel) := [(56, pureH 4 M56)]
@[simp] theorem fs42_56 : lookM fs42 56 = some (pureH 4 M56) := rfl
theorem sound42 : ∀ f M, lookM fs42 f = some M → FnSpecY Tryd.prog GD f M := lookM_cons (FnSpecY.of_pure spec56 4) lookM_nil
noncomputable def M42 : PModel := fun args => evP (envOf GD fs42) 200 mf42 1 args
theorem spec42 : PureSpec Tryd.prog GD 42 M42 := PureSpec.of_ev (E := envOf GD fs42) (envOf_sound sound42) rfl at42 comp42 1 fun _ _ h => ⟨200, h⟩
theorem M42_eq {l : List (List UInt8)} {a : AV} (ha : SlA 1 (strsA l) a) (hl : l.length ≤ 150) : M42 [a] = some (.bool (l.all isDig)) := by
  have m := M56_eq ha hl
  have f1 := fun A n => ha.frz (A := A) n
  have f3 := frz_b
  unfold M42
  rw [evP_run _ _ rfl]
  generalize l.all isDig = b at *
  unfold oddF at m
  have f2 : ∀ A, frz A 4 (.func (.func 55) [] []) = .func (.func 55) [] [] := fun _ => rfl
  simp [mf42, f1, f2, f3, m, -frz]
end Go.Proofs.YtgbnngmpaefbcaaDoor
/-
  Digest: the root of a list, and the stack of complete parts (plain).
-/
namespace Go.Proofs.YtgbnngmpaefbcaaDoor
open Go

abbrev Str := List UInt8
def rootF : Nat → List Str → Str
  | 0, _ => sumT []
  | _ + 1, [] => sumT []
  | _ + 1, [s] => leafT s
  | f + 1, l => nodeT (rootF f (l.take (leftT l.length))) (rootF f (l.drop (leftT l.length)))
def rootT (l : List Str) : Str := rootF l.length l
theorem rootF_len (f : Nat) (l : List Str) : (rootF f l).length = 32 := by
  unfold rootF; split
  · exact sumT_len _
  · exact sumT_len _
  · exact leafT_len _
  · exact nodeT_len _ _
theorem rootT_len (l : List Str) : (rootT l).length = 32 := rootF_len _ _
theorem rootF_two (f : Nat) {l : List Str} (h : 2 ≤ l.length) : rootF (f + 1) l = nodeT (rootF f (l.take (leftT l.length))) (rootF f (l.drop (leftT l.length))) := by
  match l, h with
  | a :: b :: r, _ => rfl
theorem rootF_enough : ∀ (f : Nat) (l : List Str), l.length ≤ f → l.length < 9223372036854775808 → rootF f l = rootT l
  | 0, l, h, _ => by
    have : l = [] := List.length_eq_zero_iff.1 (by omega)
    subst this; rfl
  | f + 1, [], _, _ => rfl
  | f + 1, [s], _, _ => rfl
  | f + 1, a :: b :: r, h, hb => by
    have h2 : 2 ≤ (a :: b :: r).length := by simp
    obtain ⟨b1, b2, b3, _⟩ := leftT_bounds h2 hb
    have e : (a :: b :: r).length = r.length + 1 + 1 := rfl
    unfold rootT
    rw [rootF_two f h2, show rootF (a :: b :: r).length (a :: b :: r) = rootF (r.length + 1 + 1) (a :: b :: r) from rfl, rootF_two (r.length + 1) h2]
    generalize (a :: b :: r) = l at *
    rw [rootF_enough f _ (by simp; omega) (by simp; omega), rootF_enough f _ (by simp; omega) (by simp; omega), rootF_enough (r.length + 1) _ (by simp; omega) (by simp; omega), rootF_enough (r.length + 1) _ (by simp; omega) (by simp; omega)]
theorem rootT_nil : rootT [] = sumT [] := rfl
theorem rootT_one (s : Str) : rootT [s] = leafT s := rfl
theorem rootT_two {l : List Str} (h2 : 2 ≤ l.length) (hb : l.length < 9223372036854775808) : rootT l = nodeT (rootT (l.take (leftT l.length))) (rootT (l.drop (leftT l.length))) := by
  obtain ⟨b1, b2, b3, _⟩ := leftT_bounds h2 hb
  obtain ⟨f, hf⟩ : ∃ f, l.length = f + 1 := ⟨l.length - 1, by omega⟩
  conv => lhs; unfold rootT; rw [hf]
  rw [rootF_two f h2, rootF_enough f _ (by simp; omega) (by simp; omega), rootF_enough f _ (by simp; omega) (by simp; omega)]
/-- a whole part and what is behind it -/
theorem rootT_append {c x : List Str} {e : Nat} (hc : c.length = 2 ^ e) (hx : x ≠ []) (hle : x.length ≤ c.length) (hb : (c ++ x).length < 9223372036854775808) : rootT (c ++ x) = nodeT (rootT c) (rootT x) := by
  have hp := Nat.two_pow_pos e
  have hxl : 0 < x.length := List.length_pos_iff.2 hx
  have hl : (c ++ x).length = c.length + x.length := List.length_append
  have hlt : leftT (c ++ x).length = c.length := by
    rw [leftT_unique (j := e) (by omega) (by omega) hb, hc]
  rw [rootT_two (by omega) hb, hlt, List.take_left' rfl, List.drop_left' rfl]

/-! ### the stack -/
/-- parts, the last one first: powers of two, each greater than the one before it -/
def Up : List (List Str) → Prop
  | [] => True
  | [c] => ∃ e, c.length = 2 ^ e
  | c :: d :: r => (∃ e, c.length = 2 ^ e) ∧ c.length < d.length ∧ Up (d :: r)
/-- the same, but the last two may be equal -/
def Up1 : List (List Str) → Prop
  | [] => True
  | [c] => ∃ e, c.length = 2 ^ e
  | c :: d :: r => (∃ e, c.length = 2 ^ e) ∧ c.length ≤ d.length ∧ Up (d :: r)
theorem Up.tail {c : List Str} {r : List (List Str)} (h : Up (c :: r)) : Up r := by
  cases r with
  | nil => trivial
  | cons d r => exact h.2.2
theorem Up.head {c : List Str} {r : List (List Str)} (h : Up (c :: r)) : ∃ e, c.length = 2 ^ e := by
  cases r with
  | nil => exact h
  | cons d r => exact h.1
theorem Up.one1 {r : List (List Str)} (s : Str) (h : Up r) : Up1 ([s] :: r) := by
  cases r with
  | nil => exact ⟨0, rfl⟩
  | cons d r =>
    refine ⟨⟨0, rfl⟩, ?_, h⟩
    obtain ⟨e, he⟩ := h.head
    have := Nat.two_pow_pos e
    simp; omega
/-- equal parts are joined -/
def joinC : Nat → List (List Str) → List (List Str)
  | f + 1, c :: d :: r => if c.length = d.length then joinC f ((d ++ c) :: r) else c :: d :: r
  | _, l => l
theorem Up1.join {c d : List Str} {r : List (List Str)} (h : Up1 (c :: d :: r)) (he : c.length = d.length) : Up1 ((d ++ c) :: r) := by
  obtain ⟨⟨e, h1⟩, _, h3⟩ := h
  have hl : (d ++ c).length = 2 ^ (e + 1) := by rw [List.length_append, ← he, h1, Nat.pow_succ]; omega
  cases r with
  | nil => exact ⟨e + 1, hl⟩
  | cons x r =>
    refine ⟨⟨e + 1, hl⟩, ?_, h3.2.2⟩
    obtain ⟨e2, h4⟩ := h3.2.2.head
    have h5 := h3.2.1
    rw [← he, h1, h4] at h5
    have : e + 1 ≤ e2 := (Nat.pow_lt_pow_iff_right (by omega)).1 h5
    rw [hl, h4]
    exact Nat.pow_le_pow_right (by omega) this
theorem Up1.stop {c d : List Str} {r : List (List Str)} (h : Up1 (c :: d :: r)) (he : c.length ≠ d.length) : Up (c :: d :: r) := ⟨h.1, by have := h.2.1; omega, h.2.2⟩
theorem joinC_up : ∀ (f : Nat) (l : List (List Str)), l.length ≤ f + 1 → Up1 l → Up (joinC f l)
  | _, [], _, _ => by unfold joinC; split <;> first | trivial | simp_all
  | 0, [c], _, h => h
  | f + 1, [c], _, h => h
  | 0, c :: d :: r, hf, _ => by simp at hf
  | f + 1, c :: d :: r, hf, h => by
    unfold joinC
    split
    · rename_i he
      exact joinC_up f _ (by simpa using hf) (h.join he)
    · rename_i he
      exact h.stop he
theorem joinC_flat : ∀ (f : Nat) (l : List (List Str)), (joinC f l).reverse.flatten = l.reverse.flatten
  | 0, l => by unfold joinC; rfl
  | f + 1, [] => rfl
  | f + 1, [c] => rfl
  | f + 1, c :: d :: r => by
    unfold joinC
    split
    · rw [joinC_flat f]; simp
    · rfl
/-- all parts of a list -/
def parts : List Str → List (List Str) → List (List Str)
  | [], l => l
  | s :: r, l => parts r (joinC l.length ([s] :: l))
theorem parts_ok : ∀ (r : List Str) (l : List (List Str)), Up l → Up (parts r l) ∧ (parts r l).reverse.flatten = l.reverse.flatten ++ r
  | [], l, h => ⟨h, by simp [parts]⟩
  | s :: r, l, h => by
    have h1 := joinC_up l.length ([s] :: l) (by simp) (h.one1 s)
    obtain ⟨h2, h3⟩ := parts_ok r _ h1
    refine ⟨h2, ?_⟩
    rw [parts, h3, joinC_flat]
    simp
/-- the roots are joined -/
def foldC (out : Str) (r : List (List Str)) : Str := r.foldl (fun o c => nodeT (rootT c) o) out
theorem foldC_root : ∀ (r : List (List Str)) (x : List Str), x ≠ [] → Up r → (∀ c, r.head? = some c → x.length < c.length) → (r.reverse.flatten ++ x).length < 9223372036854775808 → foldC (rootT x) r = rootT (r.reverse.flatten ++ x)
  | [], x, _, _, _, _ => by simp [foldC]
  | c :: r, x, hx, hu, hc, hb => by
    obtain ⟨e, he⟩ := hu.head
    have h1 := hc c rfl
    have hb' : (r.reverse.flatten ++ (c ++ x)).length < 9223372036854775808 := by
      simpa [List.append_assoc] using hb
    have hcx : (c ++ x).length < 9223372036854775808 := by
      rw [List.length_append] at hb'; omega
    have := foldC_root r (c ++ x) (by simp [hx]) hu.tail (fun d hd => by
      cases r with
      | nil => cases hd
      | cons y r =>
        injection hd with hd; subst hd
        obtain ⟨e2, h2⟩ := hu.2.2.head
        have h3 := hu.2.1
        rw [he, h2] at h3
        have h4 : e + 1 ≤ e2 := (Nat.pow_lt_pow_iff_right (by omega)).1 h3
        have h5 := Nat.pow_le_pow_right (n := 2) (by omega) h4
        rw [Nat.pow_succ] at h5
        rw [List.length_append]; omega) hb'
    rw [rootT_append he hx (by omega) hcx] at this
    rw [show foldC (rootT x) (c :: r) = foldC (nodeT (rootT c) (rootT x)) r from rfl, this]
    simp
theorem Up.ne_nil {c : List Str} {r : List (List Str)} (h : Up (c :: r)) : c ≠ [] := by
  obtain ⟨e, he⟩ := h.head
  have := Nat.two_pow_pos e
  intro h0; rw [h0] at he; simp at he; omega
/-- the root of a list, by its parts -/
theorem root_parts {l : List Str} (hb : l.length < 9223372036854775808) : match parts l [] with
    | [] => l = []
    | c :: r => foldC (rootT c) r = rootT l := by
  obtain ⟨h1, h2⟩ := parts_ok l [] trivial
  simp only [List.reverse_nil, List.flatten_nil, List.nil_append] at h2
  generalize parts l [] = p at *
  cases p with
  | nil => simpa using h2.symm
  | cons c r =>
    simp only
    have h3 : r.reverse.flatten ++ c = l := by rw [← h2]; simp
    rw [foldC_root r c h1.ne_nil h1.tail (fun d hd => by
      cases r with
      | nil => cases hd
      | cons y r => injection hd with hd; subst hd; exact h1.2.1) (by rw [h3]; exact hb), h3]
end Go.Proofs.YtgbnngmpaefbcaaDoor
/-
  Digest: Root (18), its loops.
-/
namespace Go.Proofs.YtgbnngmpaefbcaaDoor
open Go

def natsA (l : List Nat) : List AV := l.map fun n : Nat => .int .i64 (n : Int)
theorem natsA_len (l : List Nat) : (natsA l).length = l.length := by simp [natsA]
theorem strsA_len (l : List Str) : (strsA l).length = l.length := by simp [strsA]
/-- two slices with rows of their own -/
def Sep (o1 o2 : AV) : Prop := ∀ id n m, ¬ (o1 = .sl id 0 n ∧ o2 = .sl id 0 m)
theorem Full.below {A : Arena} {esz id n : Nat} {xs : List AV} (h : Full A (.sl id 0 n) esz xs) : id < A.length := h.length_le.1

/-- 'append(s, ys..)', the row made anew -/
theorem appN_full {A : Arena} {o : AV} {xs ys : List AV} {bytes : Nat} (h : Full A o 1 xs) (hy : ys ≠ []) (hb : 0 < bytes) (hs : (xs.length + ys.length) * bytes ≤ 140737488355328) :
    ∃ B, evAppendN 1 bytes A o (.fs 1 ys) = some (.sl A.length 0 (xs.length + ys.length), B) ∧ B.length = A.length + 1 ∧ B[A.length]? = some (.row 1 false (xs ++ ys)) ∧ (∀ id, id < A.length → (∀ n, o ≠ .sl id 0 n) → B[id]? = A[id]?) := by
  rcases h with ⟨rfl, rfl⟩ | ⟨id, gr, rfl, h2⟩
  · refine ⟨A ++ [.row 1 false ys], ?_, by simp, by simp, fun id hid _ => by rw [List.getElem?_append_left hid]⟩
    have hp : ys.length ≠ 0 := by simpa using hy
    simp only [List.length_nil, Nat.zero_add] at hs
    simp [evAppendN, srcElems, hp, hb, hs]
  · refine ⟨A.set id .dead ++ [.row 1 false (xs ++ ys)], ?_, by simp, by simp, fun k hk hne => ?_⟩
    · simp [evAppendN, srcElems, h2, hb, hs]
    · rw [List.getElem?_append_left (by simpa using hk), List.getElem?_set_ne (fun e => hne _ (by rw [e]))]
theorem appN_take {A : Arena} {o : AV} {xs ys : List AV} {bytes k : Nat} (h : Full A o 1 xs) (hk : k ≤ xs.length) (hy : ys ≠ []) (hb : 0 < bytes) (hs : (k + ys.length) * bytes ≤ 140737488355328) :
    ∃ ok B, evSliceSl 1 A none (some (.int .i64 (k : Int))) o = some ok ∧ evAppendN 1 bytes A ok (.fs 1 ys) = some (.sl A.length 0 (k + ys.length), B) ∧ B.length = A.length + 1 ∧ B[A.length]? = some (.row 1 false (xs.take k ++ ys)) ∧ (∀ id, id < A.length → (∀ n, o ≠ .sl id 0 n) → B[id]? = A[id]?) := by
  rcases h with ⟨rfl, rfl⟩ | ⟨id, gr, rfl, h2⟩
  · obtain rfl : k = 0 := by simpa using hk
    have hp : ys.length ≠ 0 := by simpa using hy
    refine ⟨.nilS, A ++ [.row 1 false ys], rfl, ?_, by simp, by simp, fun id hid _ => by rw [List.getElem?_append_left hid]⟩
    simp only [Nat.zero_add] at hs
    simp [evAppendN, srcElems, hp, hb, hs]
  · refine ⟨.sl id 0 k, A.set id .dead ++ [.row 1 false (xs.take k ++ ys)], slice_hi h2 hk, ?_, by simp, by simp, fun k hk hne => ?_⟩
    · simp [evAppendN, srcElems, h2, hb, hs]
    · rw [List.getElem?_append_left (by simpa using hk), List.getElem?_set_ne (fun e => hne _ (by rw [e]))]
theorem Full.at {A : Arena} {o : AV} {xs : List AV} (h : Full A o 1 xs) {i : Nat} {e : AV} (he : xs[i]? = some e) (hc : loadElem e 1 0 false 1 = some e) : ∃ q, evIndexSl 1 A o (.int .i64 (i : Int)) = some q ∧ evLoad false 1 A q = some e := by
  have hi := (List.getElem?_eq_some_iff.1 he).1
  rcases h with ⟨rfl, rfl⟩ | ⟨id, gr, rfl, h2⟩
  · simp at hi
  · refine ⟨.ptr id i 0, ?_, ?_⟩
    · have : (i : Int) < (xs.length : Int) := by omega
      simp [evIndexSl, h2, hi]
    · simp only [evLoad, h2, he, hc]
      simp
theorem full_new {A B : Arena} {xs : List AV} (h : B[A.length]? = some (.row 1 false xs)) {n : Nat} (hn : n = xs.length) : Full B (.sl A.length 0 n) 1 xs := .inr ⟨A.length, false, by rw [hn], h⟩

/-- the two stacks in memory -/
structure Stk (A : Arena) (wv sv : AV) (p : List (List Str)) : Prop where
  w : Full A wv 1 (strsA (p.reverse.map rootT))
  s : Full A sv 1 (natsA (p.reverse.map List.length))
  sep : Sep wv sv
theorem Stk.lens {A : Arena} {wv sv : AV} {p : List (List Str)} (h : Stk A wv sv p) : evLenSl wv = some (.int .i64 (p.length : Int)) ∧ evLenSl sv = some (.int .i64 (p.length : Int)) := by
  have h1 := h.w.len
  have h2 := h.s.len
  simp [strsA, natsA] at h1 h2
  exact ⟨h1, h2⟩


noncomputable def fs18a : List (FuncId × HModel) := [(26, pureH 4 M26), (29, pureH 4 M29), (27, pureH 4 M27)]
@[simp] theorem fs18a_26 : lookM fs18a 26 = some (pureH 4 M26) := rfl
@[simp] theorem fs18a_29 : lookM fs18a 29 = some (pureH 4 M29) := rfl
@[simp] theorem fs18a_27 : lookM fs18a 27 = some (pureH 4 M27) := rfl
/-- what Root calls -/
structure E18 (E : Env) : Prop where
  c26 : ∀ args A, E.call (.func (.func 26) [] []) args A = pureH 4 M26 E.hand args A
  c29 : ∀ args A, E.call (.func (.func 29) [] []) args A = pureH 4 M29 E.hand args A

theorem sub_nat1 {a b : Nat} (h : b ≤ a) (h2 : a < 1000000) : evBin .sub (.int .i64 (a : Int)) (.int .i64 (b : Int)) = some (.int .i64 ((a - b : Nat) : Int)) := Dsub_nat a b h (by omega)
theorem gt_nat (a b : Nat) (k : IntKind) : evBin .gtr (.int k (a : Int)) (.int k (b : Int)) = some (.bool (decide (b < a))) := by
  rw [bGt]; simp

section
variable {E : Env}
variable {A : Arena} {wv sv : AV}
set_option maxRecDepth 100000 in
theorem stop18_one {c : List Str} (_h : Stk A wv sv [c]) (v8 v9 v10 : AV) :
    ∃ d, run E 100 [.code lp18x0] (st18x0 wv sv (.int .i64 1) v8 v9 v10) A = some (.exit 2 ((st18x0 wv sv (.int .i64 1) v8 v9 v10).set 12 d) A) := by
  have b0 : evBin .gtr (.int .i64 1) (.int .i64 1) = some (.bool false) := rfl
  refine ⟨.bool false, ?_⟩
  simp [lp18x0, b0, -evBin]
set_option maxRecDepth 100000 in
set_option maxHeartbeats 4000000 in
theorem stop18_ne {c d : List Str} {r : List (List Str)} (h : Stk A wv sv (c :: d :: r)) (hn : (c :: d :: r).length < 1000) (he : c.length ≠ d.length) (v8 v9 v10 : AV) :
    run E 100 [.code lp18x0] (st18x0 wv sv (.int .i64 ((c :: d :: r).length : Int)) v8 v9 v10) A = some (.exit 2 ((st18x0 wv sv (.int .i64 ((c :: d :: r).length : Int)) v8 v9 v10).set 12 (.bool false)) A) := by
  have hs := h.s
  rw [List.reverse_cons, List.reverse_cons, List.append_assoc, List.map_append] at hs
  obtain ⟨n, hnd⟩ : ∃ n, n = r.length := ⟨_, rfl⟩
  have hrl : (r.reverse.map List.length).length = n := by simp [hnd]
  have g1 : (natsA (r.reverse.map List.length ++ [d.length, c.length]))[n]? = some (.int .i64 (d.length : Int)) := by
    simp [natsA, hnd]
  have g2 : (natsA (r.reverse.map List.length ++ [d.length, c.length]))[n + 1]? = some (.int .i64 (c.length : Int)) := by
    rw [natsA, List.getElem?_map, List.getElem?_append_right (by omega), hrl]; simp
  obtain ⟨q1, i1, l1⟩ := hs.at g1 rfl
  obtain ⟨q2, i2, l2⟩ := hs.at g2 rfl
  have hl : (c :: d :: r).length = n + 2 := by simp [hnd]
  rw [hl] at hn ⊢
  have b0 := gt_nat (n + 2) 1 .i64
  rw [decide_eq_true (by omega), show ((1 : Nat) : Int) = 1 from rfl] at b0
  have b1 := sub_nat1 (a := n + 2) (b := 2) (by omega) (by omega)
  have b2 := sub_nat1 (a := n + 2) (b := 1) (by omega) (by omega)
  rw [show n + 2 - 2 = n by omega, show ((2 : Nat) : Int) = 2 from rfl] at b1
  rw [show n + 2 - 1 = n + 1 by omega, show ((1 : Nat) : Int) = 1 from rfl] at b2
  have b3 := eq_nat d.length c.length .i64
  rw [decide_eq_false (Ne.symm he)] at b3
  generalize ((n + 2 : Nat) : Int) = N2 at *
  generalize ((n + 1 : Nat) : Int) = N1 at *
  generalize (n : Int) = N0 at *
  simp [lp18x0, b0, b1, b2, b3, i1, i2, l1, l2, -evBin, -evIndexSl, -evLoad]
set_option maxRecDepth 100000 in
set_option maxHeartbeats 4000000 in
theorem merge18 (hE : E18 E) {c d : List Str} {r : List (List Str)} (h : Stk A wv sv (c :: d :: r)) (hn : (c :: d :: r).length < 1000) {e : Nat} (hd : d.length = 2 ^ e) (he : c.length = d.length) (hcl : c.length ≤ 1000) (v8 v9 v10 : AV) :
    ∃ wv' sv' A', run E 100 [.code lp18x0] (st18x0 wv sv (.int .i64 ((c :: d :: r).length : Int)) v8 v9 v10) A = some (.normal (st18x0 wv' sv' (.int .i64 (((d ++ c) :: r).length : Int)) v8 v9 v10) A') ∧ Stk A' wv' sv' ((d ++ c) :: r) := by
  have hp := Nat.two_pow_pos e
  have hw := h.w
  have hs := h.s
  rw [List.reverse_cons, List.reverse_cons, List.append_assoc, List.map_append] at hs hw
  replace hw : Full A wv 1 (strsA (r.reverse.map rootT ++ [rootT d, rootT c])) := hw
  replace hs : Full A sv 1 (natsA (r.reverse.map List.length ++ [d.length, c.length])) := hs
  obtain ⟨n, hnd⟩ : ∃ n, n = r.length := ⟨_, rfl⟩
  have hl : (c :: d :: r).length = n + 2 := by simp [hnd]
  have hl1 : ((d ++ c) :: r).length = n + 1 := by simp [hnd]
  rw [hl] at hn ⊢
  rw [hl1]
  have hrl : (r.reverse.map List.length).length = n := by simp [hnd]
  have hrw : (r.reverse.map rootT).length = n := by simp [hnd]
  have g1 : (natsA (r.reverse.map List.length ++ [d.length, c.length]))[n]? = some (.int .i64 (d.length : Int)) := by
    simp [natsA, hnd]
  have g2 : (natsA (r.reverse.map List.length ++ [d.length, c.length]))[n + 1]? = some (.int .i64 (c.length : Int)) := by
    rw [natsA, List.getElem?_map, List.getElem?_append_right (by omega), hrl]; simp
  have g3 : (strsA (r.reverse.map rootT ++ [rootT d, rootT c]))[n]? = some (.str (rootT d)) := by
    simp [strsA, strA, hnd]
  have g4 : (strsA (r.reverse.map rootT ++ [rootT d, rootT c]))[n + 1]? = some (.str (rootT c)) := by
    rw [strsA, List.getElem?_map, List.getElem?_append_right (by omega), hrw]; simp [strA]
  obtain ⟨q1, i1, l1⟩ := hs.at g1 rfl
  obtain ⟨q2, i2, l2⟩ := hs.at g2 rfl
  obtain ⟨q3, i3, l3⟩ := hw.at g3 rfl
  obtain ⟨q4, i4, l4⟩ := hw.at g4 rfl
  have b0 := gt_nat (n + 2) 1 .i64
  rw [decide_eq_true (by omega), show ((1 : Nat) : Int) = 1 from rfl] at b0
  have b1 := sub_nat1 (a := n + 2) (b := 2) (by omega) (by omega)
  have b2 := sub_nat1 (a := n + 2) (b := 1) (by omega) (by omega)
  rw [show n + 2 - 2 = n by omega, show ((2 : Nat) : Int) = 2 from rfl] at b1
  rw [show n + 2 - 1 = n + 1 by omega, show ((1 : Nat) : Int) = 1 from rfl] at b2
  have b3 := eq_nat d.length c.length .i64
  rw [decide_eq_true he.symm] at b3
  have hnode : nodeT (rootT d) (rootT c) = rootT (d ++ c) := (rootT_append hd (by intro h0; rw [h0] at he; simp at he; omega) (by omega) (by rw [List.length_append]; omega)).symm
  have m := M29_eq (a := rootT d) (b := rootT c) (by rw [rootT_len]; omega) (by rw [rootT_len]; omega)
  rw [hnode] at m
  obtain ⟨wk, B, s1, a1, k1, k2, k3⟩ := appN_take (ys := [.str (rootT (d ++ c))]) (bytes := 16) (k := n) hw (by rw [strsA_len]; simp [hnd]) (by simp) (by omega) (by simp; omega)
  -- the sizes in the new memory
  have hsB : Full B sv 1 (natsA (r.reverse.map List.length ++ [d.length, c.length])) := hs.keep fun id m hid => by
    subst hid
    exact k3 id hs.below (fun n' h' => h.sep id n' m ⟨h', rfl⟩)
  obtain ⟨q5, i5, l5⟩ := hsB.at g2 rfl
  obtain ⟨sk, C, s2, a2, k4, k5, k6⟩ := appN_take (ys := [.int .i64 ((2 * c.length : Nat) : Int)]) (bytes := 8) (k := n) hsB (by rw [natsA_len]; simp [hnd]) (by simp) (by omega) (by simp; omega)
  have m2 := Dmul_nat 2 c.length (by omega)
  rw [show ((2 : Nat) : Int) = 2 from rfl] at m2
  have hwt : (strsA (r.reverse.map rootT ++ [rootT d, rootT c])).take n ++ [.str (rootT (d ++ c))] = strsA (((d ++ c) :: r).reverse.map rootT) := by
    simp [strsA, strA, hnd]
  have hst : (natsA (r.reverse.map List.length ++ [d.length, c.length])).take n ++ [.int .i64 ((2 * c.length : Nat) : Int)] = natsA (((d ++ c) :: r).reverse.map List.length) := by
    have : d.length + c.length = 2 * c.length := by omega
    simp [natsA, hnd, this]
  have hsv : ∀ id m, sv = .sl id 0 m → id < A.length := fun id m hid => by subst hid; exact hs.below
  have hw2 : Full B (.sl A.length 0 (n + 1)) 1 (strsA (((d ++ c) :: r).reverse.map rootT)) := full_new (by rw [k2, hwt]) (by rw [strsA_len]; simp [hnd])
  have hw3 : Full C (.sl A.length 0 (n + 1)) 1 (strsA (((d ++ c) :: r).reverse.map rootT)) := hw2.keep fun id m hid => by
    injection hid with h1 h2 h3
    subst h1
    refine k6 _ (by omega) (fun n' h' => ?_)
    have := hsv _ _ h'
    omega
  have hs3 : Full C (.sl B.length 0 (n + 1)) 1 (natsA (((d ++ c) :: r).reverse.map List.length)) := full_new (by rw [k5, hst]) (by rw [natsA_len]; simp [hnd])
  refine ⟨.sl A.length 0 (n + 1), .sl B.length 0 (n + 1), C, ?_, hw3, hs3, fun id n1 n2 h => ?_⟩
  · have fs := frz_s
    have sc : ∀ s, scalarB 4 (.str s) = true := fun _ => rfl
    have c29 := hE.c29
    simp only [List.length_cons, List.length_nil, Nat.zero_add] at a1 a2
    generalize rootT (d ++ c) = RT at *
    generalize rootT d = RD at *
    generalize rootT c = RC at *
    generalize ((2 * c.length : Nat) : Int) = C2 at *
    generalize ((n + 2 : Nat) : Int) = N2 at *
    generalize ((n + 1 : Nat) : Int) = N1 at *
    generalize (n : Int) = N0 at *
    simp [lp18x0, b0, b1, b2, b3, i1, i2, i3, i4, i5, l1, l2, l3, l4, l5, c29, m, fs, s1, s2, a1, a2, m2, -evBin, -evIndexSl, -evLoad, -evSliceSl, -frz]
  · obtain ⟨h1, h2⟩ := h
    injection h1 with h1
    injection h2 with h2
    omega
end
end Go.Proofs.YtgbnngmpaefbcaaDoor
/-
  Digest: Root (18), the stack is built.
-/
namespace Go.Proofs.YtgbnngmpaefbcaaDoor
open Go

section
variable {E : Env}
theorem flat_len {c d : List Str} {r : List (List Str)} : ((d ++ c) :: r).flatten.length = (c :: d :: r).flatten.length := by simp; omega
theorem loop18x0 (hE : E18 E) (v8 v9 v10 : AV) : ∀ (f : Nat) (p : List (List Str)) (A : Arena) (wv sv : AV) (m : Nat), p.length ≤ f + 1 → p ≠ [] → p.length < 1000 → p.flatten.length ≤ 900 → Up1 p → Stk A wv sv p → f < m →
    ∃ wv' sv' n d A', iter (evC E 100 lp18x0) mask18x0 m (st18x0 wv sv (.int .i64 (p.length : Int)) v8 v9 v10) A = some (.exit 2 ((st18x0 wv' sv' n v8 v9 v10).set 12 d) A') ∧ Stk A' wv' sv' (joinC f p)
  | f, [], A, wv, sv, m, _, h0, _, _, _, _, _ => absurd rfl h0
  | f, [c], A, wv, sv, m, _, _, _, _, _, hS, hm => by
    obtain ⟨m, rfl⟩ : ∃ j, m = j + 1 := ⟨m - 1, by omega⟩
    obtain ⟨d, hd⟩ := stop18_one (E := E) hS v8 v9 v10
    have hj : joinC f [c] = [c] := by cases f <;> rfl
    refine ⟨wv, sv, .int .i64 1, d, A, ?_, by rw [hj]; exact hS⟩
    rw [iter_succ, cl18x0]
    rw [show (([c] : List (List Str)).length : Int) = 1 from rfl, hd]
  | 0, c :: d :: r, A, wv, sv, m, hf, _, _, _, _, _, _ => by simp at hf
  | f + 1, c :: d :: r, A, wv, sv, m, hf, _, hn, hs, hu, hS, hm => by
    obtain ⟨m, rfl⟩ : ∃ j, m = j + 1 := ⟨m - 1, by omega⟩
    unfold joinC
    by_cases he : c.length = d.length
    · rw [if_pos he]
      obtain ⟨e, hd⟩ := hu.2.2.head
      have hcl : c.length ≤ 1000 := by
        have : c.length ≤ (c :: d :: r).flatten.length := by simp
        omega
      obtain ⟨wv1, sv1, A1, h1, h2⟩ := merge18 hE hS hn hd he hcl v8 v9 v10
      obtain ⟨wv', sv', n, dd, A', h3, h4⟩ := loop18x0 hE v8 v9 v10 f ((d ++ c) :: r) A1 wv1 sv1 m (by simpa using hf) (by simp) (by simp at hn ⊢; omega) (by rw [flat_len]; exact hs) (hu.join he) h2 (by omega)
      refine ⟨wv', sv', n, dd, A', ?_, h4⟩
      rw [iter_succ, cl18x0, h1]
      exact h3
    · rw [if_neg he]
      refine ⟨wv, sv, .int .i64 ((c :: d :: r).length : Int), .bool false, A, ?_, hS⟩
      rw [iter_succ, cl18x0, stop18_ne hS hn he v8 v9 v10]

set_option maxRecDepth 100000 in
set_option maxHeartbeats 4000000 in
theorem round18x1 (hE : E18 E) {l : List Str} {a : AV} (ha : SlA 1 (strsA l) a) {i : Nat} {s : Str} (hs : l[i]? = some s) (hsl : s.length ≤ 4000) (hl : l.length ≤ 900) {p : List (List Str)} (hp : Up p) (hpl : p.length ≤ 90) (hpf : p.flatten.length + 1 ≤ 900) {A : Arena} {wv sv : AV} (hS : Stk A wv sv p) :
    ∃ wv' sv' A', run E 100 [.code lp18x1] (st18x1 wv sv a (.int .i64 (l.length : Int)) (.int .i64 (i : Int))) A = some (.normal (st18x1 wv' sv' a (.int .i64 (l.length : Int)) (.int .i64 ((i + 1 : Nat) : Int))) A') ∧ Stk A' wv' sv' (joinC p.length ([s] :: p)) := by
  have hil := (List.getElem?_eq_some_iff.1 hs).1
  have c0 := Dlt_nat i l.length .i64
  rw [decide_eq_true hil] at c0
  have p0 := Dadd_nat i 1 (by omega)
  rw [show ((1 : Nat) : Int) = 1 from rfl] at p0
  have ix := fun A => ha.strs hs (A := A) .i64
  have m := M26_eq hsl
  obtain ⟨B, a1, k1, k2, k3⟩ := appN_full (ys := [.str (leafT s)]) (bytes := 16) hS.w (by simp) (by omega) (by rw [strsA_len]; simp; omega)
  have hsB : Full B sv 1 (natsA (p.reverse.map List.length)) := hS.s.keep fun id m hid => by
    have hb := hS.s
    subst hid
    exact k3 id hb.below (fun n' h' => hS.sep id n' m ⟨h', rfl⟩)
  obtain ⟨C, a2, k4, k5, k6⟩ := appN_full (ys := [.int .i64 1]) (bytes := 8) hsB (by simp) (by omega) (by rw [natsA_len]; simp; omega)
  have hwt : strsA (p.reverse.map rootT) ++ [.str (leafT s)] = strsA (([s] :: p).reverse.map rootT) := by simp [strsA, strA, rootT_one]
  have hst : natsA (p.reverse.map List.length) ++ [.int .i64 1] = natsA (([s] :: p).reverse.map List.length) := by simp [natsA]
  have hlw : (strsA (p.reverse.map rootT)).length = p.length := by rw [strsA_len]; simp
  have hls : (natsA (p.reverse.map List.length)).length = p.length := by rw [natsA_len]; simp
  simp only [List.length_cons, List.length_nil, Nat.zero_add] at a1 a2
  rw [hlw] at a1
  rw [hls] at a2
  have hsv : ∀ id m, sv = .sl id 0 m → id < A.length := fun id m hid => by have hb := hS.s; subst hid; exact hb.below
  have hw2 : Full B (.sl A.length 0 (p.length + 1)) 1 (strsA (([s] :: p).reverse.map rootT)) := full_new (by rw [k2, hwt]) (by rw [strsA_len]; simp)
  have hw3 : Full C (.sl A.length 0 (p.length + 1)) 1 (strsA (([s] :: p).reverse.map rootT)) := hw2.keep fun id m hid => by
    injection hid with h1 h2 h3
    subst h1
    refine k6 _ (by omega) (fun n' h' => ?_)
    have := hsv _ _ h'
    omega
  have hs3 : Full C (.sl B.length 0 (p.length + 1)) 1 (natsA (([s] :: p).reverse.map List.length)) := full_new (by rw [k5, hst]) (by rw [natsA_len]; simp)
  have hS3 : Stk C (.sl A.length 0 (p.length + 1)) (.sl B.length 0 (p.length + 1)) ([s] :: p) := ⟨hw3, hs3, fun id n1 n2 h => by
    obtain ⟨h1, h2⟩ := h
    injection h1 with h1
    injection h2 with h2
    omega⟩
  obtain ⟨wv', sv', n, d, A', lp, hS4⟩ := loop18x0 hE a (.int .i64 (l.length : Int)) (.int .i64 (i : Int)) p.length ([s] :: p) C _ _ 100 (by simp) (by simp) (by simp; omega) (by simp at hpf ⊢; omega) (hp.one1 s) hS3 (by omega)
  refine ⟨wv', sv', A', ?_, hS4⟩
  have ln : evLenSl (.sl B.length 0 (p.length + 1)) = some (.int .i64 ((([s] :: p).length : Nat) : Int)) := by simp [evLenSl]
  have fs := frz_s
  have sc : ∀ s, scalarB 4 (.str s) = true := fun _ => rfl
  have c26 := hE.c26
  generalize ((([s] :: p).length : Nat) : Int) = N3 at *
  generalize ((i + 1 : Nat) : Int) = I1 at *
  generalize (l.length : Int) = N at *
  generalize (i : Int) = I0 at *
  generalize p.length + 1 = P1 at *
  generalize leafT s = LS at *
  simp [lp18x1, c0, p0, ix, load_fp1, c26, m, fs, a1, a2, ln, go18x0 lp, -evBin, -evIndexSl, -evLoad, -evLenSl, -frz]
theorem parts_flat_len : ∀ (r : List Str) (p : List (List Str)), Up p → (parts r p).flatten.length = p.flatten.length + r.length := fun r p h => by
  have h2 := (parts_ok r p h).2
  have h3 : ∀ q : List (List Str), q.reverse.flatten.length = q.flatten.length := fun q => by simp [List.length_flatten, List.sum_reverse]
  rw [← h3, h2, List.length_append, h3]
theorem Up.len_le : ∀ (p : List (List Str)), Up p → p.length ≤ p.flatten.length
  | [], _ => by simp
  | c :: r, h => by
    have h1 := Up.len_le r h.tail
    obtain ⟨e, he⟩ := h.head
    have := Nat.two_pow_pos e
    rw [List.flatten_cons, List.length_append, List.length_cons]
    omega
theorem loop18x1 (hE : E18 E) {l : List Str} {a : AV} (ha : SlA 1 (strsA l) a) (hsl : ∀ s ∈ l, s.length ≤ 4000) (hl : l.length ≤ 80) : ∀ (r : List Str) (i : Nat) (p : List (List Str)) (A : Arena) (wv sv : AV) (m : Nat), i ≤ l.length → l.drop i = r → Up p → p.flatten.length + r.length = l.length → Stk A wv sv p → r.length < m →
    ∃ wv' sv' A', iter (evC E 100 lp18x1) mask18x1 m (st18x1 wv sv a (.int .i64 (l.length : Int)) (.int .i64 (i : Int))) A = some (.exit 0 ((st18x1 wv' sv' a (.int .i64 (l.length : Int)) (.int .i64 (l.length : Int))).set 11 (.bool false)) A') ∧ Stk A' wv' sv' (parts r p) := by
  intro r
  induction r with
  | nil =>
    intro i p A wv sv m hil hr hp hpf hS hm
    obtain ⟨m, rfl⟩ : ∃ k, m = k + 1 := ⟨m - 1, by omega⟩
    have : l.length ≤ i := List.drop_eq_nil_iff.1 hr
    obtain rfl : i = l.length := by omega
    refine ⟨wv, sv, A, ?_, hS⟩
    have c0 := Dlt_nat l.length l.length .i64
    rw [decide_eq_false (by omega)] at c0
    rw [iter_succ, cl18x1]
    generalize (l.length : Int) = N at *
    simp [lp18x1, c0, -evBin]
  | cons s r ih =>
    intro i p A wv sv m hil hr hp hpf hS hm
    obtain ⟨m, rfl⟩ : ∃ k, m = k + 1 := ⟨m - 1, by omega⟩
    obtain ⟨h1, h2, h3⟩ := drop_cons hr
    have hple := Up.len_le p hp
    simp only [List.length_cons] at hpf hm
    obtain ⟨wv1, sv1, A1, h4, h5⟩ := round18x1 hE ha h1 (hsl s (List.mem_of_getElem? h1)) (by omega) hp (by omega) (by omega) hS
    have hp1 := joinC_up p.length ([s] :: p) (by simp) (hp.one1 s)
    have hpf1 : (joinC p.length ([s] :: p)).flatten.length = p.flatten.length + 1 := by
      have h3 : ∀ q : List (List Str), q.reverse.flatten.length = q.flatten.length := fun q => by simp [List.length_flatten, List.sum_reverse]
      rw [← h3, joinC_flat, h3]; simp
    obtain ⟨wv', sv', A', h6, h7⟩ := ih (i + 1) (joinC p.length ([s] :: p)) A1 wv1 sv1 m (by omega) h2 hp1 (by omega) h5 (by omega)
    refine ⟨wv', sv', A', ?_, h7⟩
    rw [iter_succ, cl18x1, h4]
    exact h6
end
end Go.Proofs.YtgbnngmpaefbcaaDoor
/-
  Digest: Backward over strings (41, 54); Root (18), as a whole.
-/
namespace Go.Proofs.YtgbnngmpaefbcaaDoor
open Go

noncomputable def H41 : HModel := fun _ => evFun (envOf GD []) 10 mf41
theorem spec41 : FnSpecY Tryd.prog GD 41 H41 := (evFun_sound (envOf_sound lookM_nil) rfl at41 comp41 PureIn.nil).y
noncomputable def H54 : HModel := fun h => evFun (envY GD [] h) 100 mf54
theorem spec54 : FnSpecY Tryd.prog GD 54 H54 := evFun_soundY lookM_nil at54 comp54 PureIn.nil
theorem H41_eq (hd : Handler) (A : Arena) (id o n : Nat) : H41 hd [.sl id o n] A = some (.func (.func 54) [] [.ptr A.length 0 0], A ++ [.row 1 false [.sl id o n]]) := by
  unfold H41
  rw [evFun_run _ _ rfl]
  simp [mf41, pack]

/-- what Backward finds: a slice of strings -/
structure BackAt (A : Arena) (b id n : Nat) (l : List Str) : Prop where
  rb : A[b]? = some (.row 1 false [.sl id 0 n])
  ri : ∃ gr xs, A[id]? = some (.row 1 gr xs) ∧ ∀ (i : Nat) (s : Str), l[i]? = some s → xs[i]? = some (AV.str s)
section
variable {b id : Nat} {l : List Str}
set_option maxRecDepth 100000 in
set_option maxHeartbeats 4000000 in
theorem round54 (h : Handler) (L : Nat) {A B : Arena} (hA : BackAt A b id l.length l) {i : Nat} {s : Str} (hs : l[i]? = some s) (hl : l.length ≤ 1000) (hy : h (.func (.yield L) [] []) [.int .i64 (i : Int), .str s] A = some (.bool true, B)) :
    run (envY GD [] h) 100 [.code lp54x0] (st54x0 (.func (.yield L) [] []) (.ptr b 0 0) (.int .i64 (i : Int))) A = some (.normal (st54x0 (.func (.yield L) [] []) (.ptr b 0 0) (.int .i64 ((i : Int) - 1))) B) := by
  obtain ⟨gr, xs, hri, hx⟩ := hA.ri
  have hil := (List.getElem?_eq_some_iff.1 hs).1
  have lb : evLoad false 1 A (.ptr b 0 0) = some (.sl id 0 l.length) := load_arr hA.rb rfl rfl
  have c0 : evBin .geq (.int .i64 (i : Int)) (.int .i64 0) = some (.bool true) := by rw [bGe]; simp
  have hxi := hx i s hs
  have hxl := (List.getElem?_eq_some_iff.1 hxi).1
  have ix : evIndexSl 1 A (.sl id 0 l.length) (.int .i64 (i : Int)) = some (.ptr id i 0) := by
    have : (i : Int) < (l.length : Int) := by omega
    simp [evIndexSl, hri, hil]
  have ld : evLoad false 1 A (.ptr id i 0) = some (.str s) := by
    have hc : loadElem (.str s) 1 0 false 1 = some (.str s) := rfl
    simp only [evLoad, hri, hxi, hc]
    simp
  have q0 : evBin .sub (.int .i64 (i : Int)) (.int .i64 1) = some (.int .i64 ((i : Int) - 1)) := bSub _ _ (by unfold inI; omega)
  generalize ((i : Int) - 1) = I1 at *
  generalize (i : Int) = I0 at *
  simp [lp54x0, lb, c0, ix, ld, hy, q0, -evBin, -evIndexSl, -evLoad]
theorem loop54 (h : Handler) (L : Nat) (hl : l.length ≤ 90) (T : Nat → Arena) (hT : ∀ j, j ≤ l.length → BackAt (T j) b id l.length l)
    (hy : ∀ (i : Nat) (s : Str), l[i]? = some s → h (.func (.yield L) [] []) [.int .i64 (i : Int), .str s] (T (i + 1)) = some (.bool true, T i)) : ∀ (j m : Nat), j ≤ l.length → j < m →
    iter (evC (envY GD [] h) 100 lp54x0) mask54x0 m (st54x0 (.func (.yield L) [] []) (.ptr b 0 0) (.int .i64 ((j : Int) - 1))) (T j) = some (.exit 0 ((st54x0 (.func (.yield L) [] []) (.ptr b 0 0) (.int .i64 (-1))).set 3 (.bool false)) (T 0)) := by
  intro j
  induction j with
  | zero =>
    intro m _ hm
    obtain ⟨m, rfl⟩ : ∃ k, m = k + 1 := ⟨m - 1, by omega⟩
    have c0 : evBin .geq (.int .i64 (-1)) (.int .i64 0) = some (.bool false) := rfl
    rw [iter_succ, cl54x0, show (((0 : Nat) : Int) - 1) = -1 from rfl]
    simp [lp54x0, c0, -evBin]
  | succ j ih =>
    intro m hj hm
    obtain ⟨m, rfl⟩ : ∃ k, m = k + 1 := ⟨m - 1, by omega⟩
    have hs : l[j]? = some l[j] := List.getElem?_eq_getElem (by omega)
    rw [iter_succ, cl54x0, show (((j + 1 : Nat) : Int) - 1) = (j : Int) by omega, round54 h L (hT (j + 1) hj) hs (by omega) (hy j _ hs)]
    exact ih m (by omega) (by omega)
theorem H54_eq (h : Handler) (L : Nat) (hl : l.length ≤ 90) (T : Nat → Arena) (hT : ∀ j, j ≤ l.length → BackAt (T j) b id l.length l)
    (hy : ∀ (i : Nat) (s : Str), l[i]? = some s → h (.func (.yield L) [] []) [.int .i64 (i : Int), .str s] (T (i + 1)) = some (.bool true, T i)) : H54 h [.func (.yield L) [] [], .ptr b 0 0] (T l.length) = some (.tup [], T 0) := by
  have lp := loop54 h L hl T hT hy l.length 100 (Nat.le_refl _) (by omega)
  have lb : evLoad false 1 (T l.length) (.ptr b 0 0) = some (.sl id 0 l.length) := load_arr (hT _ (Nat.le_refl _)).rb rfl rfl
  have ln : evLenSl (.sl id 0 l.length) = some (.int .i64 (l.length : Int)) := rfl
  have q0 : evBin .sub (.int .i64 (l.length : Int)) (.int .i64 1) = some (.int .i64 ((l.length : Int) - 1)) := bSub _ _ (by unfold inI; omega)
  unfold H54
  rw [evFun_run _ _ rfl]
  generalize ((l.length : Int) - 1) = N1 at *
  generalize (l.length : Int) = N0 at *
  generalize T l.length = TN at *
  simp [mf54, lb, ln, q0, go54x0 lp, pack, -evBin, -evLoad, -evLenSl]
end

noncomputable def fs18 : List (FuncId × HModel) := [(26, pureH 4 M26), (29, pureH 4 M29), (27, pureH 4 M27), (41, H41), (54, H54)]
@[simp] theorem fs18_26 : lookM fs18 26 = some (pureH 4 M26) := rfl
@[simp] theorem fs18_29 : lookM fs18 29 = some (pureH 4 M29) := rfl
@[simp] theorem fs18_27 : lookM fs18 27 = some (pureH 4 M27) := rfl
@[simp] theorem fs18_41 : lookM fs18 41 = some H41 := rfl
@[simp] theorem fs18_54 : lookM fs18 54 = some H54 := rfl
theorem sound18 : ∀ f M, lookM fs18 f = some M → FnSpecY Tryd.prog GD f M := lookM_cons (FnSpecY.of_pure spec26 4) (lookM_cons (FnSpecY.of_pure spec29 4) (lookM_cons (FnSpecY.of_pure spec27 4) (lookM_cons spec41 (lookM_cons spec54 lookM_nil))))
theorem E18_18 : E18 (envOf GD fs18) := ⟨fun _ _ => by simp [envOf], fun _ _ => by simp [envOf]⟩

section
variable {b id r6 : Nat} {l : List Str}
/-- the memory when the elements from i on are done -/
def T18 (X : Arena) (r6 : Nat) (outs : Nat → Str) (i : Nat) : Arena := X.set r6 (.row 1 false [.str (outs i)])
set_option maxRecDepth 100000 in
theorem yield18 (hd : Handler) {X : Arena} {n0 L i : Nat} {r : Loop} {s : Str} {outs : Nat → Str} {v0 v1 v2 v3 v4 v5 v7 v8 v9 v10 v11 v12 v13 v14 v15 v16 : AV} (hn : X[n0]? = some (.loop r 0)) (h6 : r6 < X.length) (hne : n0 ≠ r6) (hs : s.length = 32) (ho : (outs (i + 1)).length = 32) (hi : outs i = nodeT s (outs (i + 1))) :
    yieldH n0 L r [v0, v1, v2, v3, v4, v5, .ptr r6 0 0, v7, v8, v9, v10, v11, v12, v13, v14, v15, v16] [15, 16] (evC (envY GD fs18 hd) 100 lp18x2) (evC (envY GD fs18 hd) 100 lp18x3) hd (.func (.yield L) [] []) [.int .i64 (i : Int), .str s] (T18 X r6 outs (i + 1)) = some (.bool true, T18 X r6 outs i) := by
  have hnT : (T18 X r6 outs (i + 1))[n0]? = some (.loop r 0) := by rw [T18, List.getElem?_set_ne (Ne.symm hne)]; exact hn
  have m := M29_eq (a := s) (b := outs (i + 1)) (by omega) (by omega)
  rw [← hi] at m
  obtain ⟨Y, hY⟩ : ∃ Y, Y = (T18 X r6 outs (i + 1)).set n0 .dead := ⟨_, rfl⟩
  have hYl : r6 < Y.length := by rw [hY]; simp [T18]; exact h6
  have hY6 : Y[r6]? = some (.row 1 false [.str (outs (i + 1))]) := by rw [hY, List.getElem?_set_ne hne, T18]; simp [h6]
  have ld : evLoad false 1 Y (.ptr r6 0 0) = some (.str (outs (i + 1))) := load_arr hY6 rfl rfl
  have st : evStore 1 Y (.ptr r6 0 0) (.str (outs i)) = some (Y.set r6 (.row 1 false [.str (outs i)])) := store_arr hY6 rfl rfl rfl
  have ha : run (envY GD fs18 hd) 100 [.code lp18x2] [v0, v1, v2, v3, v4, v5, .ptr r6 0 0, v7, v8, v9, v10, v11, v12, v13, v14, .int .i64 (i : Int), .str s] (T18 X r6 outs (i + 1)) = some (.normal [v0, v1, v2, v3, v4, v5, .ptr r6 0 0, .str s, v8, v9, v10, v11, v12, v13, v14, .int .i64 (i : Int), .str s] (T18 X r6 outs (i + 1))) := by simp [lp18x2]
  have fs := frz_s
  have sc : ∀ s, scalarB 4 (.str s) = true := fun _ => rfl
  have hb : run (envY GD fs18 hd) 100 [.code lp18x3] [v0, v1, v2, v3, v4, v5, .ptr r6 0 0, .str s, v8, v9, v10, v11, v12, v13, v14, .int .i64 (i : Int), .str s] Y = some (.normal [.undef, .undef, .undef, .undef, .undef, .undef, .undef, .undef, .undef, .undef, .undef, .undef, .undef, .undef, .undef, .undef, .undef] (Y.set r6 (.row 1 false [.str (outs i)]))) := by
    generalize outs i = O0 at *
    generalize outs (i + 1) = O1 at *
    simp [lp18x3, ld, m, fs, st, -evLoad, -evStore, -frz]
  have hsa : setAll [v0, v1, v2, v3, v4, v5, .ptr r6 0 0, v7, v8, v9, v10, v11, v12, v13, v14, v15, v16] [15, 16] [.int .i64 (i : Int), .str s] = some [v0, v1, v2, v3, v4, v5, .ptr r6 0 0, v7, v8, v9, v10, v11, v12, v13, v14, .int .i64 (i : Int), .str s] := rfl
  rw [hY] at hb
  have hy := yieldH_normal (l := L) (h := hd) hnT hsa ha hnT hb
  rw [hy]
  congr 2
  unfold T18
  apply List.ext_getElem?
  intro k
  by_cases hk : k = n0
  · subst hk
    have : k < X.length := (List.getElem?_eq_some_iff.1 hn).1
    rw [List.getElem?_set_self (by simp; exact this), List.getElem?_set_ne (Ne.symm hne), hn]
  · by_cases hk6 : k = r6
    · subst hk6
      rw [List.getElem?_set_ne hne, List.getElem?_set_self (by simp; exact h6), List.getElem?_set_self h6]
    · rw [List.getElem?_set_ne (Ne.symm hk), List.getElem?_set_ne (Ne.symm hk6), List.getElem?_set_ne (Ne.symm hk), List.getElem?_set_ne (Ne.symm hk6), List.getElem?_set_ne (Ne.symm hk6)]
set_option maxRecDepth 100000 in
theorem range18 {X : Arena} {outs : Nat → Str} (hl : l.length ≤ 90) (hB : BackAt X b id l.length l) (hX6 : X[r6]? = some (.row 1 false [.str (outs l.length)])) (hb6 : b ≠ r6) (hi6 : id ≠ r6) (hlen : ∀ s ∈ l, s.length = 32) (ho : ∀ i, (outs i).length = 32) (hst : ∀ (i : Nat) (s : Str), l[i]? = some s → outs i = nodeT s (outs (i + 1)))
    (v0 v1 v2 v3 v4 v5 v7 v8 v9 v10 v11 v12 v13 v15 v16 : AV) (K : List KC) :
    run (envOf GD fs18) 100 (.code (.rangeFunc (.var 14) [15, 16] lp18x2 lp18x3) :: K) [v0, v1, v2, v3, v4, v5, .ptr r6 0 0, v7, v8, v9, v10, v11, v12, v13, .func (.func 54) [] [.ptr b 0 0], v15, v16] X =
      after (envOf GD fs18) 100 K (.normal [v0, v1, v2, v3, v4, v5, .ptr r6 0 0, v7, v8, v9, v10, v11, v12, v13, .func (.func 54) [] [.ptr b 0 0], v15, v16] (T18 (X ++ [.dead]) r6 outs 0)) := by
  refine run_rangeFunc _ _ _ _ _ fun L r => ?_
  have h6 := (List.getElem?_eq_some_iff.1 hX6).1
  have hbl := (List.getElem?_eq_some_iff.1 hB.rb).1
  obtain ⟨gr, xs, hri, hx⟩ := hB.ri
  have hil := (List.getElem?_eq_some_iff.1 hri).1
  have old : ∀ {k : Nat}, k < X.length → (X ++ [Ent.loop r 0])[k]? = X[k]? := fun h => List.getElem?_append_left h
  have hT : ∀ j, j ≤ l.length → BackAt (T18 (X ++ [Ent.loop r 0]) r6 outs j) b id l.length l := fun j _ => by
    refine ⟨?_, gr, xs, ?_, hx⟩
    · rw [T18, List.getElem?_set_ne (Ne.symm hb6), old hbl]; exact hB.rb
    · rw [T18, List.getElem?_set_ne (Ne.symm hi6), old hil]; exact hri
  have hTn : T18 (X ++ [Ent.loop r 0]) r6 outs l.length = X ++ [Ent.loop r 0] := by
    rw [T18]
    have := (List.getElem?_eq_some_iff.1 ((old h6).trans hX6)).2
    rw [← this, List.set_getElem_self]
  have hc := H54_eq (yieldH X.length L r [v0, v1, v2, v3, v4, v5, .ptr r6 0 0, v7, v8, v9, v10, v11, v12, v13, .func (.func 54) [] [.ptr b 0 0], v15, v16] [15, 16] (evC (envY GD fs18 fun _ _ _ => none) 100 lp18x2) (evC (envY GD fs18 fun _ _ _ => none) 100 lp18x3) fun _ _ _ => none) L hl (T18 (X ++ [Ent.loop r 0]) r6 outs) hT
    (fun i s hs => yield18 _ (by simp) (by simp; omega) (by omega) (hlen s (List.mem_of_getElem? hs)) (ho _) (hst i s hs))
  rw [hTn] at hc
  have hcall : callM fs18 (yieldH X.length L r [v0, v1, v2, v3, v4, v5, .ptr r6 0 0, v7, v8, v9, v10, v11, v12, v13, .func (.func 54) [] [.ptr b 0 0], v15, v16] [15, 16] (evC (envY GD fs18 fun _ _ _ => none) 100 lp18x2) (evC (envY GD fs18 fun _ _ _ => none) 100 lp18x3) fun _ _ _ => none)
      (.func (.func 54) [] [.ptr b 0 0]) [.func (.yield L) [] []] (X ++ [Ent.loop r 0]) = _ := hc
  show (match callM fs18 _ (.func (.func 54) [] [.ptr b 0 0]) [.func (.yield L) [] []] (X ++ [Ent.loop r 0]) with
    | some (_, A') => afterR X.length _ A'
    | none => none) = _
  erw [hcall]
  have e1 : (T18 (X ++ [Ent.loop r 0]) r6 outs 0)[X.length]? = some (.loop r 0) := by
    rw [T18, List.getElem?_set_ne (by omega)]; simp
  simp only [afterR, e1]
  unfold T18
  rw [List.set_comm _ _ (by omega)]
  simp
end
end Go.Proofs.YtgbnngmpaefbcaaDoor
/-
  Digest: Root (18), as a whole.
-/
namespace Go.Proofs.YtgbnngmpaefbcaaDoor
open Go

noncomputable def M18 : PModel := fun args => evP (envOf GD fs18) 100 mf18 1 args
theorem spec18 : PureSpec Tryd.prog GD 18 M18 := PureSpec.of_ev (E := envOf GD fs18) (envOf_sound sound18) rfl at18 comp18 1 fun _ _ h => ⟨100, h⟩
def outsT (c : List Str) (r : List (List Str)) (i : Nat) : Str := foldC (rootT c) (r.take (r.length - i))
theorem foldC_len (r : List (List Str)) : ∀ o : Str, o.length = 32 → (foldC o r).length = 32 := by
  induction r with
  | nil => intro o h; exact h
  | cons c r ih => intro o h; exact ih _ (nodeT_len _ _)
theorem outsT_step (c : List Str) (r : List (List Str)) (i : Nat) (s : Str) (h : (r.reverse.map rootT)[i]? = some s) : outsT c r i = nodeT s (outsT c r (i + 1)) := by
  have hi : i < r.length := by have := (List.getElem?_eq_some_iff.1 h).1; simpa using this
  rw [List.getElem?_map, List.getElem?_reverse hi] at h
  obtain ⟨k, hk⟩ : ∃ k, r.length = k + 1 + i := ⟨r.length - 1 - i, by omega⟩
  rw [show r.length - 1 - i = k by omega] at h
  obtain ⟨d, hd, rfl⟩ : ∃ d, r[k]? = some d ∧ rootT d = s := by simpa using h
  obtain ⟨hkl, hd2⟩ := List.getElem?_eq_some_iff.1 hd
  unfold outsT
  rw [show r.length - i = k + 1 by omega, show r.length - (i + 1) = k by omega, ← List.take_append_getElem hkl, hd2]
  simp [foldC]
set_option maxRecDepth 100000 in
set_option maxHeartbeats 4000000 in
theorem M18_eq {l : List Str} {a : AV} (ha : SlA 1 (strsA l) a) (hsl : ∀ s ∈ l, s.length ≤ 4000) (hl : l.length ≤ 80) : M18 [a] = some (.str (rootT l)) := by
  have hS0 : Stk [] .nilS .nilS [] := ⟨.inl ⟨rfl, rfl⟩, .inl ⟨rfl, rfl⟩, fun _ _ _ h => by cases h.1⟩
  obtain ⟨wv, sv, A, lp, hS⟩ := loop18x1 E18_18 ha hsl hl l 0 [] [] .nilS .nilS 100 (by omega) rfl trivial (by simp) hS0 (by omega)
  have hpf := parts_flat_len l [] trivial
  have hup := (parts_ok l [] trivial).1
  have hroot := root_parts (l := l) (by omega)
  have hple := Up.len_le _ hup
  have la := ha.slen
  have fs := frz_s
  have sc : ∀ s, scalarB 4 (.str s) = true := fun _ => rfl
  rw [show ((0 : Nat) : Int) = 0 from rfl] at lp
  generalize parts l [] = p at *
  cases p with
  | nil =>
    simp only at hroot
    subst hroot
    have ln := hS.lens.1
    have e0 : evBin .eql (.int .i64 0) (.int .i64 0) = some (.bool true) := rfl
    have m := M27_eq (s := []) (by simp)
    rw [rootT_nil]
    simp only [List.length_nil] at ln la lp
    rw [show ((0 : Nat) : Int) = 0 from rfl] at ln la lp
    unfold M18
    rw [evP_run _ _ rfl]
    generalize sumT [] = S at *
    simp [mf18, la, go18x1 lp, ln, e0, m, fs, -evBin, -evLenSl, -frz]
  | cons c r =>
    simp only at hroot
    obtain ⟨n, hn⟩ : ∃ n, n = r.length := ⟨_, rfl⟩
    have hrl : (r.reverse.map rootT).length = n := by simp [hn]
    have ln := hS.lens.1
    rw [show (c :: r).length = n + 1 by simp [hn]] at ln
    have hw := hS.w
    rw [List.reverse_cons, List.map_append] at hw
    replace hw : Full A wv 1 (strsA (r.reverse.map rootT ++ [rootT c])) := hw
    have hwl : (strsA (r.reverse.map rootT ++ [rootT c])).length = n + 1 := by rw [strsA_len]; simp [hn]
    obtain ⟨id, gr, hwv, hid⟩ : ∃ id gr, wv = .sl id 0 (n + 1) ∧ A[id]? = some (.row 1 gr (strsA (r.reverse.map rootT ++ [rootT c]))) := by
      rcases hw with ⟨_, h⟩ | ⟨id, gr, h1, h2⟩
      · rw [h] at hwl; simp at hwl
      · exact ⟨id, gr, by rw [h1, hwl], h2⟩
    subst hwv
    have hidl := (List.getElem?_eq_some_iff.1 hid).1
    have hn90 : n ≤ 80 := by
      have : (c :: r).length ≤ (c :: r).flatten.length := hple
      simp only [List.length_cons] at this
      simp only [List.flatten_nil, List.length_nil, Nat.zero_add] at hpf
      omega
    have e0 := eq_nat (n + 1) 0 .i64
    rw [decide_eq_false (by omega), show ((0 : Nat) : Int) = 0 from rfl] at e0
    have q0 := sub_nat1 (a := n + 1) (b := 1) (by omega) (by omega)
    rw [show n + 1 - 1 = n by omega, show ((1 : Nat) : Int) = 1 from rfl] at q0
    have g : (strsA (r.reverse.map rootT ++ [rootT c]))[n]? = some (.str (rootT c)) := by
      simp [strsA, strA, hn]
    have ix : evIndexSl 1 A (.sl id 0 (n + 1)) (.int .i64 (n : Int)) = some (.ptr id n 0) := by
      have : (n : Int) < ((n + 1 : Nat) : Int) := by omega
      simp only [evIndexSl, hid]
      simp; omega
    have ld : evLoad false 1 A (.ptr id n 0) = some (.str (rootT c)) := by
      have hc : loadElem (.str (rootT c)) 1 0 false 1 = some (.str (rootT c)) := rfl
      simp only [evLoad, hid, g, hc]
      simp
    have bx : evBox 1 (.str []) A = some (.ptr A.length 0 0, A ++ [.row 1 false [.str []]]) := by simp [evBox]
    have st : evStore 1 (A ++ [.row 1 false [.str []]]) (.ptr A.length 0 0) (.str (rootT c)) = some (A ++ [.row 1 false [.str (rootT c)]]) := by
      rw [store_arr (es := [.str []]) (by simp) rfl rfl rfl]; simp
    obtain ⟨A1, hA1⟩ : ∃ X, X = A ++ [Ent.row 1 false [.str (rootT c)]] := ⟨_, rfl⟩
    have sl : evSliceSl 1 A1 none (some (.int .i64 (n : Int))) (.sl id 0 (n + 1)) = some (.sl id 0 n) :=
      slice_hi (gr := gr) (by rw [hA1, List.getElem?_append_left hidl]; exact hid) (by omega)
    have c41 := fun hd => H41_eq hd A1 id 0 n
    have hA1l : A1.length = A.length + 1 := by rw [hA1]; simp
    obtain ⟨X, hX⟩ : ∃ X, X = A1 ++ [Ent.row 1 false [.sl id 0 n]] := ⟨_, rfl⟩
    have hX6 : X[A.length]? = some (.row 1 false [.str (outsT c r n)]) := by
      rw [hX, List.getElem?_append_left (by omega), hA1, outsT, hn]; simp [foldC]
    have hB : BackAt X A1.length id (r.reverse.map rootT).length (r.reverse.map rootT) := by
      rw [hrl]
      refine ⟨by rw [hX]; simp, gr, _, by rw [hX, List.getElem?_append_left (by omega), hA1, List.getElem?_append_left hidl]; exact hid, fun i s hs => ?_⟩
      have hi := (List.getElem?_eq_some_iff.1 hs).1
      rw [strsA, List.getElem?_map, List.getElem?_append_left hi, hs]; rfl
    have rg := fun v0 v1 v2 v3 v4 v5 v7 v8 v9 v10 v11 v12 v13 v15 v16 K => range18 (r6 := A.length) (outs := outsT c r) (by omega) hB (by rw [hrl]; exact hX6) (by omega) (by omega) (fun s hs => by
      obtain ⟨d, _, rfl⟩ := List.mem_map.1 hs; exact rootT_len d) (fun i => foldC_len _ _ (rootT_len c)) (outsT_step c r) v0 v1 v2 v3 v4 v5 v7 v8 v9 v10 v11 v12 v13 v15 v16 K
    have ldf : evLoad false 1 (T18 (X ++ [.dead]) A.length (outsT c r) 0) (.ptr A.length 0 0) = some (.str (rootT l)) := by
      refine load_arr (es := [.str (rootT l)]) ?_ rfl rfl
      rw [T18, List.getElem?_set_self (by rw [hX, hA1]; simp), ← hroot, outsT, Nat.sub_zero, List.take_length]
    rw [← hX] at c41
    rw [← hA1] at st
    unfold M18
    rw [evP_run _ _ rfl]
    generalize T18 (X ++ [.dead]) A.length (outsT c r) 0 = FIN at *
    generalize rootT l = RL at *
    generalize rootT c = RC at *
    generalize (l.length : Int) = LL at *
    generalize ((n + 1 : Nat) : Int) = N1 at *
    generalize (n : Int) = N0 at *
    generalize A ++ [Ent.row 1 false [.str []]] = A0 at *
    clear hA1 hX hid hw hB hX6 g hS
    simp [mf18, la, go18x1 lp, ln, e0, q0, ix, ld, bx, st, sl, c41, rg, ldf, fs, -evBin, -evLenSl, -evIndexSl, -evLoad, -evStore, -evSliceSl, -evBox, -frz]
end Go.Proofs.YtgbnngmpaefbcaaDoor
/-
  Digest: Reverse (38).
-/
namespace Go.Proofs.YtgbnngmpaefbcaaDoor
open Go

/-- a list of which the first and the last i elements are changed round -/
def RevI (l cur : List Str) (i : Nat) : Prop := cur.length = l.length ∧ ∀ k, k < l.length → cur[k]? = if k < i ∨ l.length - i ≤ k then l[l.length - 1 - k]? else l[k]?
theorem RevI.zero (l : List Str) : RevI l l 0 := ⟨rfl, fun k hk => by rw [if_neg (by omega)]⟩
theorem RevI.done {l cur : List Str} {i : Nat} (h : RevI l cur i) (hi : l.length ≤ 2 * i + 1) : cur = l.reverse := by
  apply List.ext_getElem?
  intro k
  by_cases hk : k < l.length
  · rw [h.2 k hk, List.getElem?_reverse hk]
    split
    · rfl
    · rw [show l.length - 1 - k = k by omega]
  · rw [List.getElem?_eq_none (by rw [h.1]; omega), List.getElem?_eq_none (by simp; omega)]
theorem RevI.step {l cur : List Str} {i : Nat} (h : RevI l cur i) (hi : 2 * i + 1 < l.length) {x y : Str} (hx : l[i]? = some x) (hy : l[l.length - 1 - i]? = some y) : RevI l ((cur.set i y).set (l.length - 1 - i) x) (i + 1) := by
  refine ⟨by simp [h.1], fun k hk => ?_⟩
  by_cases h1 : k = l.length - 1 - i
  · subst h1
    rw [List.getElem?_set_self (by simp [h.1]; omega), if_pos (by omega), show l.length - 1 - (l.length - 1 - i) = i by omega, hx]
  · rw [List.getElem?_set_ne (Ne.symm h1)]
    by_cases h2 : k = i
    · subst h2
      rw [List.getElem?_set_self (by rw [h.1]; omega), if_pos (by omega), hy]
    · rw [List.getElem?_set_ne (Ne.symm h2), h.2 k hk]
      by_cases h3 : k < i ∨ l.length - i ≤ k
      · rw [if_pos h3, if_pos (by omega)]
      · rw [if_neg h3, if_neg (by omega)]
theorem strsA_get {l : List Str} {i : Nat} {s : Str} (h : l[i]? = some s) : (strsA l)[i]? = some (.str s) := by
  rw [strsA, List.getElem?_map, h]; rfl
theorem strsA_set (l : List Str) (i : Nat) (s : Str) : (strsA l).set i (.str s) = strsA (l.set i s) := by
  rw [strsA, strsA, List.map_set]; rfl

set_option maxRecDepth 100000 in
set_option maxHeartbeats 4000000 in
theorem round38 (E : Env) {A : Arena} {id : Nat} {l cur : List Str} {i : Nat} (hA : A[id]? = some (.row 1 false (strsA cur))) (hc : RevI l cur i) (hi : 2 * i + 1 < l.length) (hl : l.length < 1000000) :
    ∃ cur', run E 100 [.code lp38x0] (st38x0 (.sl id 0 l.length) (.int .i64 (i : Int)) (.int .i64 ((l.length - 1 - i : Nat) : Int))) A =
      some (.normal (st38x0 (.sl id 0 l.length) (.int .i64 ((i + 1 : Nat) : Int)) (.int .i64 ((l.length - 1 - (i + 1) : Nat) : Int))) (A.set id (.row 1 false (strsA cur')))) ∧ RevI l cur' (i + 1) := by
  obtain ⟨x, hx⟩ : ∃ x, l[i]? = some x := ⟨_, List.getElem?_eq_getElem (by omega)⟩
  obtain ⟨y, hy⟩ : ∃ y, l[l.length - 1 - i]? = some y := ⟨_, List.getElem?_eq_getElem (by omega)⟩
  have hci : cur[i]? = some x := by rw [hc.2 i (by omega), if_neg (by omega), hx]
  have hcj : cur[l.length - 1 - i]? = some y := by rw [hc.2 _ (by omega), if_neg (by omega), hy]
  obtain ⟨j, hj⟩ : ∃ j, j = l.length - 1 - i := ⟨_, rfl⟩
  rw [← hj] at hcj ⊢
  refine ⟨(cur.set i y).set j x, ?_, by rw [hj]; exact hc.step hi hx hy⟩
  have hij : i ≠ j := by omega
  have hlt := (List.getElem?_eq_some_iff.1 hA).1
  have c0 := Dlt_nat i j .i64
  rw [decide_eq_true (by omega)] at c0
  have idx : ∀ (B : Arena) (xs : List AV) (k : Nat), B[id]? = some (.row 1 false xs) → k < l.length → evIndexSl 1 B (.sl id 0 l.length) (.int .i64 (k : Int)) = some (.ptr id k 0) := fun B xs k hB hk => by
    have : (k : Int) < (l.length : Int) := by omega
    simp only [evIndexSl, hB]
    simp; omega
  have xi := idx A _ i hA (by omega)
  have xj := idx A _ j hA (by omega)
  have li : evLoad false 1 A (.ptr id i 0) = some (.str x) := load_arr hA (strsA_get hci) rfl
  have lj : evLoad false 1 A (.ptr id j 0) = some (.str y) := load_arr hA (strsA_get hcj) rfl
  obtain ⟨B, hB⟩ : ∃ B, B = A.set id (.row 1 false (strsA (cur.set i y))) := ⟨_, rfl⟩
  have hB1 : B[id]? = some (.row 1 false (strsA (cur.set i y))) := by rw [hB, List.getElem?_set_self hlt]
  have s1 : evStore 1 A (.ptr id i 0) (.str y) = some B := by rw [store_arr hA (strsA_get hci) rfl rfl, strsA_set, hB]
  have yj := idx B _ j hB1 (by omega)
  have s2 : evStore 1 B (.ptr id j 0) (.str x) = some (A.set id (.row 1 false (strsA ((cur.set i y).set j x)))) := by
    rw [store_arr hB1 (strsA_get (s := y) (by rw [List.getElem?_set_ne hij]; exact hcj)) rfl rfl, strsA_set, hB, List.set_set]
  have p0 := Dadd_nat i 1 (by omega)
  have q0 := Dsub_nat j 1 (by omega) (by omega)
  rw [show ((1 : Nat) : Int) = 1 from rfl] at p0 q0
  rw [show l.length - 1 - (i + 1) = j - 1 by omega]
  generalize A.set id (.row 1 false (strsA ((cur.set i y).set j x))) = FIN at *
  generalize ((j - 1 : Nat) : Int) = J1 at *
  generalize ((i + 1 : Nat) : Int) = I1 at *
  generalize (j : Int) = J0 at *
  generalize (i : Int) = I0 at *
  clear hA hB1 hB hc idx
  simp [lp38x0, c0, xi, xj, li, lj, s1, yj, s2, p0, q0, -evBin, -evIndexSl, -evLoad, -evStore]
theorem loop38 (E : Env) {id : Nat} {l : List Str} (hl : l.length < 1000000) : ∀ (c i : Nat) (cur : List Str) (A : Arena) (m : Nat), 1 ≤ l.length → i < l.length → l.length ≤ 2 * (i + c) + 1 → A[id]? = some (.row 1 false (strsA cur)) → RevI l cur i → c < m →
    ∃ v1 v2 d, iter (evC E 100 lp38x0) mask38x0 m (st38x0 (.sl id 0 l.length) (.int .i64 (i : Int)) (.int .i64 ((l.length - 1 - i : Nat) : Int))) A = some (.exit 0 ((st38x0 (.sl id 0 l.length) v1 v2).set 3 d) (A.set id (.row 1 false (strsA l.reverse)))) := by
  intro c
  induction c with
  | zero =>
    intro i cur A m h1 hi hc hA hR hm
    obtain ⟨m, rfl⟩ : ∃ k, m = k + 1 := ⟨m - 1, by omega⟩
    have hcr := hR.done (by omega)
    have hs : A.set id (.row 1 false (strsA l.reverse)) = A := by
      rw [← hcr, ← (List.getElem?_eq_some_iff.1 hA).2, List.set_getElem_self]
    refine ⟨.int .i64 (i : Int), .int .i64 ((l.length - 1 - i : Nat) : Int), .bool false, ?_⟩
    rw [iter_succ, cl38x0, hs]
    have c0 := Dlt_nat i (l.length - 1 - i) .i64
    rw [decide_eq_false (by omega)] at c0
    generalize ((l.length - 1 - i : Nat) : Int) = J0 at *
    generalize (i : Int) = I0 at *
    simp [lp38x0, c0, -evBin]
  | succ c ih =>
    intro i cur A m h1 hi hc hA hR hm
    obtain ⟨m, rfl⟩ : ∃ k, m = k + 1 := ⟨m - 1, by omega⟩
    have hlt := (List.getElem?_eq_some_iff.1 hA).1
    by_cases hlast : l.length ≤ 2 * i + 1
    · have hcr := hR.done (by omega)
      have hs : A.set id (.row 1 false (strsA l.reverse)) = A := by
        rw [← hcr, ← (List.getElem?_eq_some_iff.1 hA).2, List.set_getElem_self]
      refine ⟨.int .i64 (i : Int), .int .i64 ((l.length - 1 - i : Nat) : Int), .bool false, ?_⟩
      rw [iter_succ, cl38x0, hs]
      have c0 := Dlt_nat i (l.length - 1 - i) .i64
      rw [decide_eq_false (by omega)] at c0
      generalize ((l.length - 1 - i : Nat) : Int) = J0 at *
      generalize (i : Int) = I0 at *
      simp [lp38x0, c0, -evBin]
    · obtain ⟨cur', h2, h3⟩ := round38 E hA hR (by omega) hl
      obtain ⟨v1, v2, d, h4⟩ := ih (i + 1) cur' (A.set id (.row 1 false (strsA cur'))) m h1 (by omega) (by omega) (by rw [List.getElem?_set_self hlt]) h3 (by omega)
      refine ⟨v1, v2, d, ?_⟩
      rw [iter_succ, cl38x0, h2]
      rw [List.set_set] at h4
      exact h4
noncomputable def H38 : HModel := fun _ => evFun (envOf GD []) 100 mf38
theorem spec38 : FnSpecY Tryd.prog GD 38 H38 := (evFun_sound (envOf_sound lookM_nil) rfl at38 comp38 PureIn.nil).y
/-- a row of its own, or nothing -/
def FullN (A : Arena) (o : AV) (xs : List AV) : Prop := (o = .nilS ∧ xs = []) ∨ ∃ id, o = .sl id 0 xs.length ∧ xs ≠ [] ∧ A[id]? = some (.row 1 false xs)
theorem FullN.full {A : Arena} {o : AV} {xs : List AV} (h : FullN A o xs) : Full A o 1 xs := by
  rcases h with h | ⟨id, h1, _, h2⟩
  · exact .inl h
  · exact .inr ⟨id, false, h1, h2⟩
theorem H38_eq (hd : Handler) {A : Arena} {o : AV} {l : List Str} (hF : FullN A o (strsA l)) (hl : l.length ≤ 150) : ∃ A', H38 hd [o] A = some (.tup [], A') ∧ FullN A' o (strsA l.reverse) := by
  rcases hF with ⟨rfl, h0⟩ | ⟨id, rfl, h1, h2⟩
  · have : l = [] := by
      have := congrArg List.length h0
      rw [strsA_len] at this
      exact List.length_eq_zero_iff.1 this
    subst this
    refine ⟨A, ?_, .inl ⟨rfl, rfl⟩⟩
    have q0 : evBin .sub (.int .i64 0) (.int .i64 1) = some (.int .i64 (-1)) := rfl
    have c0 : evBin .lss (.int .i64 0) (.int .i64 (-1)) = some (.bool false) := rfl
    have lp : iter (evC (envOf GD []) 100 lp38x0) mask38x0 100 (st38x0 .nilS (.int .i64 0) (.int .i64 (-1))) A = some (.exit 0 ((st38x0 .nilS (.int .i64 0) (.int .i64 (-1))).set 3 (.bool false)) A) := by
      rw [iter_succ, cl38x0]
      simp [lp38x0, c0, -evBin]
    unfold H38
    rw [evFun_run _ _ rfl]
    simp [mf38, q0, go38x0 lp, pack, -evBin]
  · rw [strsA_len] at *
    have hlne : 1 ≤ l.length := by
      cases l with
      | nil => exact absurd rfl h1
      | cons a r => simp
    obtain ⟨v1, v2, d, lp⟩ := loop38 (envOf GD []) (id := id) (l := l) (by omega) (l.length / 2 + 1) 0 l A 100 hlne (by omega) (by omega) h2 (RevI.zero l) (by omega)
    have ln : evLenSl (.sl id 0 l.length) = some (.int .i64 (l.length : Int)) := rfl
    have q0 := Dsub_nat l.length 1 hlne (by omega)
    rw [show ((1 : Nat) : Int) = 1 from rfl] at q0
    rw [Nat.sub_zero, show ((0 : Nat) : Int) = 0 from rfl] at lp
    have hlt := (List.getElem?_eq_some_iff.1 h2).1
    have hr : strsA l.reverse ≠ [] := by
      intro h
      have := congrArg List.length h
      rw [strsA_len, List.length_reverse, List.length_nil] at this
      omega
    refine ⟨A.set id (.row 1 false (strsA l.reverse)), ?_, .inr ⟨id, by rw [strsA_len, List.length_reverse], hr, by rw [List.getElem?_set_self hlt]⟩⟩
    unfold H38
    rw [evFun_run _ _ rfl]
    generalize A.set id (.row 1 false (strsA l.reverse)) = FIN at *
    generalize ((l.length - 1 : Nat) : Int) = N1 at *
    generalize hN : (l.length : Int) = N0 at *
    simp [mf38, ln, q0, go38x0 lp, pack, -evBin, -evLenSl]
end Go.Proofs.YtgbnngmpaefbcaaDoor
/-
  Digest: Proof (13).
-/
namespace Go.Proofs.YtgbnngmpaefbcaaDoor
open Go

/-- the roots of the other parts, from the whole down to an entry -/
def pathF : Nat → List Str → Nat → List Str
  | 0, _, _ => []
  | f + 1, l, i => if l.length ≤ 1 then [] else
    if leftT l.length ≤ i then rootT (l.take (leftT l.length)) :: pathF f (l.drop (leftT l.length)) (i - leftT l.length)
    else rootT (l.drop (leftT l.length)) :: pathF f (l.take (leftT l.length)) i
theorem fs_to {l : List Str} {k : Nat} (A : Arena) (h : k ≤ l.length) : evSliceSl 1 A none (some (.int .i64 (k : Int))) (.fs 1 (strsA l)) = some (.fs 1 (strsA (l.take k))) := by
  have hk : hiB (strsA l).length (some (.int .i64 (k : Int))) = some k := hi_nat .i64 (by rw [strsA_len]; exact h)
  simp only [evSliceSl, if_true, evBounds, loB, hk, if_pos (Nat.zero_le _), Option.map_some, List.drop_zero, Nat.sub_zero]
  rw [strsA, strsA, List.map_take]
theorem fs_from {l : List Str} {k : Nat} (A : Arena) (h : k ≤ l.length) : evSliceSl 1 A (some (.int .i64 (k : Int))) none (.fs 1 (strsA l)) = some (.fs 1 (strsA (l.drop k))) := by
  have hk : k ≤ (strsA l).length := by rw [strsA_len]; exact h
  simp only [evSliceSl, if_true, evBounds, hiB, lo_nat, if_pos hk, Option.map_some]
  rw [List.take_of_length_le (by simp), strsA, strsA, List.map_drop]
theorem appN_fullN {A : Arena} {o : AV} {l : List Str} (h : FullN A o (strsA l)) (s : Str) (hl : l.length ≤ 1000) : ∃ o' B, evAppendN 1 16 A o (.fs 1 [.str s]) = some (o', B) ∧ FullN B o' (strsA (l ++ [s])) := by
  obtain ⟨B, h1, h2, h3, _⟩ := appN_full (ys := [.str s]) (bytes := 16) h.full (by simp) (by omega) (by rw [strsA_len]; simp; omega)
  refine ⟨_, B, h1, .inr ⟨A.length, ?_, ?_, ?_⟩⟩
  · rw [strsA_len, strsA_len]; simp
  · rw [strsA]; simp
  · rw [h3]; simp [strsA, strA]
theorem fs_len {l : List Str} : evLenSl (.fs 1 (strsA l)) = some (.int .i64 (l.length : Int)) := by
  simp [evLenSl, strsA_len]
theorem M18_fs {l : List Str} (hsl : ∀ s ∈ l, s.length ≤ 4000) (hl : l.length ≤ 80) : M18 [.fs 1 (strsA l)] = some (.str (rootT l)) := M18_eq (.inr rfl) hsl hl

noncomputable def fs13 : List (FuncId × HModel) := [(37, pureH 4 M37), (18, pureH 4 M18), (38, H38)]
@[simp] theorem fs13_37 : lookM fs13 37 = some (pureH 4 M37) := rfl
@[simp] theorem fs13_18 : lookM fs13 18 = some (pureH 4 M18) := rfl
@[simp] theorem fs13_38 : lookM fs13 38 = some H38 := rfl
theorem sound13 : ∀ f M, lookM fs13 f = some M → FnSpecY Tryd.prog GD f M := lookM_cons (FnSpecY.of_pure spec37 4) (lookM_cons (FnSpecY.of_pure spec18 4) (lookM_cons spec38 lookM_nil))

set_option maxRecDepth 100000 in
set_option maxHeartbeats 4000000 in
theorem round13_hi {l : List Str} (hsl : ∀ s ∈ l, s.length ≤ 4000) (hl : l.length ≤ 80) (h2 : 2 ≤ l.length) {i : Nat} (hi : i < l.length) (hk : leftT l.length ≤ i) {out : List Str} (ho : out.length ≤ 900) {A : Arena} {o : AV} (hF : FullN A o (strsA out)) :
    ∃ o' B, run (envOf GD fs13) 100 [.code lp13x0] (st13x0 (.fs 1 (strsA l)) (.int .i64 (i : Int)) o) A = some (.normal (st13x0 (.fs 1 (strsA (l.drop (leftT l.length)))) (.int .i64 ((i - leftT l.length : Nat) : Int)) o') B) ∧ FullN B o' (strsA (out ++ [rootT (l.take (leftT l.length))])) := by
  obtain ⟨b1, b2, b3, _⟩ := leftT_bounds h2 (by omega)
  obtain ⟨o', B, a1, hF'⟩ := appN_fullN hF (rootT (l.take (leftT l.length))) (by omega)
  refine ⟨o', B, ?_, hF'⟩
  have ln := fs_len (l := l)
  have e0 := eq_nat l.length 1 .i64
  rw [decide_eq_false (by omega), show ((1 : Nat) : Int) = 1 from rfl] at e0
  have m1 := M37_eq h2 (by omega)
  have s1 := fs_to (l := l) (k := leftT l.length) A (by omega)
  have s2 := fs_from (l := l) (k := leftT l.length) A (by omega)
  have g0 : evBin .geq (.int .i64 (i : Int)) (.int .i64 (leftT l.length : Int)) = some (.bool true) := by rw [bGe]; simp; omega
  have q0 := Dsub_nat i (leftT l.length) hk (by omega)
  have m2 := M18_fs (l := l.take (leftT l.length)) (fun s hs => hsl s (List.mem_of_mem_take hs)) (by simp; omega)
  have f1 : ∀ (A : Arena) (l : List AV), frz A 4 (.fs 1 l) = .fs 1 l := fun _ _ => rfl
  have fi := frz_i
  have sc : ∀ s, scalarB 4 (.str s) = true := fun _ => rfl
  have sci : ∀ k z, scalarB 4 (.int k z) = true := fun _ _ => rfl
  generalize strsA (l.drop (leftT l.length)) = LD at *
  generalize strsA (l.take (leftT l.length)) = LT at *
  generalize rootT (l.take (leftT l.length)) = RT at *
  generalize ((i - leftT l.length : Nat) : Int) = D at *
  generalize (leftT l.length : Int) = K at *
  generalize (l.length : Int) = N at *
  generalize (i : Int) = I0 at *
  simp [lp13x0, ln, e0, m1, s1, s2, g0, q0, m2, f1, fi, a1, -evBin, -evLenSl, -evSliceSl, -frz]
set_option maxRecDepth 100000 in
set_option maxHeartbeats 4000000 in
theorem round13_lo {l : List Str} (hsl : ∀ s ∈ l, s.length ≤ 4000) (hl : l.length ≤ 80) (h2 : 2 ≤ l.length) {i : Nat} (_hi : i < l.length) (hk : i < leftT l.length) {out : List Str} (ho : out.length ≤ 900) {A : Arena} {o : AV} (hF : FullN A o (strsA out)) :
    ∃ o' B, run (envOf GD fs13) 100 [.code lp13x0] (st13x0 (.fs 1 (strsA l)) (.int .i64 (i : Int)) o) A = some (.normal (st13x0 (.fs 1 (strsA (l.take (leftT l.length)))) (.int .i64 (i : Int)) o') B) ∧ FullN B o' (strsA (out ++ [rootT (l.drop (leftT l.length))])) := by
  obtain ⟨b1, b2, b3, _⟩ := leftT_bounds h2 (by omega)
  obtain ⟨o', B, a1, hF'⟩ := appN_fullN hF (rootT (l.drop (leftT l.length))) (by omega)
  refine ⟨o', B, ?_, hF'⟩
  have ln := fs_len (l := l)
  have e0 := eq_nat l.length 1 .i64
  rw [decide_eq_false (by omega), show ((1 : Nat) : Int) = 1 from rfl] at e0
  have m1 := M37_eq h2 (by omega)
  have s1 := fs_to (l := l) (k := leftT l.length) A (by omega)
  have s2 := fs_from (l := l) (k := leftT l.length) A (by omega)
  have g0 : evBin .geq (.int .i64 (i : Int)) (.int .i64 (leftT l.length : Int)) = some (.bool false) := by rw [bGe]; simp; omega
  have m2 := M18_fs (l := l.drop (leftT l.length)) (fun s hs => hsl s (List.mem_of_mem_drop hs)) (by simp; omega)
  have f1 : ∀ (A : Arena) (l : List AV), frz A 4 (.fs 1 l) = .fs 1 l := fun _ _ => rfl
  have fi := frz_i
  have sc : ∀ s, scalarB 4 (.str s) = true := fun _ => rfl
  have sci : ∀ k z, scalarB 4 (.int k z) = true := fun _ _ => rfl
  generalize strsA (l.drop (leftT l.length)) = LD at *
  generalize strsA (l.take (leftT l.length)) = LT at *
  generalize rootT (l.drop (leftT l.length)) = RT at *
  generalize (leftT l.length : Int) = K at *
  generalize (l.length : Int) = N at *
  generalize (i : Int) = I0 at *
  simp [lp13x0, ln, e0, m1, s1, s2, g0, m2, f1, fi, a1, -evBin, -evLenSl, -evSliceSl, -frz]

set_option maxRecDepth 100000 in
theorem loop13 : ∀ (f : Nat) (l : List Str) (i : Nat) (out : List Str) (A : Arena) (o : AV) (m : Nat), l.length ≤ f → (∀ s ∈ l, s.length ≤ 4000) → l.length ≤ 80 → i < l.length → out.length + f ≤ 900 → FullN A o (strsA out) → f < m →
    ∃ v0 v1 o' B, iter (evC (envOf GD fs13) 100 lp13x0) mask13x0 m (st13x0 (.fs 1 (strsA l)) (.int .i64 (i : Int)) o) A = some (.exit 0 ((st13x0 v0 v1 o').set 9 (.bool true)) B) ∧ FullN B o' (strsA (out ++ pathF f l i))
  | 0, l, i, out, A, o, m, hf, _, _, hi, _, _, _ => by omega
  | f + 1, l, i, out, A, o, m, hf, hsl, hl, hi, ho, hF, hm => by
    obtain ⟨m, rfl⟩ : ∃ k, m = k + 1 := ⟨m - 1, by omega⟩
    unfold pathF
    by_cases h1 : l.length ≤ 1
    · rw [if_pos h1, List.append_nil]
      refine ⟨.fs 1 (strsA l), .int .i64 (i : Int), o, A, ?_, hF⟩
      have ln := fs_len (l := l)
      have e0 := eq_nat l.length 1 .i64
      rw [decide_eq_true (by omega), show ((1 : Nat) : Int) = 1 from rfl] at e0
      rw [iter_succ, cl13x0]
      generalize strsA l = L at *
      generalize (l.length : Int) = N at *
      generalize (i : Int) = I0 at *
      simp [lp13x0, ln, e0, -evBin, -evLenSl]
    · rw [if_neg h1]
      obtain ⟨b1, b2, b3, _⟩ := leftT_bounds (n := l.length) (by omega) (by omega)
      by_cases hk : leftT l.length ≤ i
      · rw [if_pos hk]
        obtain ⟨o1, B1, r1, hF1⟩ := round13_hi hsl hl (by omega) hi hk (by omega) hF
        obtain ⟨v0, v1, o', B, r2, hF2⟩ := loop13 f (l.drop (leftT l.length)) (i - leftT l.length) (out ++ [rootT (l.take (leftT l.length))]) B1 o1 m (by simp; omega) (fun s hs => hsl s (List.mem_of_mem_drop hs)) (by simp; omega) (by simp; omega) (by simp; omega) hF1 (by omega)
        refine ⟨v0, v1, o', B, ?_, by rw [List.append_assoc] at hF2; exact hF2⟩
        rw [iter_succ, cl13x0, r1]
        exact r2
      · rw [if_neg hk]
        obtain ⟨o1, B1, r1, hF1⟩ := round13_lo hsl hl (by omega) hi (by omega) (by omega) hF
        obtain ⟨v0, v1, o', B, r2, hF2⟩ := loop13 f (l.take (leftT l.length)) i (out ++ [rootT (l.drop (leftT l.length))]) B1 o1 m (by simp; omega) (fun s hs => hsl s (List.mem_of_mem_take hs)) (by simp; omega) (by simp; omega) (by simp; omega) hF1 (by omega)
        refine ⟨v0, v1, o', B, ?_, by rw [List.append_assoc] at hF2; exact hF2⟩
        rw [iter_succ, cl13x0, r1]
        exact r2
theorem pathF_len : ∀ (f : Nat) (l : List Str) (i : Nat), (pathF f l i).length ≤ f
  | 0, _, _ => Nat.le_refl _
  | f + 1, l, i => by
    unfold pathF
    split
    · simp
    · split
      · have := pathF_len f (l.drop (leftT l.length)) (i - leftT l.length); simp; omega
      · have := pathF_len f (l.take (leftT l.length)) i; simp; omega
theorem pathF_dig : ∀ (f : Nat) (l : List Str) (i : Nat), ∀ s ∈ pathF f l i, s.length = 32
  | 0, _, _, s, h => by cases h
  | f + 1, l, i, s, h => by
    unfold pathF at h
    split at h
    · cases h
    · split at h
      · rcases List.mem_cons.1 h with rfl | h
        · exact rootT_len _
        · exact pathF_dig f _ _ s h
      · rcases List.mem_cons.1 h with rfl | h
        · exact rootT_len _
        · exact pathF_dig f _ _ s h
/-- the proof of an entry -/
def proofZ (l : List Str) (i : Int) : List Str := if 0 ≤ i ∧ i < l.length then (pathF l.length l i.toNat).reverse else []
def errZ (l : List Str) (i : Int) : Int := if 0 ≤ i ∧ i < l.length then 0 else 2
noncomputable def M13 : PModel := fun args => evF (envOf GD fs13) 100 mf13 4 args
theorem spec13 : PureSpecF Tryd.prog GD 13 M13 := PureSpecF.of_ev (E := envOf GD fs13) (envOf_sound sound13) rfl at13 comp13 4 fun _ _ h => ⟨100, h⟩
/-- what a function returns, frozen -/
theorem FullN.fin {A : Arena} {o : AV} {l : List Str} (h : FullN A o (strsA l)) (n : Nat) : SlA 1 (strsA l) (frz A (n + 2) o) ∧ freshB A (n + 2) o = true := by
  rcases h with ⟨rfl, h0⟩ | ⟨id, rfl, h1, h2⟩
  · exact ⟨.inl ⟨rfl, h0⟩, rfl⟩
  · have e : ((strsA l).drop 0).take (strsA l).length = strsA l := by rw [List.drop_zero, List.take_length]
    have hm : (strsA l).map (frz A (n + 1)) = strsA l := by
      rw [strsA, List.map_map]; exact List.map_congr_left fun x _ => rfl
    refine ⟨.inr ?_, ?_⟩
    · simp only [frz, h2, e, hm]
    · simp only [freshB, h2, e, List.all_eq_true]
      intro x hx
      rw [strsA] at hx
      obtain ⟨y, _, rfl⟩ := List.mem_map.1 hx
      rfl
set_option maxRecDepth 100000 in
set_option maxHeartbeats 4000000 in
theorem M13_eq {l : List Str} {a : AV} (ha : SlA 1 (strsA l) a) (hsl : ∀ s ∈ l, s.length ≤ 4000) (hl : l.length ≤ 80) (i : Int) : ∃ r, M13 [a, .int .i64 i] = some (.tup [r, .int .i64 (errZ l i)]) ∧ SlA 1 (strsA (proofZ l i)) r := by
  have la := ha.slen
  have c0 := bLt .i64 i 0
  have c1 := bGe .i64 i l.length
  have fi := frz_i
  by_cases h : 0 ≤ i ∧ i < l.length
  · obtain ⟨k, rfl⟩ : ∃ k : Nat, i = k := ⟨i.toNat, by omega⟩
    have hk : k < l.length := by omega
    have hfs : a = .fs 1 (strsA l) := by
      rcases ha with ⟨_, h0⟩ | h0
      · have := congrArg List.length h0
        rw [strsA_len, List.length_nil] at this
        omega
      · exact h0
    subst hfs
    obtain ⟨v0, v1, o', B, lp, hF⟩ := loop13 l.length l k [] [] .nilS 100 (Nat.le_refl _) hsl hl hk (by simp; omega) (.inl ⟨rfl, rfl⟩) (by omega)
    rw [List.nil_append] at hF
    obtain ⟨C, r1, hF2⟩ := H38_eq (fun _ _ _ => none) hF (by have := pathF_len l.length l k; omega)
    have r1' : ∀ hd, H38 hd [o'] B = some (.tup [], C) := fun hd => r1
    obtain ⟨q1, q2⟩ := hF2.fin 1
    rw [decide_eq_false (by omega)] at c0
    rw [decide_eq_false (by omega)] at c1
    refine ⟨frz C 3 o', ?_, ?_⟩
    · rw [show errZ l k = 0 by simp [errZ]; omega]
      unfold M13
      rw [evF_run _ _ rfl]
      generalize strsA l = L at *
      generalize (l.length : Int) = N at *
      generalize (k : Int) = K at *
      simp [mf13, la, c0, c1, go13x0 lp, r1', pack, freshB, q2, frz, -evBin, -evLenSl]
    · rw [show proofZ l k = (pathF l.length l k).reverse by simp [proofZ]; omega]
      exact q1
  · refine ⟨.nilS, ?_, .inl ⟨rfl, by rw [proofZ, if_neg h]; rfl⟩⟩
    rw [errZ, if_neg h]
    unfold M13
    rw [evF_run _ _ rfl]
    by_cases h0 : i < 0
    · rw [decide_eq_true h0] at c0
      generalize (l.length : Int) = N at *
      simp [mf13, c0, pack, freshB, frz, -evBin, -evLenSl]
    · rw [decide_eq_false h0] at c0
      rw [decide_eq_true (by omega)] at c1
      generalize (l.length : Int) = N at *
      simp [mf13, la, c0, c1, pack, freshB, frz, -evBin, -evLenSl]
end Go.Proofs.YtgbnngmpaefbcaaDoor
/-
  Digest: Extension (15).
-/
namespace Go.Proofs.YtgbnngmpaefbcaaDoor
open Go

/-- the parts that an extension names, from the whole down -/
def extF : Nat → List Str → Nat → Bool → List Str
  | 0, l, _, w => if w then [] else [rootT l]
  | f + 1, l, m, w => if l.length ≤ m then (if w then [] else [rootT l]) else
    if leftT l.length < m then rootT (l.take (leftT l.length)) :: extF f (l.drop (leftT l.length)) (m - leftT l.length) false
    else rootT (l.drop (leftT l.length)) :: extF f (l.take (leftT l.length)) m w
set_option maxRecDepth 100000 in
set_option maxHeartbeats 4000000 in
theorem round15_hi {l : List Str} (hsl : ∀ s ∈ l, s.length ≤ 4000) (hl : l.length ≤ 80) (h2 : 2 ≤ l.length) {i : Nat} (hi : i < l.length) (hk : leftT l.length < i) (w : Bool) {out : List Str} (ho : out.length ≤ 900) {A : Arena} {o : AV} (hF : FullN A o (strsA out)) :
    ∃ o' B, run (envOf GD fs13) 100 [.code lp15x0] (st15x0 (.fs 1 (strsA l)) (.int .i64 (i : Int)) o (.bool w)) A = some (.normal (st15x0 (.fs 1 (strsA (l.drop (leftT l.length)))) (.int .i64 ((i - leftT l.length : Nat) : Int)) o' (.bool false)) B) ∧ FullN B o' (strsA (out ++ [rootT (l.take (leftT l.length))])) := by
  obtain ⟨b1, b2, b3, _⟩ := leftT_bounds h2 (by omega)
  obtain ⟨o', B, a1, hF'⟩ := appN_fullN hF (rootT (l.take (leftT l.length))) (by omega)
  refine ⟨o', B, ?_, hF'⟩
  have ln := fs_len (l := l)
  have e0 := Dlt_nat i l.length .i64
  rw [decide_eq_true hi] at e0
  have m1 := M37_eq h2 (by omega)
  have s1 := fs_to (l := l) (k := leftT l.length) A (by omega)
  have s2 := fs_from (l := l) (k := leftT l.length) A (by omega)
  have g0 := gt_nat i (leftT l.length) .i64
  rw [decide_eq_true hk] at g0
  have q0 := Dsub_nat i (leftT l.length) (by omega) (by omega)
  have m2 := M18_fs (l := l.take (leftT l.length)) (fun s hs => hsl s (List.mem_of_mem_take hs)) (by simp; omega)
  have f1 : ∀ (A : Arena) (l : List AV), frz A 4 (.fs 1 l) = .fs 1 l := fun _ _ => rfl
  have fi := frz_i
  have sc : ∀ s, scalarB 4 (.str s) = true := fun _ => rfl
  have sci : ∀ k z, scalarB 4 (.int k z) = true := fun _ _ => rfl
  generalize strsA (l.drop (leftT l.length)) = LD at *
  generalize strsA (l.take (leftT l.length)) = LT at *
  generalize rootT (l.take (leftT l.length)) = RT at *
  generalize ((i - leftT l.length : Nat) : Int) = D at *
  generalize (leftT l.length : Int) = K at *
  generalize (l.length : Int) = N at *
  generalize (i : Int) = I0 at *
  simp [lp15x0, ln, e0, m1, s1, s2, g0, q0, m2, f1, fi, a1, -evBin, -evLenSl, -evSliceSl, -frz]
set_option maxRecDepth 100000 in
set_option maxHeartbeats 4000000 in
theorem round15_lo {l : List Str} (hsl : ∀ s ∈ l, s.length ≤ 4000) (hl : l.length ≤ 80) (h2 : 2 ≤ l.length) {i : Nat} (hi : i < l.length) (hk : i ≤ leftT l.length) (w : Bool) {out : List Str} (ho : out.length ≤ 900) {A : Arena} {o : AV} (hF : FullN A o (strsA out)) :
    ∃ o' B, run (envOf GD fs13) 100 [.code lp15x0] (st15x0 (.fs 1 (strsA l)) (.int .i64 (i : Int)) o (.bool w)) A = some (.normal (st15x0 (.fs 1 (strsA (l.take (leftT l.length)))) (.int .i64 (i : Int)) o' (.bool w)) B) ∧ FullN B o' (strsA (out ++ [rootT (l.drop (leftT l.length))])) := by
  obtain ⟨b1, b2, b3, _⟩ := leftT_bounds h2 (by omega)
  obtain ⟨o', B, a1, hF'⟩ := appN_fullN hF (rootT (l.drop (leftT l.length))) (by omega)
  refine ⟨o', B, ?_, hF'⟩
  have ln := fs_len (l := l)
  have e0 := Dlt_nat i l.length .i64
  rw [decide_eq_true hi] at e0
  have m1 := M37_eq h2 (by omega)
  have s1 := fs_to (l := l) (k := leftT l.length) A (by omega)
  have s2 := fs_from (l := l) (k := leftT l.length) A (by omega)
  have g0 := gt_nat i (leftT l.length) .i64
  rw [decide_eq_false (by omega)] at g0
  have m2 := M18_fs (l := l.drop (leftT l.length)) (fun s hs => hsl s (List.mem_of_mem_drop hs)) (by simp; omega)
  have f1 : ∀ (A : Arena) (l : List AV), frz A 4 (.fs 1 l) = .fs 1 l := fun _ _ => rfl
  have fi := frz_i
  have sc : ∀ s, scalarB 4 (.str s) = true := fun _ => rfl
  have sci : ∀ k z, scalarB 4 (.int k z) = true := fun _ _ => rfl
  generalize strsA (l.drop (leftT l.length)) = LD at *
  generalize strsA (l.take (leftT l.length)) = LT at *
  generalize rootT (l.drop (leftT l.length)) = RT at *
  generalize (leftT l.length : Int) = K at *
  generalize (l.length : Int) = N at *
  generalize (i : Int) = I0 at *
  simp [lp15x0, ln, e0, m1, s1, s2, g0, m2, f1, fi, a1, -evBin, -evLenSl, -evSliceSl, -frz]
set_option maxRecDepth 100000 in
theorem loop15 : ∀ (f : Nat) (l : List Str) (i : Nat) (w : Bool) (out : List Str) (A : Arena) (o : AV) (m : Nat), l.length ≤ f → (∀ s ∈ l, s.length ≤ 4000) → l.length ≤ 80 → 1 ≤ i → i ≤ l.length → out.length + f ≤ 900 → FullN A o (strsA out) → f < m →
    ∃ l' v1 w' pre o' B, iter (evC (envOf GD fs13) 100 lp15x0) mask15x0 m (st15x0 (.fs 1 (strsA l)) (.int .i64 (i : Int)) o (.bool w)) A = some (.exit 1 ((st15x0 (.fs 1 (strsA l')) v1 o' (.bool w')).set 11 (.bool false)) B) ∧ FullN B o' (strsA (out ++ pre)) ∧
      pre ++ (if w' then [] else [rootT l']) = extF f l i w ∧ (∀ s ∈ l', s.length ≤ 4000) ∧ l'.length ≤ 80 ∧ pre.length ≤ f
  | 0, l, i, w, out, A, o, m, hf, _, _, h1, hi, _, _, _ => by omega
  | f + 1, l, i, w, out, A, o, m, hf, hsl, hl, h1, hi, ho, hF, hm => by
    obtain ⟨m, rfl⟩ : ∃ k, m = k + 1 := ⟨m - 1, by omega⟩
    unfold extF
    by_cases he : l.length ≤ i
    · rw [if_pos he]
      refine ⟨l, .int .i64 (i : Int), w, [], o, A, ?_, by rw [List.append_nil]; exact hF, by simp, hsl, hl, by simp⟩
      have ln := fs_len (l := l)
      have e0 := Dlt_nat i l.length .i64
      rw [decide_eq_false (by omega)] at e0
      rw [iter_succ, cl15x0]
      generalize strsA l = L at *
      generalize (l.length : Int) = N at *
      generalize (i : Int) = I0 at *
      simp [lp15x0, ln, e0, -evBin, -evLenSl]
    · rw [if_neg he]
      obtain ⟨b1, b2, b3, _⟩ := leftT_bounds (n := l.length) (by omega) (by omega)
      by_cases hk : leftT l.length < i
      · rw [if_pos hk]
        obtain ⟨o1, B1, r1, hF1⟩ := round15_hi (i := i) hsl hl (by omega) (by omega) hk w (by omega) hF
        obtain ⟨l', v1, w', pre, o', B, r2, hF2, he2, hs2, hl2, hp2⟩ := loop15 f (l.drop (leftT l.length)) (i - leftT l.length) false (out ++ [rootT (l.take (leftT l.length))]) B1 o1 m (by simp; omega) (fun s hs => hsl s (List.mem_of_mem_drop hs)) (by simp; omega) (by omega) (by simp; omega) (by simp; omega) hF1 (by omega)
        refine ⟨l', v1, w', rootT (l.take (leftT l.length)) :: pre, o', B, ?_, by rw [List.append_assoc] at hF2; exact hF2, by rw [List.cons_append, he2], hs2, hl2, by simp; omega⟩
        rw [iter_succ, cl15x0, r1]
        exact r2
      · rw [if_neg hk]
        obtain ⟨o1, B1, r1, hF1⟩ := round15_lo (i := i) hsl hl (by omega) (by omega) (by omega) w (by omega) hF
        obtain ⟨l', v1, w', pre, o', B, r2, hF2, he2, hs2, hl2, hp2⟩ := loop15 f (l.take (leftT l.length)) i w (out ++ [rootT (l.drop (leftT l.length))]) B1 o1 m (by simp; omega) (fun s hs => hsl s (List.mem_of_mem_take hs)) (by simp; omega) h1 (by simp; omega) (by simp; omega) hF1 (by omega)
        refine ⟨l', v1, w', rootT (l.drop (leftT l.length)) :: pre, o', B, ?_, by rw [List.append_assoc] at hF2; exact hF2, by rw [List.cons_append, he2], hs2, hl2, by simp; omega⟩
        rw [iter_succ, cl15x0, r1]
        exact r2
theorem extF_len : ∀ (f : Nat) (l : List Str) (i : Nat) (w : Bool), (extF f l i w).length ≤ f + 1
  | 0, l, _, w => by cases w <;> simp [extF]
  | f + 1, l, i, w => by
    unfold extF
    split
    · split <;> simp
    · split
      · have := extF_len f (l.drop (leftT l.length)) (i - leftT l.length) false; simp; omega
      · have := extF_len f (l.take (leftT l.length)) i w; simp; omega
theorem extF_dig : ∀ (f : Nat) (l : List Str) (i : Nat) (w : Bool), ∀ s ∈ extF f l i w, s.length = 32
  | 0, l, _, w, s, h => by
    cases w
    · simp [extF] at h; rw [h]; exact rootT_len _
    · simp [extF] at h
  | f + 1, l, i, w, s, h => by
    unfold extF at h
    split at h
    · split at h
      · cases h
      · simp at h; rw [h]; exact rootT_len _
    · split at h
      · rcases List.mem_cons.1 h with rfl | h
        · exact rootT_len _
        · exact extF_dig f _ _ _ s h
      · rcases List.mem_cons.1 h with rfl | h
        · exact rootT_len _
        · exact extF_dig f _ _ _ s h
/-- the extension -/
def extZ (l : List Str) (m : Int) : List Str := if 1 ≤ m ∧ m ≤ l.length then (extF l.length l m.toNat true).reverse else []
def errX (l : List Str) (m : Int) : Int := if 0 ≤ m ∧ m ≤ l.length then 0 else 2
noncomputable def M15 : PModel := fun args => evF (envOf GD fs13) 100 mf15 4 args
theorem spec15 : PureSpecF Tryd.prog GD 15 M15 := PureSpecF.of_ev (E := envOf GD fs13) (envOf_sound sound13) rfl at15 comp15 4 fun _ _ h => ⟨100, h⟩
set_option maxRecDepth 100000 in
set_option maxHeartbeats 4000000 in
theorem M15_eq {l : List Str} {a : AV} (ha : SlA 1 (strsA l) a) (hsl : ∀ s ∈ l, s.length ≤ 4000) (hl : l.length ≤ 80) (i : Int) : ∃ r, M15 [a, .int .i64 i] = some (.tup [r, .int .i64 (errX l i)]) ∧ SlA 1 (strsA (extZ l i)) r := by
  have la := ha.slen
  have c0 := bLt .i64 i 0
  have c1 := bGt .i64 i l.length
  have c2 := bEq .i64 i 0
  have fi := frz_i
  by_cases h : 1 ≤ i ∧ i ≤ l.length
  · obtain ⟨k, rfl⟩ : ∃ k : Nat, i = k := ⟨i.toNat, by omega⟩
    have hfs : a = .fs 1 (strsA l) := by
      rcases ha with ⟨_, h0⟩ | h0
      · have := congrArg List.length h0
        rw [strsA_len, List.length_nil] at this
        omega
      · exact h0
    subst hfs
    obtain ⟨l', v1, w', pre, o', B, lp, hF, he, hs', hl', hpl⟩ := loop15 l.length l k true [] [] .nilS 100 (Nat.le_refl _) hsl hl (by omega) (by omega) (by simp; omega) (.inl ⟨rfl, rfl⟩) (by omega)
    rw [List.nil_append] at hF
    rw [decide_eq_false (by omega)] at c0
    rw [decide_eq_false (by omega)] at c1
    have hk0 : ((k : Int) == 0) = false := by simp; omega
    rw [hk0] at c2
    have herr : errX l k = 0 := by simp [errX]; omega
    have hext : extZ l k = (extF l.length l k true).reverse := by simp [extZ]; omega
    rw [herr, hext, ← he]
    have f1 : ∀ (A : Arena) (l : List AV), frz A 4 (.fs 1 l) = .fs 1 l := fun _ _ => rfl
    have sc : ∀ s, scalarB 4 (.str s) = true := fun _ => rfl
    cases w' with
    | true =>
      rw [if_pos rfl, List.append_nil]
      obtain ⟨C, r1, hF2⟩ := H38_eq (fun _ _ _ => none) hF (by omega)
      have r1' : ∀ hd, H38 hd [o'] B = some (.tup [], C) := fun hd => r1
      obtain ⟨q1, q2⟩ := hF2.fin 1
      refine ⟨frz C 3 o', ?_, q1⟩
      unfold M15
      rw [evF_run _ _ rfl]
      generalize strsA l = L at *
      generalize strsA l' = L' at *
      generalize (l.length : Int) = N at *
      generalize (k : Int) = K at *
      simp [mf15, la, c0, c1, c2, go15x0 lp, r1', pack, freshB, q2, frz, -evBin, -evLenSl]
    | false =>
      rw [if_neg (by simp)]
      obtain ⟨o2, B2, a1, hF3⟩ := appN_fullN hF (rootT l') (by omega)
      obtain ⟨C, r1, hF2⟩ := H38_eq (fun _ _ _ => none) hF3 (by simp; omega)
      have r1' : ∀ hd, H38 hd [o2] B2 = some (.tup [], C) := fun hd => r1
      obtain ⟨q1, q2⟩ := hF2.fin 1
      have m2 := M18_fs hs' hl'
      refine ⟨frz C 3 o2, ?_, q1⟩
      unfold M15
      rw [evF_run _ _ rfl]
      have fz3 : frz C 4 (.tup [o2, .int .i64 0]) = .tup [frz C 3 o2, .int .i64 0] := by simp [frz]
      generalize strsA l = L at *
      generalize strsA l' = L' at *
      generalize rootT l' = RT at *
      generalize (l.length : Int) = N at *
      generalize (k : Int) = K at *
      simp [mf15, la, c0, c1, c2, go15x0 lp, m2, f1, a1, r1', pack, freshB, q2, fz3, -evBin, -evLenSl, -frz]
  · refine ⟨.nilS, ?_, .inl ⟨rfl, by rw [extZ, if_neg h]; rfl⟩⟩
    unfold M15
    rw [evF_run _ _ rfl]
    by_cases h0 : i < 0
    · rw [decide_eq_true h0] at c0
      rw [errX, if_neg (by omega)]
      generalize (l.length : Int) = N at *
      simp [mf15, c0, pack, freshB, frz, -evBin, -evLenSl]
    · rw [decide_eq_false h0] at c0
      by_cases h1 : i = 0
      · subst h1
        rw [decide_eq_false (by omega)] at c1
        rw [show ((0 : Int) == 0) = true from rfl] at c2
        rw [errX, if_pos (by omega)]
        generalize (l.length : Int) = N at *
        simp [mf15, la, c0, c1, c2, pack, freshB, frz, -evBin, -evLenSl]
      · rw [decide_eq_true (by omega)] at c1
        rw [errX, if_neg (by omega)]
        generalize (l.length : Int) = N at *
        simp [mf15, la, c0, c1, pack, freshB, frz, -evBin, -evLenSl]
end Go.Proofs.YtgbnngmpaefbcaaDoor
/-
  Digest: take (43), join (45), Backward over sides (44, 57).
-/
namespace Go.Proofs.YtgbnngmpaefbcaaDoor
open Go

noncomputable def M43 : PModel := fun args => evP (envOf GD []) 10 mf43 4 args
theorem spec43 : PureSpec Tryd.prog GD 43 M43 := PureSpec.of_ev (E := envOf GD []) (envOf_sound lookM_nil) rfl at43 comp43 4 fun _ _ h => ⟨10, h⟩
theorem M43_nil {a : AV} (ha : SlA 1 (strsA []) a) : M43 [a] = some (.tup [.str [], .nilS, .bool false]) := by
  have la := ha.slen
  have e0 : evBin .eql (.int .i64 0) (.int .i64 0) = some (.bool true) := rfl
  rw [List.length_nil, show ((0 : Nat) : Int) = 0 from rfl] at la
  unfold M43
  rw [evP_run _ _ rfl]
  simp [mf43, la, e0, pack, frz, -evBin, -evLenSl]
theorem M43_cons {p : List Str} {x : Str} (hp : p.length ≤ 1000) {a : AV} (ha : SlA 1 (strsA (p ++ [x])) a) : M43 [a] = some (.tup [.str x, .fs 1 (strsA p), .bool true]) := by
  have hfs : a = .fs 1 (strsA (p ++ [x])) := by
    rcases ha with ⟨_, h0⟩ | h0
    · have := congrArg List.length h0
      rw [strsA_len] at this
      simp at this
    · exact h0
  subst hfs
  have la := fs_len (l := p ++ [x])
  have hl : (p ++ [x]).length = p.length + 1 := by simp
  rw [hl] at la
  have e0 := eq_nat (p.length + 1) 0 .i64
  rw [decide_eq_false (by omega), show ((0 : Nat) : Int) = 0 from rfl] at e0
  have q0 := sub_nat1 (a := p.length + 1) (b := 1) (by omega) (by omega)
  rw [show p.length + 1 - 1 = p.length by omega, show ((1 : Nat) : Int) = 1 from rfl] at q0
  have ix := fun A => (SlA.strs (l := p ++ [x]) (a := .fs 1 (strsA (p ++ [x]))) (.inr rfl) (i := p.length) (s := x) (by simp) (A := A) .i64)
  have st := fun A => fs_to (l := p ++ [x]) (k := p.length) A (by omega)
  rw [List.take_left' rfl] at st
  have f3 : ∀ A, frz A 3 (.fs 1 (strsA p)) = .fs 1 (strsA p) := fun _ => rfl
  unfold M43
  rw [evP_run _ _ rfl]
  generalize strsA (p ++ [x]) = L1 at *
  generalize strsA p = L0 at *
  generalize ((p.length + 1 : Nat) : Int) = N1 at *
  generalize (p.length : Int) = N0 at *
  simp [mf43, la, e0, q0, ix, load_fp1, st, pack, frz, -evBin, -evLenSl, -evIndexSl, -evLoad, -evSliceSl]

/-- a step to the whole -/
abbrev Side := Str × Bool
def sideA (x : Side) : AV := .agg [.str x.1, .bool x.2]
def sidesA (l : List Side) : List AV := l.map sideA
def joinT (x : Side) (p : Str) : Str := if x.2 then nodeT x.1 p else nodeT p x.1
theorem joinT_len (x : Side) (p : Str) : (joinT x p).length = 32 := by
  unfold joinT; split <;> exact nodeT_len _ _
noncomputable def fs45 : List (FuncId × HModel) := [(29, pureH 4 M29)]
@[simp] theorem fs45_29 : lookM fs45 29 = some (pureH 4 M29) := rfl
theorem sound45 : ∀ f M, lookM fs45 f = some M → FnSpecY Tryd.prog GD f M := lookM_cons (FnSpecY.of_pure spec29 4) lookM_nil
noncomputable def M45 : PModel := fun args => evP (envOf GD fs45) 10 mf45 1 args
theorem spec45 : PureSpec Tryd.prog GD 45 M45 := PureSpec.of_ev (E := envOf GD fs45) (envOf_sound sound45) rfl at45 comp45 1 fun _ _ h => ⟨10, h⟩
set_option maxRecDepth 100000 in
theorem M45_eq (x : Side) (p : Str) (hx : x.1.length ≤ 2000) (hp : p.length ≤ 2000) : M45 [sideA x, .str p] = some (.str (joinT x p)) := by
  obtain ⟨r, b⟩ := x
  have m1 := M29_eq (a := r) (b := p) hx hp
  have m2 := M29_eq (a := p) (b := r) hp hx
  have fs := frz_s
  have bx : evBox 2 (.agg [.str r, .bool b]) [] = some (.ptr 0 0 0, [.row 2 false [.agg [.str r, .bool b]]]) := rfl
  have a0 : evFieldAddr 0 [.row 2 false [.agg [.str r, .bool b]]] (.ptr 0 0 0) = some (.ptr 0 0 0) := rfl
  have a1 : evFieldAddr 1 [.row 2 false [.agg [.str r, .bool b]]] (.ptr 0 0 0) = some (.ptr 0 0 1) := rfl
  have l0 : evLoad false 1 [.row 2 false [.agg [.str r, .bool b]]] (.ptr 0 0 0) = some (.str r) := rfl
  have l1 : evLoad false 1 [.row 2 false [.agg [.str r, .bool b]]] (.ptr 0 0 1) = some (.bool b) := rfl
  unfold M45 joinT sideA
  rw [evP_run _ _ rfl]
  simp only at *
  cases b with
  | true =>
    rw [if_pos rfl]
    generalize nodeT r p = R at *
    simp [mf45, bx, a0, a1, l0, l1, m1, fs, -evBox, -evFieldAddr, -evLoad, -frz]
  | false =>
    rw [if_neg (by simp)]
    generalize nodeT p r = R at *
    simp [mf45, bx, a0, a1, l0, l1, m2, fs, -evBox, -evFieldAddr, -evLoad, -frz]

noncomputable def H44 : HModel := fun _ => evFun (envOf GD []) 10 mf44
theorem spec44 : FnSpecY Tryd.prog GD 44 H44 := (evFun_sound (envOf_sound lookM_nil) rfl at44 comp44 PureIn.nil).y
noncomputable def H57 : HModel := fun h => evFun (envY GD [] h) 100 mf57
theorem spec57 : FnSpecY Tryd.prog GD 57 H57 := evFun_soundY lookM_nil at57 comp57 PureIn.nil
theorem H44_eq (hd : Handler) (A : Arena) (v : AV) (hv : v = .nilS ∨ ∃ id n, v = .sl id 0 n) : H44 hd [v] A = some (.func (.func 57) [] [.ptr A.length 0 0], A ++ [.row 1 false [v]]) := by
  unfold H44
  rw [evFun_run _ _ rfl]
  rcases hv with rfl | ⟨id, n, rfl⟩ <;> simp [mf44, pack]

/-- the sides in memory, and nothing -/
def FullW (A : Arena) (o : AV) (w : List Side) : Prop := (o = .nilS ∧ w = []) ∨ ∃ id, o = .sl id 0 w.length ∧ w ≠ [] ∧ A[id]? = some (.row 2 false (sidesA w))
structure BackW (A : Arena) (b : Nat) (o : AV) (l : List Side) : Prop where
  rb : A[b]? = some (.row 1 false [o])
  ri : FullW A o l
section
variable {b : Nat} {o : AV} {l : List Side}
theorem FullW.len {A : Arena} (h : FullW A o l) : evLenSl o = some (.int .i64 (l.length : Int)) := by
  rcases h with ⟨rfl, rfl⟩ | ⟨id, rfl, _, _⟩ <;> rfl
theorem FullW.ldBox {A : Arena} (h : FullW A o l) (hb : A[b]? = some (.row 1 false [o])) : evLoad false 1 A (.ptr b 0 0) = some o := by
  rcases h with ⟨rfl, rfl⟩ | ⟨id, rfl, _, _⟩ <;> exact load_arr hb rfl rfl
set_option maxRecDepth 100000 in
set_option maxHeartbeats 4000000 in
theorem round57 (h : Handler) (L : Nat) {A B : Arena} (hA : BackW A b o l) {i : Nat} {s : Side} (hs : l[i]? = some s) (hl : l.length ≤ 1000) (hy : h (.func (.yield L) [] []) [.int .i64 (i : Int), sideA s] A = some (.bool true, B)) :
    run (envY GD [] h) 100 [.code lp57x0] (st57x0 (.func (.yield L) [] []) (.ptr b 0 0) (.int .i64 (i : Int))) A = some (.normal (st57x0 (.func (.yield L) [] []) (.ptr b 0 0) (.int .i64 ((i : Int) - 1))) B) := by
  have hil := (List.getElem?_eq_some_iff.1 hs).1
  obtain ⟨id, ho, hri⟩ : ∃ id, o = .sl id 0 l.length ∧ A[id]? = some (.row 2 false (sidesA l)) := by
    rcases hA.ri with ⟨_, h0⟩ | ⟨id, h1, _, h2⟩
    · rw [h0] at hil; simp at hil
    · exact ⟨id, h1, h2⟩
  have lb := hA.ri.ldBox hA.rb
  rw [ho] at lb
  have c0 : evBin .geq (.int .i64 (i : Int)) (.int .i64 0) = some (.bool true) := by rw [bGe]; simp
  have hxi : (sidesA l)[i]? = some (sideA s) := by rw [sidesA, List.getElem?_map, hs]; rfl
  have ix : evIndexSl 2 A (.sl id 0 l.length) (.int .i64 (i : Int)) = some (.ptr id i 0) := by
    have : (i : Int) < (l.length : Int) := by omega
    simp only [evIndexSl, hri]
    simp; omega
  have ld : evLoad true 2 A (.ptr id i 0) = some (sideA s) := by
    have hc : loadElem (sideA s) 2 0 true 2 = some (sideA s) := rfl
    simp only [evLoad, hri, hxi, hc]
    simp
  have q0 : evBin .sub (.int .i64 (i : Int)) (.int .i64 1) = some (.int .i64 ((i : Int) - 1)) := bSub _ _ (by unfold inI; omega)
  generalize sideA s = S at *
  generalize ((i : Int) - 1) = I1 at *
  generalize (i : Int) = I0 at *
  simp [lp57x0, lb, c0, ix, ld, hy, q0, -evBin, -evIndexSl, -evLoad]
theorem loop57 (h : Handler) (L : Nat) (hl : l.length ≤ 90) (T : Nat → Arena) (hT : ∀ j, j ≤ l.length → BackW (T j) b o l)
    (hy : ∀ (i : Nat) (s : Side), l[i]? = some s → h (.func (.yield L) [] []) [.int .i64 (i : Int), sideA s] (T (i + 1)) = some (.bool true, T i)) : ∀ (j m : Nat), j ≤ l.length → j < m →
    iter (evC (envY GD [] h) 100 lp57x0) mask57x0 m (st57x0 (.func (.yield L) [] []) (.ptr b 0 0) (.int .i64 ((j : Int) - 1))) (T j) = some (.exit 0 ((st57x0 (.func (.yield L) [] []) (.ptr b 0 0) (.int .i64 (-1))).set 3 (.bool false)) (T 0)) := by
  intro j
  induction j with
  | zero =>
    intro m _ hm
    obtain ⟨m, rfl⟩ : ∃ k, m = k + 1 := ⟨m - 1, by omega⟩
    have c0 : evBin .geq (.int .i64 (-1)) (.int .i64 0) = some (.bool false) := rfl
    rw [iter_succ, cl57x0, show (((0 : Nat) : Int) - 1) = -1 from rfl]
    simp [lp57x0, c0, -evBin]
  | succ j ih =>
    intro m hj hm
    obtain ⟨m, rfl⟩ : ∃ k, m = k + 1 := ⟨m - 1, by omega⟩
    have hs : l[j]? = some l[j] := List.getElem?_eq_getElem (by omega)
    rw [iter_succ, cl57x0, show (((j + 1 : Nat) : Int) - 1) = (j : Int) by omega, round57 h L (hT (j + 1) hj) hs (by omega) (hy j _ hs)]
    exact ih m (by omega) (by omega)
theorem H57_eq (h : Handler) (L : Nat) (hl : l.length ≤ 90) (T : Nat → Arena) (hT : ∀ j, j ≤ l.length → BackW (T j) b o l)
    (hy : ∀ (i : Nat) (s : Side), l[i]? = some s → h (.func (.yield L) [] []) [.int .i64 (i : Int), sideA s] (T (i + 1)) = some (.bool true, T i)) : H57 h [.func (.yield L) [] [], .ptr b 0 0] (T l.length) = some (.tup [], T 0) := by
  have lp := loop57 h L hl T hT hy l.length 100 (Nat.le_refl _) (by omega)
  have lb := (hT _ (Nat.le_refl _)).ri.ldBox (hT _ (Nat.le_refl _)).rb
  have ln := (hT _ (Nat.le_refl _)).ri.len
  have q0 : evBin .sub (.int .i64 (l.length : Int)) (.int .i64 1) = some (.int .i64 ((l.length : Int) - 1)) := bSub _ _ (by unfold inI; omega)
  unfold H57
  rw [evFun_run _ _ rfl]
  generalize ((l.length : Int) - 1) = N1 at *
  generalize (l.length : Int) = N0 at *
  generalize T l.length = TN at *
  simp [mf57, lb, ln, q0, go57x0 lp, pack, -evBin, -evLoad, -evLenSl]
end
end Go.Proofs.YtgbnngmpaefbcaaDoor
/-
  Digest: Verify (21), the way down.
-/
namespace Go.Proofs.YtgbnngmpaefbcaaDoor
open Go

/-- the sides from the whole down to an entry, and what is left of a proof; the proof backwards -/
def wayR : Nat → Nat → List Str → Option (List Side × List Str)
  | n, _, [] => if n ≤ 1 then some ([], []) else none
  | n, i, x :: r => if n ≤ 1 then some ([], x :: r) else
    if leftT n ≤ i then (wayR (n - leftT n) (i - leftT n) r).map fun y => ((x, true) :: y.1, y.2)
    else (wayR (leftT n) i r).map fun y => ((x, false) :: y.1, y.2)
theorem sidesA_len (l : List Side) : (sidesA l).length = l.length := by simp [sidesA]
theorem appN_side {A : Arena} {o : AV} {w : List Side} (h : FullW A o w) (s : Side) (hl : w.length ≤ 1000) : ∃ o' B, evAppendN 2 24 A o (.fs 2 [sideA s]) = some (o', B) ∧ FullW B o' (w ++ [s]) := by
  rcases h with ⟨rfl, rfl⟩ | ⟨id, rfl, h1, h2⟩
  · refine ⟨.sl A.length 0 1, A ++ [.row 2 false [sideA s]], ?_, .inr ⟨A.length, by simp, by simp, by simp [sidesA]⟩⟩
    simp [evAppendN, srcElems]
  · refine ⟨.sl A.length 0 (w.length + 1), A.set id .dead ++ [.row 2 false (sidesA w ++ [sideA s])], ?_, .inr ⟨A.length, by simp, by simp, by simp [sidesA]⟩⟩
    have hb : (w.length + 1) * 24 ≤ 140737488355328 := by omega
    have ht : (sidesA w).take w.length = sidesA w := List.take_of_length_le (by rw [sidesA_len]; omega)
    simp [evAppendN, srcElems, h2, hb, ht]
noncomputable def fs21 : List (FuncId × HModel) := [(42, pureH 4 M42), (43, pureH 4 M43), (37, pureH 4 M37), (26, pureH 4 M26), (45, pureH 4 M45), (46, pureH 4 M46), (27, pureH 4 M27), (44, H44), (57, H57)]
@[simp] theorem fs21_42 : lookM fs21 42 = some (pureH 4 M42) := rfl
@[simp] theorem fs21_43 : lookM fs21 43 = some (pureH 4 M43) := rfl
@[simp] theorem fs21_37 : lookM fs21 37 = some (pureH 4 M37) := rfl
@[simp] theorem fs21_26 : lookM fs21 26 = some (pureH 4 M26) := rfl
@[simp] theorem fs21_45 : lookM fs21 45 = some (pureH 4 M45) := rfl
@[simp] theorem fs21_46 : lookM fs21 46 = some (pureH 4 M46) := rfl
@[simp] theorem fs21_27 : lookM fs21 27 = some (pureH 4 M27) := rfl
@[simp] theorem fs21_44 : lookM fs21 44 = some H44 := rfl
@[simp] theorem fs21_57 : lookM fs21 57 = some H57 := rfl
theorem sound21 : ∀ f M, lookM fs21 f = some M → FnSpecY Tryd.prog GD f M :=
  lookM_cons (FnSpecY.of_pure spec42 4) (lookM_cons (FnSpecY.of_pure spec43 4) (lookM_cons (FnSpecY.of_pure spec37 4) (lookM_cons (FnSpecY.of_pure spec26 4) (lookM_cons (FnSpecY.of_pure spec45 4) (lookM_cons (FnSpecY.of_pure spec46 4) (lookM_cons (FnSpecY.of_pure spec27 4) (lookM_cons spec44 (lookM_cons spec57 lookM_nil))))))))

set_option maxRecDepth 100000 in
set_option maxHeartbeats 4000000 in
theorem none21 {n i : Nat} (h2 : 2 ≤ n) (hn : n < 9223372036854775808) {v4 : AV} (h4 : SlA 1 (strsA []) v4) (v0 v3 o : AV) (A : Arena) :
    ∃ σ, run (envOf GD fs21) 100 [.code lp21x0] (st21x0 v0 (.int .i64 (n : Int)) (.int .i64 (i : Int)) v3 v4 o) A = some (.ret σ A) ∧ σ[5]? = some (.bool false) := by
  have c0 := gt_nat n 1 .i64
  rw [decide_eq_true (by omega), show ((1 : Nat) : Int) = 1 from rfl] at c0
  have m := M43_nil h4
  have f4 := fun A => h4.frz (A := A) 4
  have sc : scalarB 4 (.tup [.str [], .nilS, .bool false]) = true := rfl
  refine ⟨[v0, .int .i64 (n : Int), .int .i64 (i : Int), v3, v4, .bool false, o, .str [], .nilS, .bool false, .undef, .undef, .undef, .undef, .bool true, .bool true, .undef, .undef, .undef, .undef], ?_, rfl⟩
  generalize (n : Int) = N at *
  generalize (i : Int) = I0 at *
  simp [lp21x0, c0, m, f4, -evBin, -frz]
set_option maxRecDepth 100000 in
set_option maxHeartbeats 4000000 in
theorem done21 {n i : Nat} (h2 : n ≤ 1) (v0 v3 v4 o : AV) (A : Arena) :
    run (envOf GD fs21) 100 [.code lp21x0] (st21x0 v0 (.int .i64 (n : Int)) (.int .i64 (i : Int)) v3 v4 o) A = some (.exit 0 ((st21x0 v0 (.int .i64 (n : Int)) (.int .i64 (i : Int)) v3 v4 o).set 14 (.bool false)) A) := by
  have c0 := gt_nat n 1 .i64
  rw [decide_eq_false (by omega), show ((1 : Nat) : Int) = 1 from rfl] at c0
  generalize (n : Int) = N at *
  generalize (i : Int) = I0 at *
  simp [lp21x0, c0, -evBin]
set_option maxRecDepth 100000 in
set_option maxHeartbeats 4000000 in
theorem step21 {n i : Nat} (h2 : 2 ≤ n) (hn : n < 9223372036854775808) (hi : i < n) {p : List Str} {x : Str} (hp : p.length ≤ 1000) {v4 : AV} (h4 : SlA 1 (strsA (p ++ [x])) v4) {w : List Side} (hw : w.length ≤ 1000) {A : Arena} {o : AV} (hF : FullW A o w) (v0 v3 : AV) :
    ∃ o' B, FullW B o' (w ++ [(x, decide (leftT n ≤ i))]) ∧ run (envOf GD fs21) 100 [.code lp21x0] (st21x0 v0 (.int .i64 (n : Int)) (.int .i64 (i : Int)) v3 v4 o) A =
      some (.normal (if leftT n ≤ i then st21x0 v0 (.int .i64 ((n - leftT n : Nat) : Int)) (.int .i64 ((i - leftT n : Nat) : Int)) v3 (.fs 1 (strsA p)) o' else st21x0 v0 (.int .i64 (leftT n : Int)) (.int .i64 (i : Int)) v3 (.fs 1 (strsA p)) o') B) := by
  obtain ⟨b1, b2, b3, _⟩ := leftT_bounds h2 hn
  have c0 := gt_nat n 1 .i64
  rw [decide_eq_true (by omega), show ((1 : Nat) : Int) = 1 from rfl] at c0
  have m := M43_cons hp h4
  have m1 := M37_eq h2 hn
  have hfs : v4 = .fs 1 (strsA (p ++ [x])) := by
    rcases h4 with ⟨_, h0⟩ | h0
    · have := congrArg List.length h0
      rw [strsA_len] at this
      simp at this
    · exact h0
  subst hfs
  have f4 : ∀ (A : Arena) (l : List AV), frz A 4 (.fs 1 l) = .fs 1 l := fun _ _ => rfl
  have nr : ∀ (l : List AV), noRefB 4 (.fs 1 l) = true := fun _ => rfl
  have fi := frz_i
  have sci : ∀ k z, scalarB 4 (.int k z) = true := fun _ _ => rfl
  obtain ⟨o', B, a1, hF'⟩ := appN_side hF (x, decide (leftT n ≤ i)) hw
  refine ⟨o', B, hF', ?_⟩
  have g0 : evBin .geq (.int .i64 (i : Int)) (.int .i64 (leftT n : Int)) = some (.bool (decide (leftT n ≤ i))) := by rw [bGe]; simp
  unfold sideA at a1
  simp only at a1
  by_cases hk : leftT n ≤ i
  · rw [if_pos hk]
    rw [decide_eq_true hk] at a1 g0
    have q0 := Dsub_nat i (leftT n) hk
    have q1 : evBin .sub (.int .i64 (n : Int)) (.int .i64 (leftT n : Int)) = some (.int .i64 ((n - leftT n : Nat) : Int)) := by
      rw [bSub _ _ (by unfold inI; omega)]; congr 2; omega
    have q2 : evBin .sub (.int .i64 (i : Int)) (.int .i64 (leftT n : Int)) = some (.int .i64 ((i - leftT n : Nat) : Int)) := by
      rw [bSub _ _ (by unfold inI; omega)]; congr 2; omega
    clear q0
    generalize strsA (p ++ [x]) = L1 at *
    generalize strsA p = L0 at *
    generalize ((n - leftT n : Nat) : Int) = NK at *
    generalize ((i - leftT n : Nat) : Int) = IK at *
    generalize (leftT n : Int) = K at *
    generalize (n : Int) = N at *
    generalize (i : Int) = I0 at *
    simp [lp21x0, c0, m, m1, f4, nr, fi, g0, a1, q1, q2, -evBin, -frz, -noRefB]
  · rw [if_neg hk]
    rw [decide_eq_false hk] at a1 g0
    generalize strsA (p ++ [x]) = L1 at *
    generalize strsA p = L0 at *
    generalize (leftT n : Int) = K at *
    generalize (n : Int) = N at *
    generalize (i : Int) = I0 at *
    simp [lp21x0, c0, m, m1, f4, nr, fi, g0, a1, -evBin, -frz, -noRefB]
theorem loop21 (v0 v3 : AV) : ∀ (rp : List Str) (n i : Nat) (wa : List Side) (A : Arena) (o v4 : AV) (m : Nat), 1 ≤ n → n < 9223372036854775808 → i < n → SlA 1 (strsA rp.reverse) v4 → FullW A o wa → wa.length + rp.length ≤ 900 → rp.length < m →
    match wayR n i rp with
    | none => ∃ σ B, iter (evC (envOf GD fs21) 100 lp21x0) mask21x0 m (st21x0 v0 (.int .i64 (n : Int)) (.int .i64 (i : Int)) v3 v4 o) A = some (.ret σ B) ∧ σ[5]? = some (.bool false)
    | some (w, q) => ∃ v1 v2 v4' o' B, iter (evC (envOf GD fs21) 100 lp21x0) mask21x0 m (st21x0 v0 (.int .i64 (n : Int)) (.int .i64 (i : Int)) v3 v4 o) A = some (.exit 0 ((st21x0 v0 v1 v2 v3 v4' o').set 14 (.bool false)) B) ∧ SlA 1 (strsA q.reverse) v4' ∧ FullW B o' (wa ++ w) := by
  intro rp
  induction rp with
  | nil =>
    intro n i wa A o v4 m h1 hn hi h4 hF hl hm
    obtain ⟨m, rfl⟩ : ∃ k, m = k + 1 := ⟨m - 1, by omega⟩
    unfold wayR
    by_cases hn1 : n ≤ 1
    · rw [if_pos hn1]
      refine ⟨.int .i64 (n : Int), .int .i64 (i : Int), v4, o, A, ?_, h4, by rw [List.append_nil]; exact hF⟩
      rw [iter_succ, cl21x0, done21 hn1]
    · rw [if_neg hn1]
      obtain ⟨σ, hr, hσ⟩ := none21 (i := i) (by omega) hn h4 v0 v3 o A
      refine ⟨σ, A, ?_, hσ⟩
      rw [iter_succ, cl21x0, hr]
  | cons x r ih =>
    intro n i wa A o v4 m h1 hn hi h4 hF hl hm
    obtain ⟨m, rfl⟩ : ∃ k, m = k + 1 := ⟨m - 1, by omega⟩
    unfold wayR
    by_cases hn1 : n ≤ 1
    · rw [if_pos hn1]
      refine ⟨.int .i64 (n : Int), .int .i64 (i : Int), v4, o, A, ?_, h4, by rw [List.append_nil]; exact hF⟩
      rw [iter_succ, cl21x0, done21 hn1]
    · rw [if_neg hn1]
      simp only [List.length_cons] at hl hm
      obtain ⟨b1, b2, b3, _⟩ := leftT_bounds (n := n) (by omega) hn
      rw [List.reverse_cons] at h4
      obtain ⟨o1, B1, hF1, hr⟩ := step21 (by omega) hn hi (by simp; omega) h4 (by omega) hF v0 v3
      have hrev : SlA 1 (strsA r.reverse) (.fs 1 (strsA r.reverse)) := .inr rfl
      by_cases hk : leftT n ≤ i
      · rw [if_pos hk] at hr ⊢
        rw [decide_eq_true hk] at hF1
        have := ih (n - leftT n) (i - leftT n) (wa ++ [(x, true)]) B1 o1 (.fs 1 (strsA r.reverse)) m (by omega) (by omega) (by omega) hrev hF1 (by simp; omega) (by omega)
        rw [iter_succ, cl21x0, hr]
        cases hw : wayR (n - leftT n) (i - leftT n) r with
        | none => rw [hw] at this; exact this
        | some y =>
          obtain ⟨w, q⟩ := y
          rw [hw] at this
          simp only [Option.map_some]
          simp only [List.append_assoc, List.singleton_append] at this
          exact this
      · rw [if_neg hk] at hr ⊢
        rw [decide_eq_false hk] at hF1
        have := ih (leftT n) i (wa ++ [(x, false)]) B1 o1 (.fs 1 (strsA r.reverse)) m (by omega) (by omega) (by omega) hrev hF1 (by simp; omega) (by omega)
        rw [iter_succ, cl21x0, hr]
        cases hw : wayR (leftT n) i r with
        | none => rw [hw] at this; exact this
        | some y =>
          obtain ⟨w, q⟩ := y
          rw [hw] at this
          simp only [Option.map_some]
          simp only [List.append_assoc, List.singleton_append] at this
          exact this
end Go.Proofs.YtgbnngmpaefbcaaDoor
/-
  Digest: Verify (21), as a whole.
-/
namespace Go.Proofs.YtgbnngmpaefbcaaDoor
open Go

theorem wayR_mem : ∀ (r : List Str) (n i : Nat) (w : List Side) (q : List Str), wayR n i r = some (w, q) → (∀ x ∈ w, x.1 ∈ r) ∧ (∀ x ∈ q, x ∈ r) ∧ w.length ≤ r.length
  | [], n, i, w, q, h => by
    unfold wayR at h
    split at h
    · injection h with h; injection h with h1 h2; subst h1; subst h2; simp
    · cases h
  | x :: r, n, i, w, q, h => by
    unfold wayR at h
    split at h
    · injection h with h; injection h with h1 h2; subst h1; subst h2; simp
    · split at h <;>
      · simp only [Option.map_eq_some_iff] at h
        obtain ⟨y, h1, h2⟩ := h
        injection h2 with h2 h3
        subst h2; subst h3
        obtain ⟨i1, i2, i3⟩ := wayR_mem r _ _ y.1 y.2 h1
        refine ⟨fun z hz => ?_, fun z hz => List.mem_cons_of_mem _ (i2 z hz), by simp; omega⟩
        rcases List.mem_cons.1 hz with rfl | hz
        · exact List.mem_cons_self ..
        · exact List.mem_cons_of_mem _ (i1 z hz)

/-- the memory when some sides are done, the last one first -/
def TBk (X : Arena) (r : Nat) (w : List Side) (outs : Nat → Str) : Nat → Arena
  | 0 => X
  | k + 1 => (TBk X r w outs k ++ [Ent.row 2 false [sideA (w.getD (w.length - 1 - k) ([], false))]]).set r (Ent.row 1 false [.str (outs (w.length - 1 - k))])
section
variable {X : Arena} {r : Nat} {w : List Side} {outs : Nat → Str}
theorem TBk_len : ∀ k : Nat, X.length ≤ (TBk X r w outs k).length
  | 0 => Nat.le_refl _
  | k + 1 => by have := TBk_len k; simp only [TBk, List.length_set, List.length_append]; omega
theorem TBk_get {j : Nat} (hj : j < X.length) (hr : j ≠ r) : ∀ k, (TBk X r w outs k)[j]? = X[j]?
  | 0 => rfl
  | k + 1 => by
    have := TBk_len (X := X) (r := r) (w := w) (outs := outs) k
    rw [TBk, List.getElem?_set_ne (Ne.symm hr), List.getElem?_append_left (by omega), TBk_get hj hr k]
theorem TBk_out (hX : X[r]? = some (.row 1 false [.str (outs w.length)])) : ∀ k, k ≤ w.length → (TBk X r w outs k)[r]? = some (.row 1 false [.str (outs (w.length - k))])
  | 0, _ => hX
  | k + 1, hk => by
    have := TBk_len (X := X) (r := r) (w := w) (outs := outs) k
    have hl := (List.getElem?_eq_some_iff.1 hX).1
    rw [TBk, List.getElem?_set_self (by simp; omega), show w.length - 1 - k = w.length - (k + 1) by omega]
theorem TBk_set {j : Nat} (hj : j < X.length) (hr : j ≠ r) (e : Ent) : ∀ k, (TBk X r w outs k).set j e = TBk (X.set j e) r w outs k
  | 0 => rfl
  | k + 1 => by
    have := TBk_len (X := X) (r := r) (w := w) (outs := outs) k
    rw [TBk, TBk, List.set_comm _ _ (Ne.symm hr), List.set_append_left _ _ (by omega), TBk_set hj hr e k]
theorem set_back2 {A : Arena} {n0 r : Nat} {e R : Ent} (hn : A[n0]? = some e) (hne : n0 ≠ r) : ((A.set n0 .dead).set r R).set n0 e = A.set r R := by
  rw [List.set_comm _ _ (Ne.symm hne), List.set_set]
  congr 1
  have h := (List.getElem?_eq_some_iff.1 hn).2
  rw [← h, List.set_getElem_self]
set_option maxRecDepth 100000 in
set_option maxHeartbeats 4000000 in
theorem yield21 (hd : Handler) {A : Arena} {n0 L i : Nat} {rr : Loop} {s : Side} {p : Str} {v0 v1 v2 v3 v4 v5 v6 v7 v8 v9 v10 v12 v13 v14 v15 v16 v17 v18 v19 : AV} (hn : A[n0]? = some (.loop rr 0)) (hne : n0 ≠ r) (hA : A[r]? = some (.row 1 false [.str p])) (hs : s.1.length ≤ 2000) (hp : p.length ≤ 2000) :
    yieldH n0 L rr [v0, v1, v2, v3, v4, v5, v6, v7, v8, v9, v10, .ptr r 0 0, v12, v13, v14, v15, v16, v17, v18, v19] [18, 19] (evC (envY GD fs21 hd) 100 lp21x1) (evC (envY GD fs21 hd) 100 lp21x2) hd (.func (.yield L) [] []) [.int .i64 (i : Int), sideA s] A =
      some (.bool true, (A ++ [Ent.row 2 false [sideA s]]).set r (Ent.row 1 false [.str (joinT s p)])) := by
  have hln := (List.getElem?_eq_some_iff.1 hn).1
  have hlr := (List.getElem?_eq_some_iff.1 hA).1
  have m := M45_eq s p hs hp
  have bx : evBox 2 (.agg [.str [], .bool false]) A = some (.ptr A.length 0 0, A ++ [.row 2 false [.agg [.str [], .bool false]]]) := rfl
  obtain ⟨A1, hA1⟩ : ∃ A1, A1 = A ++ [Ent.row 2 false [sideA s]] := ⟨_, rfl⟩
  have st0 : evStore 2 (A ++ [.row 2 false [.agg [.str [], .bool false]]]) (.ptr A.length 0 0) (sideA s) = some A1 := by
    have h1 : (A ++ [Ent.row 2 false [.agg [.str [], .bool false]]])[A.length]? = some (.row 2 false [.agg [.str [], .bool false]]) := by simp
    have h2 : (sideA s).solid = true := rfl
    have h3 : (cellsOf (sideA s)).length = 2 := rfl
    simp only [evStore, h1, h2, h3, List.getElem?_cons_zero, storeElem]
    simp [hA1]
  have hn1 : A1[n0]? = some (.loop rr 0) := by rw [hA1, List.getElem?_append_left hln]; exact hn
  obtain ⟨Y, hY⟩ : ∃ Y, Y = A1.set n0 .dead := ⟨_, rfl⟩
  have hYr : Y[r]? = some (.row 1 false [.str p]) := by rw [hY, List.getElem?_set_ne hne, hA1, List.getElem?_append_left hlr]; exact hA
  have hYs : Y[A.length]? = some (.row 2 false [sideA s]) := by rw [hY, List.getElem?_set_ne (by omega), hA1]; simp
  have ld0 : evLoad true 2 Y (.ptr A.length 0 0) = some (sideA s) := by
    have hc : loadElem (sideA s) 2 0 true 2 = some (sideA s) := rfl
    simp only [evLoad, hYs, List.getElem?_cons_zero, hc]
    simp
  have ld1 : evLoad false 1 Y (.ptr r 0 0) = some (.str p) := load_arr hYr rfl rfl
  have st1 : evStore 1 Y (.ptr r 0 0) (.str (joinT s p)) = some (Y.set r (.row 1 false [.str (joinT s p)])) := store_arr hYr rfl rfl rfl
  have fs := frz_s
  have fs2 : ∀ A, frz A 4 (sideA s) = sideA s := fun A => by simp [sideA, frz]
  have sc : ∀ s, scalarB 4 (.str s) = true := fun _ => rfl
  have ha : run (envY GD fs21 hd) 100 [.code lp21x1] [v0, v1, v2, v3, v4, v5, v6, v7, v8, v9, v10, .ptr r 0 0, v12, v13, v14, v15, v16, v17, .int .i64 (i : Int), sideA s] A = some (.normal [v0, v1, v2, v3, v4, v5, v6, v7, v8, v9, v10, .ptr r 0 0, .ptr A.length 0 0, v13, v14, v15, v16, v17, .int .i64 (i : Int), sideA s] A1) := by
    generalize sideA s = S at *
    simp [lp21x1, bx, st0, -evBox, -evStore]
  have hb : run (envY GD fs21 hd) 100 [.code lp21x2] [v0, v1, v2, v3, v4, v5, v6, v7, v8, v9, v10, .ptr r 0 0, .ptr A.length 0 0, v13, v14, v15, v16, v17, .int .i64 (i : Int), sideA s] Y = some (.normal [.undef, .undef, .undef, .undef, .undef, .undef, .undef, .undef, .undef, .undef, .undef, .undef, .undef, .undef, .undef, .undef, .undef, .undef, .undef, .undef] (Y.set r (.row 1 false [.str (joinT s p)]))) := by
    generalize sideA s = S at *
    generalize joinT s p = J at *
    simp [lp21x2, ld0, ld1, m, fs, fs2, st1, -evLoad, -evStore, -frz]
  have hsa : setAll [v0, v1, v2, v3, v4, v5, v6, v7, v8, v9, v10, .ptr r 0 0, v12, v13, v14, v15, v16, v17, v18, v19] [18, 19] [.int .i64 (i : Int), sideA s] = some [v0, v1, v2, v3, v4, v5, v6, v7, v8, v9, v10, .ptr r 0 0, v12, v13, v14, v15, v16, v17, .int .i64 (i : Int), sideA s] := rfl
  rw [hY] at hb
  have hy := yieldH_normal (l := L) (h := hd) hn hsa ha hn1 hb
  rw [set_back2 hn1 hne, hA1] at hy
  exact hy
set_option maxRecDepth 100000 in
theorem range21 {b : Nat} {o : AV} (hl : w.length ≤ 90) (hB : BackW X b o w) (hXr : X[r]? = some (.row 1 false [.str (outs w.length)])) (hbr : b ≠ r) (hor : ∀ id n, o = .sl id 0 n → id ≠ r) (hlen : ∀ s ∈ w, s.1.length ≤ 2000) (ho : ∀ i, (outs i).length ≤ 2000) (hst : ∀ (i : Nat) (s : Side), w[i]? = some s → outs i = joinT s (outs (i + 1)))
    (v0 v1 v2 v3 v4 v5 v6 v7 v8 v9 v10 v12 v13 v14 v15 v16 v18 v19 : AV) (K : List KC) :
    run (envOf GD fs21) 100 (.code (.rangeFunc (.var 17) [18, 19] lp21x1 lp21x2) :: K) [v0, v1, v2, v3, v4, v5, v6, v7, v8, v9, v10, .ptr r 0 0, v12, v13, v14, v15, v16, .func (.func 57) [] [.ptr b 0 0], v18, v19] X =
      after (envOf GD fs21) 100 K (.normal [v0, v1, v2, v3, v4, v5, v6, v7, v8, v9, v10, .ptr r 0 0, v12, v13, v14, v15, v16, .func (.func 57) [] [.ptr b 0 0], v18, v19] (TBk (X ++ [.dead]) r w outs w.length)) := by
  refine run_rangeFunc _ _ _ _ _ fun L rr => ?_
  have hrl := (List.getElem?_eq_some_iff.1 hXr).1
  have hbl := (List.getElem?_eq_some_iff.1 hB.rb).1
  have old : ∀ {k : Nat}, k < X.length → (X ++ [Ent.loop rr 0])[k]? = X[k]? := fun h => List.getElem?_append_left h
  have hXr' : (X ++ [Ent.loop rr 0])[r]? = some (.row 1 false [.str (outs w.length)]) := (old hrl).trans hXr
  have hT : ∀ j, j ≤ w.length → BackW (TBk (X ++ [Ent.loop rr 0]) r w outs (w.length - j)) b o w := fun j _ => by
    refine ⟨?_, ?_⟩
    · rw [TBk_get (by simp; omega) hbr, old hbl]; exact hB.rb
    · rcases hB.ri with h | ⟨id, h1, h2, h3⟩
      · exact .inl h
      · have hil := (List.getElem?_eq_some_iff.1 h3).1
        exact .inr ⟨id, h1, h2, by rw [TBk_get (by simp; omega) (hor id _ h1), old hil]; exact h3⟩
  have hc := H57_eq (yieldH X.length L rr [v0, v1, v2, v3, v4, v5, v6, v7, v8, v9, v10, .ptr r 0 0, v12, v13, v14, v15, v16, .func (.func 57) [] [.ptr b 0 0], v18, v19] [18, 19] (evC (envY GD fs21 fun _ _ _ => none) 100 lp21x1) (evC (envY GD fs21 fun _ _ _ => none) 100 lp21x2) fun _ _ _ => none) L hl (fun j => TBk (X ++ [Ent.loop rr 0]) r w outs (w.length - j)) hT
    (fun i s hs => by
      have hil := (List.getElem?_eq_some_iff.1 hs).1
      have hy := yield21 (fun _ _ _ => none) (r := r) (A := TBk (X ++ [Ent.loop rr 0]) r w outs (w.length - (i + 1))) (n0 := X.length) (L := L) (i := i) (rr := rr) (s := s) (p := outs (i + 1)) (v0 := v0) (v1 := v1) (v2 := v2) (v3 := v3) (v4 := v4) (v5 := v5) (v6 := v6) (v7 := v7) (v8 := v8) (v9 := v9) (v10 := v10) (v12 := v12) (v13 := v13) (v14 := v14) (v15 := v15) (v16 := v16) (v17 := .func (.func 57) [] [.ptr b 0 0]) (v18 := v18) (v19 := v19)
        (by rw [TBk_get (by simp) (by omega)]; simp) (by omega) (by rw [TBk_out hXr' _ (by omega), show w.length - (w.length - (i + 1)) = i + 1 by omega]) (hlen s (List.mem_of_getElem? hs)) (ho _)
      rw [← hst i s hs] at hy
      refine hy.trans ?_
      have e1 : w.length - i = (w.length - (i + 1)) + 1 := by omega
      have e2 : w.length - 1 - (w.length - (i + 1)) = i := by omega
      have e3 : w.getD i ([], false) = s := by rw [List.getD_eq_getElem?_getD, hs]; rfl
      rw [e1, TBk, e2, e3])
  simp only [Nat.sub_self, Nat.sub_zero] at hc
  have hcall : callM fs21 (yieldH X.length L rr [v0, v1, v2, v3, v4, v5, v6, v7, v8, v9, v10, .ptr r 0 0, v12, v13, v14, v15, v16, .func (.func 57) [] [.ptr b 0 0], v18, v19] [18, 19] (evC (envY GD fs21 fun _ _ _ => none) 100 lp21x1) (evC (envY GD fs21 fun _ _ _ => none) 100 lp21x2) fun _ _ _ => none)
      (.func (.func 57) [] [.ptr b 0 0]) [.func (.yield L) [] []] (X ++ [Ent.loop rr 0]) = _ := hc
  show (match callM fs21 _ (.func (.func 57) [] [.ptr b 0 0]) [.func (.yield L) [] []] (X ++ [Ent.loop rr 0]) with
    | some (_, A') => afterR X.length _ A'
    | none => none) = _
  erw [hcall]
  have e1 : (TBk (X ++ [Ent.loop rr 0]) r w outs w.length)[X.length]? = some (.loop rr 0) := by
    rw [TBk_get (by simp) (by omega)]; simp
  simp only [afterR, e1]
  rw [TBk_set (by simp) (by omega)]
  simp
end

/-- what Verify answers -/
def verifyT (root : Str) (n i : Int) (s : Str) (p : List Str) : Bool :=
  if (0 ≤ i ∧ i < n) ∧ p.all isDig = true then match wayR n.toNat i.toNat p.reverse with
    | none => false
    | some (w, q) => decide (q = []) && decide (w.foldr joinT (leafT s) = root)
  else false
noncomputable def M21 : PModel := fun args => evP (envOf GD fs21) 100 mf21 1 args
theorem spec21 : PureSpec Tryd.prog GD 21 M21 := PureSpec.of_ev (E := envOf GD fs21) (envOf_sound sound21) rfl at21 comp21 1 fun _ _ h => ⟨100, h⟩
def outsV (s0 : Str) (w : List Side) (j : Nat) : Str := (w.drop j).foldr joinT s0
theorem outsV_step (s0 : Str) (w : List Side) (i : Nat) (s : Side) (h : w[i]? = some s) : outsV s0 w i = joinT s (outsV s0 w (i + 1)) := by
  obtain ⟨h1, h2⟩ := List.getElem?_eq_some_iff.1 h
  unfold outsV
  rw [List.drop_eq_getElem_cons h1, h2]; rfl
theorem outsV_len (s0 : Str) (h0 : s0.length = 32) (w : List Side) (j : Nat) : (outsV s0 w j).length = 32 := by
  unfold outsV
  cases w.drop j with
  | nil => exact h0
  | cons x r => exact joinT_len _ _
theorem eq_str (a b : Str) : evBin .eql (.str a) (.str b) = some (.bool (decide (a = b))) := by
  simp only [evBin]
  by_cases h : a = b <;> simp [h]
theorem dig_len {p : List Str} (h : p.all isDig = true) {x : Str} (hx : x ∈ p) : x.length = 32 := by
  have := List.all_eq_true.1 h x hx
  simpa [isDig] using this
set_option maxRecDepth 100000 in
set_option maxHeartbeats 4000000 in
theorem M21_no (root : Str) {n i : Int} (s : Str) {p : List Str} {pv : AV} (hp : SlA 1 (strsA p) pv) (hpl : p.length ≤ 80) (h : ¬ ((0 ≤ i ∧ i < n) ∧ p.all isDig = true)) : M21 [.str root, .int .i64 n, .int .i64 i, .str s, pv] = some (.bool false) := by
  have c0 := bLt .i64 i 0
  have c1 := bGe .i64 i n
  have m := M42_eq hp (by omega)
  have f4 := fun A n => hp.frz (A := A) n
  have fb := frz_b
  have sc : ∀ b, scalarB 4 (.bool b) = true := fun _ => rfl
  unfold M21
  rw [evP_run _ _ rfl]
  by_cases h0 : i < 0
  · rw [decide_eq_true h0] at c0
    simp [mf21, c0, fb, -evBin, -frz]
  · rw [decide_eq_false h0] at c0
    by_cases h1 : n ≤ i
    · rw [decide_eq_true h1] at c1
      simp [mf21, c0, c1, fb, -evBin, -frz]
    · rw [decide_eq_false h1] at c1
      have hd : p.all isDig = false := by
        cases hd : p.all isDig with
        | false => rfl
        | true => exact absurd ⟨⟨by omega, by omega⟩, hd⟩ h
      rw [hd] at m
      simp [mf21, c0, c1, f4, m, fb, -evBin, -frz]
set_option maxRecDepth 100000 in
set_option maxHeartbeats 4000000 in
theorem M21_eq (root : Str) {n i : Int} (hn : n < 9223372036854775808) {s : Str} (hs : s.length ≤ 4000) {p : List Str} {pv : AV} (hp : SlA 1 (strsA p) pv) (hpl : p.length ≤ 80) : M21 [.str root, .int .i64 n, .int .i64 i, .str s, pv] = some (.bool (verifyT root n i s p)) := by
  by_cases h : (0 ≤ i ∧ i < n) ∧ p.all isDig = true
  · rw [verifyT, if_pos h]
    obtain ⟨⟨h0, h1⟩, hd⟩ := h
    obtain ⟨N, rfl⟩ : ∃ N : Nat, n = N := ⟨n.toNat, by omega⟩
    obtain ⟨I, rfl⟩ : ∃ I : Nat, i = I := ⟨i.toNat, by omega⟩
    simp only [Int.toNat_natCast]
    have c0 := bLt .i64 (I : Int) 0
    have c1 := bGe .i64 (I : Int) N
    rw [decide_eq_false (by omega)] at c0
    rw [decide_eq_false (by omega)] at c1
    have m := M42_eq hp (by omega)
    rw [hd] at m
    have f4 := fun A n => hp.frz (A := A) n
    have fb := frz_b
    have sc : ∀ b, scalarB 4 (.bool b) = true := fun _ => rfl
    have scs : ∀ s, scalarB 4 (.str s) = true := fun _ => rfl
    have fs := frz_s
    have lp := loop21 (.str root) (.str s) p.reverse N I [] [] .nilS pv 100 (by omega) (by omega) (by omega) (by rw [List.reverse_reverse]; exact hp) (.inl ⟨rfl, rfl⟩) (by simp; omega) (by simp; omega)
    cases hw : wayR N I p.reverse with
    | none =>
      rw [hw] at lp
      obtain ⟨σ, B, lp, hσ⟩ := lp
      unfold M21
      rw [evP_run _ _ rfl]
      generalize (N : Int) = N0 at *
      generalize (I : Int) = I0 at *
      simp [mf21, c0, c1, f4, m, go21x0 lp, hσ, fb, -evBin, -frz]
    | some y =>
      obtain ⟨w, q⟩ := y
      rw [hw] at lp
      obtain ⟨v1, v2, v4, o, A, lp, h4, hF⟩ := lp
      rw [List.nil_append] at hF
      obtain ⟨q1, q2, q3⟩ := wayR_mem _ _ _ _ _ hw
      have m26 := M26_eq hs
      have bx : evBox 1 (.str []) A = some (.ptr A.length 0 0, A ++ [.row 1 false [.str []]]) := by simp [evBox]
      have st : evStore 1 (A ++ [.row 1 false [.str []]]) (.ptr A.length 0 0) (.str (leafT s)) = some (A ++ [.row 1 false [.str (leafT s)]]) := by
        rw [store_arr (es := [.str []]) (by simp) rfl rfl rfl]; simp
      obtain ⟨A1, hA1⟩ : ∃ X, X = A ++ [Ent.row 1 false [.str (leafT s)]] := ⟨_, rfl⟩
      have hA1l : A1.length = A.length + 1 := by rw [hA1]; simp
      have hF1 : FullW A1 o w := by
        rcases hF with h | ⟨id, e1, e2, e3⟩
        · exact .inl h
        · exact .inr ⟨id, e1, e2, by rw [hA1, List.getElem?_append_left (List.getElem?_eq_some_iff.1 e3).1]; exact e3⟩
      have c44 := fun hd => H44_eq hd A1 o (by rcases hF with h | ⟨id, e1, _⟩; exact .inl h.1; exact .inr ⟨id, _, e1⟩)
      obtain ⟨X, hX⟩ : ∃ X, X = A1 ++ [Ent.row 1 false [o]] := ⟨_, rfl⟩
      have hXr : X[A.length]? = some (.row 1 false [.str (outsV (leafT s) w w.length)]) := by
        rw [hX, List.getElem?_append_left (by omega), hA1, outsV]; simp
      have hB : BackW X A1.length o w := by
        refine ⟨by rw [hX]; simp, ?_⟩
        rcases hF1 with h | ⟨id, e1, e2, e3⟩
        · exact .inl h
        · exact .inr ⟨id, e1, e2, by rw [hX, List.getElem?_append_left (List.getElem?_eq_some_iff.1 e3).1]; exact e3⟩
      have hor : ∀ id n, o = .sl id 0 n → id ≠ A.length := fun id n he => by
        rcases hF with h | ⟨id', e1, _, e3⟩
        · rw [h.1] at he; cases he
        · rw [e1] at he; injection he with he; have := (List.getElem?_eq_some_iff.1 e3).1; omega
      have hdl : ∀ x ∈ w, x.1.length ≤ 2000 := fun x hx => by
        have := dig_len hd (List.mem_reverse.1 (q1 x hx)); omega
      simp only [List.length_reverse] at q3
      have rg := fun v0 v1 v2 v3 v4 v5 v6 v7 v8 v9 v10 v12 v13 v14 v15 v16 v18 v19 K => range21 (r := A.length) (outs := outsV (leafT s) w) (by omega) hB hXr (by omega) hor hdl (fun i => by have := outsV_len (leafT s) (leafT_len s) w i; omega) (outsV_step (leafT s) w) v0 v1 v2 v3 v4 v5 v6 v7 v8 v9 v10 v12 v13 v14 v15 v16 v18 v19 K
      have ldf : evLoad false 1 (TBk (X ++ [.dead]) A.length w (outsV (leafT s) w) w.length) (.ptr A.length 0 0) = some (.str (w.foldr joinT (leafT s))) := by
        refine load_arr (es := [.str (w.foldr joinT (leafT s))]) ?_ rfl rfl
        rw [TBk_out (by rw [List.getElem?_append_left (List.getElem?_eq_some_iff.1 hXr).1]; exact hXr) _ (Nat.le_refl _), Nat.sub_self, outsV, List.drop_zero]
      have l4 := h4.slen
      rw [List.length_reverse] at l4
      have e0 := eq_nat q.length 0 .i64
      rw [show ((0 : Nat) : Int) = 0 from rfl, show decide (q.length = 0) = decide (q = []) from by simp [List.length_eq_zero_iff]] at e0
      have e1 := eq_str (w.foldr joinT (leafT s)) root
      rw [← hX] at c44
      rw [← hA1] at st
      simp only
      unfold M21
      rw [evP_run _ _ rfl]
      generalize decide (q = []) = b0 at *
      generalize decide (w.foldr joinT (leafT s) = root) = b1 at *
      generalize TBk (X ++ [.dead]) A.length w (outsV (leafT s) w) w.length = FIN at *
      generalize w.foldr joinT (leafT s) = WF at *
      generalize leafT s = LS at *
      generalize (N : Int) = N0 at *
      generalize (I : Int) = I0 at *
      generalize (q.length : Int) = QL at *
      generalize A ++ [Ent.row 1 false [.str []]] = A0 at *
      clear hA1 hX hB hXr hF hF1 hor
      cases b0 <;> simp [mf21, c0, c1, f4, m, go21x0 lp, m26, fs, bx, st, c44, rg, l4, e0, ldf, e1, fb, -evBin, -evLenSl, -evLoad, -evStore, -evBox, -frz]
  · rw [M21_no root s hp hpl h, verifyT, if_neg h]
end Go.Proofs.YtgbnngmpaefbcaaDoor
/-
  Digest: VerifyExtension (22), the way down and the loop over the sides.
-/
namespace Go.Proofs.YtgbnngmpaefbcaaDoor
open Go

/-- the sides down to the end of the beginning, what is left of a proof, and whether the beginning is still the whole -/
def upR : Nat → Nat → Bool → List Str → Option (List Side × List Str × Bool)
  | m, n, wh, [] => if n ≤ m then some ([], [], wh) else none
  | m, n, wh, x :: r => if n ≤ m then some ([], x :: r, wh) else
    if leftT n < m then (upR (m - leftT n) (n - leftT n) false r).map fun y => ((x, true) :: y.1, y.2)
    else (upR m (leftT n) wh r).map fun y => ((x, false) :: y.1, y.2)
theorem upR_mem : ∀ (r : List Str) (m n : Nat) (wh : Bool) (w : List Side) (q : List Str) (wh' : Bool), upR m n wh r = some (w, q, wh') → (∀ x ∈ w, x.1 ∈ r) ∧ (∀ x ∈ q, x ∈ r) ∧ w.length ≤ r.length
  | [], m, n, wh, w, q, wh', h => by
    unfold upR at h
    split at h
    · injection h with h; injection h with h1 h2; injection h2 with h2 h3; subst h1; subst h2; simp
    · cases h
  | x :: r, m, n, wh, w, q, wh', h => by
    unfold upR at h
    split at h
    · injection h with h; injection h with h1 h2; injection h2 with h2 h3; subst h1; subst h2; simp
    · split at h <;>
      · simp only [Option.map_eq_some_iff] at h
        obtain ⟨y, h1, h2⟩ := h
        injection h2 with h2 h3
        obtain ⟨y1, y2, y3⟩ := y
        injection h3 with h3 h4
        simp only at h2 h3
        subst h2; subst h3
        obtain ⟨i1, i2, i3⟩ := upR_mem r _ _ _ _ _ _ h1
        refine ⟨fun z hz => ?_, fun z hz => List.mem_cons_of_mem _ (i2 z hz), by simp; omega⟩
        rcases List.mem_cons.1 hz with rfl | hz
        · exact List.mem_cons_self ..
        · exact List.mem_cons_of_mem _ (i1 z hz)
set_option maxRecDepth 100000 in
set_option maxHeartbeats 4000000 in
theorem none22 {m n : Nat} (h2 : m < n) {v4 : AV} (h4 : SlA 1 (strsA []) v4) (v0 v2 o w : AV) (A : Arena) :
    ∃ σ, run (envOf GD fs21) 100 [.code lp22x0] (st22x0 v0 (.int .i64 (m : Int)) v2 (.int .i64 (n : Int)) v4 o w) A = some (.ret σ A) ∧ σ[5]? = some (.bool false) := by
  have c0 := Dlt_nat m n .i64
  rw [decide_eq_true h2] at c0
  have m1 := M43_nil h4
  have f4 := fun A => h4.frz (A := A) 4
  have sc : scalarB 4 (.tup [.str [], .nilS, .bool false]) = true := rfl
  refine ⟨[v0, .int .i64 (m : Int), v2, .int .i64 (n : Int), v4, .bool false, o, w, .str [], .nilS, .bool false, .undef, .undef, .undef, .undef, .undef, .undef, .undef, .bool true, .bool true, .undef, .undef, .undef, .undef, .undef, .undef, .undef], ?_, rfl⟩
  generalize (n : Int) = N at *
  generalize (m : Int) = I0 at *
  simp [lp22x0, c0, m1, f4, -evBin, -frz]
set_option maxRecDepth 100000 in
set_option maxHeartbeats 4000000 in
theorem done22 {m n : Nat} (h2 : n ≤ m) (v0 v2 v4 o w : AV) (A : Arena) :
    run (envOf GD fs21) 100 [.code lp22x0] (st22x0 v0 (.int .i64 (m : Int)) v2 (.int .i64 (n : Int)) v4 o w) A = some (.exit 1 ((st22x0 v0 (.int .i64 (m : Int)) v2 (.int .i64 (n : Int)) v4 o w).set 18 (.bool false)) A) := by
  have c0 := Dlt_nat m n .i64
  rw [decide_eq_false (by omega)] at c0
  generalize (n : Int) = N at *
  generalize (m : Int) = I0 at *
  simp [lp22x0, c0, -evBin]
set_option maxRecDepth 100000 in
set_option maxHeartbeats 4000000 in
theorem step22 {n i : Nat} (h2 : 2 ≤ n) (hn : n < 9223372036854775808) (hi : i < n) {p : List Str} {x : Str} (hp : p.length ≤ 1000) {v4 : AV} (h4 : SlA 1 (strsA (p ++ [x])) v4) {w : List Side} (hw : w.length ≤ 1000) {A : Arena} {o : AV} (hF : FullW A o w) (v0 v2 : AV) (wh : Bool) :
    ∃ o' B, FullW B o' (w ++ [(x, decide (leftT n < i))]) ∧ run (envOf GD fs21) 100 [.code lp22x0] (st22x0 v0 (.int .i64 (i : Int)) v2 (.int .i64 (n : Int)) v4 o (.bool wh)) A =
      some (.normal (if leftT n < i then st22x0 v0 (.int .i64 ((i - leftT n : Nat) : Int)) v2 (.int .i64 ((n - leftT n : Nat) : Int)) (.fs 1 (strsA p)) o' (.bool false) else st22x0 v0 (.int .i64 (i : Int)) v2 (.int .i64 (leftT n : Int)) (.fs 1 (strsA p)) o' (.bool wh)) B) := by
  obtain ⟨b1, b2, b3, _⟩ := leftT_bounds h2 hn
  have c0 := Dlt_nat i n .i64
  rw [decide_eq_true hi] at c0
  have m := M43_cons hp h4
  have m1 := M37_eq h2 hn
  have hfs : v4 = .fs 1 (strsA (p ++ [x])) := by
    rcases h4 with ⟨_, h0⟩ | h0
    · have := congrArg List.length h0
      rw [strsA_len] at this
      simp at this
    · exact h0
  subst hfs
  have f4 : ∀ (A : Arena) (l : List AV), frz A 4 (.fs 1 l) = .fs 1 l := fun _ _ => rfl
  have nr : ∀ (l : List AV), noRefB 4 (.fs 1 l) = true := fun _ => rfl
  have fi := frz_i
  have sci : ∀ k z, scalarB 4 (.int k z) = true := fun _ _ => rfl
  obtain ⟨o', B, a1, hF'⟩ := appN_side hF (x, decide (leftT n < i)) hw
  refine ⟨o', B, hF', ?_⟩
  have g0 := gt_nat i (leftT n) .i64
  unfold sideA at a1
  simp only at a1
  by_cases hk : leftT n < i
  · rw [if_pos hk]
    rw [decide_eq_true hk] at a1 g0
    have q1 : evBin .sub (.int .i64 (n : Int)) (.int .i64 (leftT n : Int)) = some (.int .i64 ((n - leftT n : Nat) : Int)) := by
      rw [bSub _ _ (by unfold inI; omega)]; congr 2; omega
    have q2 : evBin .sub (.int .i64 (i : Int)) (.int .i64 (leftT n : Int)) = some (.int .i64 ((i - leftT n : Nat) : Int)) := by
      rw [bSub _ _ (by unfold inI; omega)]; congr 2; omega
    generalize strsA (p ++ [x]) = L1 at *
    generalize strsA p = L0 at *
    generalize ((n - leftT n : Nat) : Int) = NK at *
    generalize ((i - leftT n : Nat) : Int) = IK at *
    generalize (leftT n : Int) = K at *
    generalize (n : Int) = N at *
    generalize (i : Int) = I0 at *
    simp [lp22x0, c0, m, m1, f4, nr, fi, g0, a1, q1, q2, -evBin, -frz, -noRefB]
  · rw [if_neg hk]
    rw [decide_eq_false hk] at a1 g0
    generalize strsA (p ++ [x]) = L1 at *
    generalize strsA p = L0 at *
    generalize (leftT n : Int) = K at *
    generalize (n : Int) = N at *
    generalize (i : Int) = I0 at *
    simp [lp22x0, c0, m, m1, f4, nr, fi, g0, a1, -evBin, -frz, -noRefB]
theorem loop22 (v0 v2 : AV) : ∀ (rp : List Str) (i n : Nat) (wh : Bool) (wa : List Side) (A : Arena) (o v4 : AV) (m : Nat), 1 ≤ i → n < 9223372036854775808 → i ≤ n → SlA 1 (strsA rp.reverse) v4 → FullW A o wa → wa.length + rp.length ≤ 900 → rp.length < m →
    match upR i n wh rp with
    | none => ∃ σ B, iter (evC (envOf GD fs21) 100 lp22x0) mask22x0 m (st22x0 v0 (.int .i64 (i : Int)) v2 (.int .i64 (n : Int)) v4 o (.bool wh)) A = some (.ret σ B) ∧ σ[5]? = some (.bool false)
    | some (w, q, wh') => ∃ v1 v3 v4' o' B, iter (evC (envOf GD fs21) 100 lp22x0) mask22x0 m (st22x0 v0 (.int .i64 (i : Int)) v2 (.int .i64 (n : Int)) v4 o (.bool wh)) A = some (.exit 1 ((st22x0 v0 v1 v2 v3 v4' o' (.bool wh')).set 18 (.bool false)) B) ∧ SlA 1 (strsA q.reverse) v4' ∧ FullW B o' (wa ++ w) := by
  intro rp
  induction rp with
  | nil =>
    intro i n wh wa A o v4 m h1 hn hi h4 hF hl hm
    obtain ⟨m, rfl⟩ : ∃ k, m = k + 1 := ⟨m - 1, by omega⟩
    unfold upR
    by_cases hn1 : n ≤ i
    · rw [if_pos hn1]
      refine ⟨.int .i64 (i : Int), .int .i64 (n : Int), v4, o, A, ?_, h4, by rw [List.append_nil]; exact hF⟩
      rw [iter_succ, cl22x0, done22 hn1]
    · rw [if_neg hn1]
      obtain ⟨σ, hr, hσ⟩ := none22 (m := i) (n := n) (by omega) h4 v0 v2 o (.bool wh) A
      refine ⟨σ, A, ?_, hσ⟩
      rw [iter_succ, cl22x0, hr]
  | cons x r ih =>
    intro i n wh wa A o v4 m h1 hn hi h4 hF hl hm
    obtain ⟨m, rfl⟩ : ∃ k, m = k + 1 := ⟨m - 1, by omega⟩
    unfold upR
    by_cases hn1 : n ≤ i
    · rw [if_pos hn1]
      refine ⟨.int .i64 (i : Int), .int .i64 (n : Int), v4, o, A, ?_, h4, by rw [List.append_nil]; exact hF⟩
      rw [iter_succ, cl22x0, done22 hn1]
    · rw [if_neg hn1]
      simp only [List.length_cons] at hl hm
      obtain ⟨b1, b2, b3, _⟩ := leftT_bounds (n := n) (by omega) hn
      rw [List.reverse_cons] at h4
      obtain ⟨o1, B1, hF1, hr⟩ := step22 (n := n) (i := i) (by omega) hn (by omega) (by simp; omega) h4 (by omega) hF v0 v2 wh
      have hrev : SlA 1 (strsA r.reverse) (.fs 1 (strsA r.reverse)) := .inr rfl
      by_cases hk : leftT n < i
      · rw [if_pos hk] at hr ⊢
        rw [decide_eq_true hk] at hF1
        have := ih (i - leftT n) (n - leftT n) false (wa ++ [(x, true)]) B1 o1 (.fs 1 (strsA r.reverse)) m (by omega) (by omega) (by omega) hrev hF1 (by simp; omega) (by omega)
        rw [iter_succ, cl22x0, hr]
        cases hw : upR (i - leftT n) (n - leftT n) false r with
        | none => rw [hw] at this; exact this
        | some y =>
          obtain ⟨w, q, wh'⟩ := y
          rw [hw] at this
          simp only [Option.map_some]
          simp only [List.append_assoc, List.singleton_append] at this
          exact this
      · rw [if_neg hk] at hr ⊢
        rw [decide_eq_false hk] at hF1
        have := ih i (leftT n) wh (wa ++ [(x, false)]) B1 o1 (.fs 1 (strsA r.reverse)) m h1 (by omega) (by omega) hrev hF1 (by simp; omega) (by omega)
        rw [iter_succ, cl22x0, hr]
        cases hw : upR i (leftT n) wh r with
        | none => rw [hw] at this; exact this
        | some y =>
          obtain ⟨w, q, wh'⟩ := y
          rw [hw] at this
          simp only [Option.map_some]
          simp only [List.append_assoc, List.singleton_append] at this
          exact this

/-- the memory when some sides are done: two values -/
def TCk (X : Arena) (r r2 : Nat) (w : List Side) (o1 o2 : Nat → Str) : Nat → Arena
  | 0 => X
  | k + 1 => ((TCk X r r2 w o1 o2 k ++ [Ent.row 2 false [sideA (w.getD (w.length - 1 - k) ([], false))]]).set r (Ent.row 1 false [.str (o1 (w.length - 1 - k))])).set r2 (Ent.row 1 false [.str (o2 (w.length - 1 - k))])
section
variable {X : Arena} {r r2 : Nat} {w : List Side} {o1 o2 : Nat → Str}
theorem TCk_len : ∀ k : Nat, X.length ≤ (TCk X r r2 w o1 o2 k).length
  | 0 => Nat.le_refl _
  | k + 1 => by have := TCk_len k; simp only [TCk, List.length_set, List.length_append]; omega
theorem TCk_get {j : Nat} (hj : j < X.length) (hr : j ≠ r) (hr2 : j ≠ r2) : ∀ k, (TCk X r r2 w o1 o2 k)[j]? = X[j]?
  | 0 => rfl
  | k + 1 => by
    have := TCk_len (X := X) (r := r) (r2 := r2) (w := w) (o1 := o1) (o2 := o2) k
    rw [TCk, List.getElem?_set_ne (Ne.symm hr2), List.getElem?_set_ne (Ne.symm hr), List.getElem?_append_left (by omega), TCk_get hj hr hr2 k]
theorem TCk_out (hne : r ≠ r2) (hX : X[r]? = some (.row 1 false [.str (o1 w.length)])) : ∀ k, k ≤ w.length → (TCk X r r2 w o1 o2 k)[r]? = some (.row 1 false [.str (o1 (w.length - k))])
  | 0, _ => hX
  | k + 1, hk => by
    have := TCk_len (X := X) (r := r) (r2 := r2) (w := w) (o1 := o1) (o2 := o2) k
    have hl := (List.getElem?_eq_some_iff.1 hX).1
    rw [TCk, List.getElem?_set_ne (Ne.symm hne), List.getElem?_set_self (by simp; omega), show w.length - 1 - k = w.length - (k + 1) by omega]
theorem TCk_out2 (hX : X[r2]? = some (.row 1 false [.str (o2 w.length)])) : ∀ k, k ≤ w.length → (TCk X r r2 w o1 o2 k)[r2]? = some (.row 1 false [.str (o2 (w.length - k))])
  | 0, _ => hX
  | k + 1, hk => by
    have := TCk_len (X := X) (r := r) (r2 := r2) (w := w) (o1 := o1) (o2 := o2) k
    have hl := (List.getElem?_eq_some_iff.1 hX).1
    rw [TCk, List.getElem?_set_self (by simp; omega), show w.length - 1 - k = w.length - (k + 1) by omega]
theorem TCk_set {j : Nat} (hj : j < X.length) (hr : j ≠ r) (hr2 : j ≠ r2) (e : Ent) : ∀ k, (TCk X r r2 w o1 o2 k).set j e = TCk (X.set j e) r r2 w o1 o2 k
  | 0 => rfl
  | k + 1 => by
    have := TCk_len (X := X) (r := r) (r2 := r2) (w := w) (o1 := o1) (o2 := o2) k
    rw [TCk, TCk, List.set_comm _ _ (Ne.symm hr2), List.set_comm _ _ (Ne.symm hr), List.set_append_left _ _ (by omega), TCk_set hj hr hr2 e k]
theorem set_back3 {A : Arena} {n0 r r2 : Nat} {e R R2 : Ent} (hn : A[n0]? = some e) (hne : n0 ≠ r) (hne2 : n0 ≠ r2) : (((A.set n0 .dead).set r R).set r2 R2).set n0 e = (A.set r R).set r2 R2 := by
  rw [List.set_comm _ _ (Ne.symm hne2), set_back2 hn hne]
theorem set_same {A : Arena} {r : Nat} {e : Ent} (h : A[r]? = some e) : A.set r e = A := by
  rw [← (List.getElem?_eq_some_iff.1 h).2, List.set_getElem_self]
set_option maxRecDepth 100000 in
set_option maxHeartbeats 4000000 in
theorem yield22 (hd : Handler) {A : Arena} {n0 L i : Nat} {rr : Loop} {s : Side} {p p2 : Str} {v0 v1 v2 v3 v4 v5 v6 v7 v8 v9 v10 v11 v14 v15 v16 v17 v18 v19 v20 v21 v22 v23 v24 v25 v26 : AV} (hn : A[n0]? = some (.loop rr 0)) (hne : n0 ≠ r) (hne2 : n0 ≠ r2) (hrr : r ≠ r2) (hA : A[r]? = some (.row 1 false [.str p])) (hA2 : A[r2]? = some (.row 1 false [.str p2])) (hs : s.1.length ≤ 2000) (hp : p.length ≤ 2000) (hp2 : p2.length ≤ 2000) :
    yieldH n0 L rr [v0, v1, v2, v3, v4, v5, v6, v7, v8, v9, v10, v11, .ptr r 0 0, .ptr r2 0 0, v14, v15, v16, v17, v18, v19, v20, v21, v22, v23, v24, v25, v26] [24, 25] (evC (envY GD fs21 hd) 100 lp22x1) (evC (envY GD fs21 hd) 100 lp22x2) hd (.func (.yield L) [] []) [.int .i64 (i : Int), sideA s] A =
      some (.bool true, ((A ++ [Ent.row 2 false [sideA s]]).set r (Ent.row 1 false [.str (if s.2 then joinT s p else p)])).set r2 (Ent.row 1 false [.str (joinT s p2)])) := by
  have hln := (List.getElem?_eq_some_iff.1 hn).1
  have hlr := (List.getElem?_eq_some_iff.1 hA).1
  have hlr2 := (List.getElem?_eq_some_iff.1 hA2).1
  have m := M45_eq s p hs hp
  have m2 := M45_eq s p2 hs hp2
  have bx : evBox 2 (.agg [.str [], .bool false]) A = some (.ptr A.length 0 0, A ++ [.row 2 false [.agg [.str [], .bool false]]]) := rfl
  obtain ⟨A1, hA1⟩ : ∃ A1, A1 = A ++ [Ent.row 2 false [sideA s]] := ⟨_, rfl⟩
  have st0 : evStore 2 (A ++ [.row 2 false [.agg [.str [], .bool false]]]) (.ptr A.length 0 0) (sideA s) = some A1 := by
    have h1 : (A ++ [Ent.row 2 false [.agg [.str [], .bool false]]])[A.length]? = some (.row 2 false [.agg [.str [], .bool false]]) := by simp
    have h2 : (sideA s).solid = true := rfl
    have h3 : (cellsOf (sideA s)).length = 2 := rfl
    simp only [evStore, h1, h2, h3, List.getElem?_cons_zero, storeElem]
    simp [hA1]
  have hn1 : A1[n0]? = some (.loop rr 0) := by rw [hA1, List.getElem?_append_left hln]; exact hn
  obtain ⟨Y, hY⟩ : ∃ Y, Y = A1.set n0 .dead := ⟨_, rfl⟩
  have hYr : Y[r]? = some (.row 1 false [.str p]) := by rw [hY, List.getElem?_set_ne hne, hA1, List.getElem?_append_left hlr]; exact hA
  have hYr2 : Y[r2]? = some (.row 1 false [.str p2]) := by rw [hY, List.getElem?_set_ne hne2, hA1, List.getElem?_append_left hlr2]; exact hA2
  have hYs : Y[A.length]? = some (.row 2 false [sideA s]) := by rw [hY, List.getElem?_set_ne (by omega), hA1]; simp
  have side : ∀ Z : Arena, Z[A.length]? = some (.row 2 false [sideA s]) → evLoad true 2 Z (.ptr A.length 0 0) = some (sideA s) := fun Z hZ => by
    have hc : loadElem (sideA s) 2 0 true 2 = some (sideA s) := rfl
    simp only [evLoad, hZ, List.getElem?_cons_zero, hc]
    simp
  have fa : evFieldAddr 1 Y (.ptr A.length 0 0) = some (.ptr A.length 0 1) := by
    simp [evFieldAddr, hYs]
  have lf : evLoad false 1 Y (.ptr A.length 0 1) = some (.bool s.2) := by
    have hc : loadElem (sideA s) 2 1 false 1 = some (.bool s.2) := rfl
    simp only [evLoad, hYs, List.getElem?_cons_zero, hc]
    simp
  have ld0 := side Y hYs
  have ld1 : evLoad false 1 Y (.ptr r 0 0) = some (.str p) := load_arr hYr rfl rfl
  have st1 : evStore 1 Y (.ptr r 0 0) (.str (joinT s p)) = some (Y.set r (.row 1 false [.str (joinT s p)])) := store_arr hYr rfl rfl rfl
  obtain ⟨Z, hZ⟩ : ∃ Z, Z = Y.set r (.row 1 false [.str (if s.2 then joinT s p else p)]) := ⟨_, rfl⟩
  have hZs : Z[A.length]? = some (.row 2 false [sideA s]) := by rw [hZ, List.getElem?_set_ne (by omega)]; exact hYs
  have hZr2 : Z[r2]? = some (.row 1 false [.str p2]) := by rw [hZ, List.getElem?_set_ne hrr]; exact hYr2
  have ld2 := side Z hZs
  have ld3 : evLoad false 1 Z (.ptr r2 0 0) = some (.str p2) := load_arr hZr2 rfl rfl
  have st2 : evStore 1 Z (.ptr r2 0 0) (.str (joinT s p2)) = some (Z.set r2 (.row 1 false [.str (joinT s p2)])) := store_arr hZr2 rfl rfl rfl
  have fs := frz_s
  have fs2 : ∀ A, frz A 4 (sideA s) = sideA s := fun A => by simp [sideA, frz]
  have sc : ∀ s, scalarB 4 (.str s) = true := fun _ => rfl
  have ha : run (envY GD fs21 hd) 100 [.code lp22x1] [v0, v1, v2, v3, v4, v5, v6, v7, v8, v9, v10, v11, .ptr r 0 0, .ptr r2 0 0, v14, v15, v16, v17, v18, v19, v20, v21, v22, v23, .int .i64 (i : Int), sideA s, v26] A = some (.normal [v0, v1, v2, v3, v4, v5, v6, v7, v8, v9, v10, v11, .ptr r 0 0, .ptr r2 0 0, .ptr A.length 0 0, v15, v16, v17, v18, v19, v20, v21, v22, v23, .int .i64 (i : Int), sideA s, v26] A1) := by
    generalize sideA s = S at *
    simp [lp22x1, bx, st0, -evBox, -evStore]
  have hb : run (envY GD fs21 hd) 100 [.code lp22x2] [v0, v1, v2, v3, v4, v5, v6, v7, v8, v9, v10, v11, .ptr r 0 0, .ptr r2 0 0, .ptr A.length 0 0, v15, v16, v17, v18, v19, v20, v21, v22, v23, .int .i64 (i : Int), sideA s, v26] Y = some (.normal [.undef, .undef, .undef, .undef, .undef, .undef, .undef, .undef, .undef, .undef, .undef, .undef, .undef, .undef, .undef, .undef, .undef, .undef, .undef, .undef, .undef, .undef, .undef, .undef, .undef, .undef, .undef] (Z.set r2 (.row 1 false [.str (joinT s p2)]))) := by
    cases hs2 : s.2 with
    | true =>
      rw [hs2] at lf hZ
      rw [if_pos rfl] at hZ
      rw [← hZ] at st1
      generalize sideA s = S at *
      generalize joinT s p = J at *
      generalize joinT s p2 = J2 at *
      simp [lp22x2, fa, lf, ld0, ld1, m, fs, fs2, st1, ld2, ld3, m2, st2, -evLoad, -evStore, -evFieldAddr, -frz]
    | false =>
      rw [hs2] at lf hZ
      rw [if_neg (by simp), set_same hYr] at hZ
      subst hZ
      generalize sideA s = S at *
      generalize joinT s p2 = J2 at *
      simp [lp22x2, fa, lf, fs, fs2, ld2, ld3, m2, st2, -evLoad, -evStore, -evFieldAddr, -frz]
  have hsa : setAll [v0, v1, v2, v3, v4, v5, v6, v7, v8, v9, v10, v11, .ptr r 0 0, .ptr r2 0 0, v14, v15, v16, v17, v18, v19, v20, v21, v22, v23, v24, v25, v26] [24, 25] [.int .i64 (i : Int), sideA s] = some [v0, v1, v2, v3, v4, v5, v6, v7, v8, v9, v10, v11, .ptr r 0 0, .ptr r2 0 0, v14, v15, v16, v17, v18, v19, v20, v21, v22, v23, .int .i64 (i : Int), sideA s, v26] := rfl
  rw [hZ, hY] at hb
  have hy := yieldH_normal (l := L) (h := hd) hn hsa ha hn1 hb
  rw [set_back3 hn1 hne hne2, hA1] at hy
  exact hy
set_option maxRecDepth 100000 in
theorem range22 {b : Nat} {o : AV} (hl : w.length ≤ 90) (hB : BackW X b o w) (hrr : r ≠ r2) (hXr : X[r]? = some (.row 1 false [.str (o1 w.length)])) (hXr2 : X[r2]? = some (.row 1 false [.str (o2 w.length)])) (hbr : b ≠ r) (hbr2 : b ≠ r2) (hor : ∀ id n, o = .sl id 0 n → id ≠ r ∧ id ≠ r2) (hlen : ∀ s ∈ w, s.1.length ≤ 2000) (ho : ∀ i, (o1 i).length ≤ 2000) (ho2 : ∀ i, (o2 i).length ≤ 2000)
    (hst : ∀ (i : Nat) (s : Side), w[i]? = some s → o1 i = if s.2 then joinT s (o1 (i + 1)) else o1 (i + 1)) (hst2 : ∀ (i : Nat) (s : Side), w[i]? = some s → o2 i = joinT s (o2 (i + 1)))
    (v0 v1 v2 v3 v4 v5 v6 v7 v8 v9 v10 v11 v14 v15 v16 v17 v18 v19 v20 v21 v22 v24 v25 v26 : AV) (K : List KC) :
    run (envOf GD fs21) 100 (.code (.rangeFunc (.var 23) [24, 25] lp22x1 lp22x2) :: K) [v0, v1, v2, v3, v4, v5, v6, v7, v8, v9, v10, v11, .ptr r 0 0, .ptr r2 0 0, v14, v15, v16, v17, v18, v19, v20, v21, v22, .func (.func 57) [] [.ptr b 0 0], v24, v25, v26] X =
      after (envOf GD fs21) 100 K (.normal [v0, v1, v2, v3, v4, v5, v6, v7, v8, v9, v10, v11, .ptr r 0 0, .ptr r2 0 0, v14, v15, v16, v17, v18, v19, v20, v21, v22, .func (.func 57) [] [.ptr b 0 0], v24, v25, v26] (TCk (X ++ [.dead]) r r2 w o1 o2 w.length)) := by
  refine run_rangeFunc _ _ _ _ _ fun L rr => ?_
  have hrl := (List.getElem?_eq_some_iff.1 hXr).1
  have hrl2 := (List.getElem?_eq_some_iff.1 hXr2).1
  have hbl := (List.getElem?_eq_some_iff.1 hB.rb).1
  have old : ∀ {k : Nat}, k < X.length → (X ++ [Ent.loop rr 0])[k]? = X[k]? := fun h => List.getElem?_append_left h
  have hXr' : (X ++ [Ent.loop rr 0])[r]? = some (.row 1 false [.str (o1 w.length)]) := (old hrl).trans hXr
  have hXr2' : (X ++ [Ent.loop rr 0])[r2]? = some (.row 1 false [.str (o2 w.length)]) := (old hrl2).trans hXr2
  have hT : ∀ j, j ≤ w.length → BackW (TCk (X ++ [Ent.loop rr 0]) r r2 w o1 o2 (w.length - j)) b o w := fun j _ => by
    refine ⟨?_, ?_⟩
    · rw [TCk_get (by simp; omega) hbr hbr2, old hbl]; exact hB.rb
    · rcases hB.ri with h | ⟨id, h1, h2, h3⟩
      · exact .inl h
      · have hil := (List.getElem?_eq_some_iff.1 h3).1
        exact .inr ⟨id, h1, h2, by rw [TCk_get (by simp; omega) (hor id _ h1).1 (hor id _ h1).2, old hil]; exact h3⟩
  have hc := H57_eq (yieldH X.length L rr [v0, v1, v2, v3, v4, v5, v6, v7, v8, v9, v10, v11, .ptr r 0 0, .ptr r2 0 0, v14, v15, v16, v17, v18, v19, v20, v21, v22, .func (.func 57) [] [.ptr b 0 0], v24, v25, v26] [24, 25] (evC (envY GD fs21 fun _ _ _ => none) 100 lp22x1) (evC (envY GD fs21 fun _ _ _ => none) 100 lp22x2) fun _ _ _ => none) L hl (fun j => TCk (X ++ [Ent.loop rr 0]) r r2 w o1 o2 (w.length - j)) hT
    (fun i s hs => by
      have hil := (List.getElem?_eq_some_iff.1 hs).1
      have hy := yield22 (fun _ _ _ => none) (r := r) (r2 := r2) (A := TCk (X ++ [Ent.loop rr 0]) r r2 w o1 o2 (w.length - (i + 1))) (n0 := X.length) (L := L) (i := i) (rr := rr) (s := s) (p := o1 (i + 1)) (p2 := o2 (i + 1)) (v0 := v0) (v1 := v1) (v2 := v2) (v3 := v3) (v4 := v4) (v5 := v5) (v6 := v6) (v7 := v7) (v8 := v8) (v9 := v9) (v10 := v10) (v11 := v11) (v14 := v14) (v15 := v15) (v16 := v16) (v17 := v17) (v18 := v18) (v19 := v19) (v20 := v20) (v21 := v21) (v22 := v22) (v23 := .func (.func 57) [] [.ptr b 0 0]) (v24 := v24) (v25 := v25) (v26 := v26)
        (by rw [TCk_get (by simp) (by omega) (by omega)]; simp) (by omega) (by omega) hrr (by rw [TCk_out hrr hXr' _ (by omega), show w.length - (w.length - (i + 1)) = i + 1 by omega]) (by rw [TCk_out2 hXr2' _ (by omega), show w.length - (w.length - (i + 1)) = i + 1 by omega]) (hlen s (List.mem_of_getElem? hs)) (ho _) (ho2 _)
      rw [← hst i s hs, ← hst2 i s hs] at hy
      refine hy.trans ?_
      have e1 : w.length - i = (w.length - (i + 1)) + 1 := by omega
      have e2 : w.length - 1 - (w.length - (i + 1)) = i := by omega
      have e3 : w.getD i ([], false) = s := by rw [List.getD_eq_getElem?_getD, hs]; rfl
      rw [e1, TCk, e2, e3])
  simp only [Nat.sub_self, Nat.sub_zero] at hc
  have hcall : callM fs21 (yieldH X.length L rr [v0, v1, v2, v3, v4, v5, v6, v7, v8, v9, v10, v11, .ptr r 0 0, .ptr r2 0 0, v14, v15, v16, v17, v18, v19, v20, v21, v22, .func (.func 57) [] [.ptr b 0 0], v24, v25, v26] [24, 25] (evC (envY GD fs21 fun _ _ _ => none) 100 lp22x1) (evC (envY GD fs21 fun _ _ _ => none) 100 lp22x2) fun _ _ _ => none)
      (.func (.func 57) [] [.ptr b 0 0]) [.func (.yield L) [] []] (X ++ [Ent.loop rr 0]) = _ := hc
  show (match callM fs21 _ (.func (.func 57) [] [.ptr b 0 0]) [.func (.yield L) [] []] (X ++ [Ent.loop rr 0]) with
    | some (_, A') => afterR X.length _ A'
    | none => none) = _
  erw [hcall]
  have e1 : (TCk (X ++ [Ent.loop rr 0]) r r2 w o1 o2 w.length)[X.length]? = some (.loop rr 0) := by
    rw [TCk_get (by simp) (by omega) (by omega)]; simp
  simp only [afterR, e1]
  rw [TCk_set (by simp) (by omega) (by omega)]
  simp
end
end Go.Proofs.YtgbnngmpaefbcaaDoor
