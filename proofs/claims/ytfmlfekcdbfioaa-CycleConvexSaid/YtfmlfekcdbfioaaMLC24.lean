/-
  Cycle: the law CycleConvex, run.
-/
import Derived.Test.YtfmlfekcdbfioaaM06
namespace Go.Proofs.Ytfmlfekcdbfioaa
open Go

theorem convex {l : List CArc} {p q r : Int} (hpq : p ≤ q) (hqr : q ≤ r) (h1 : ¬ Pos l p) (h2 : ¬ Pos l r) : ¬ Pos l q := by
  rintro ⟨u, xs, h3, h4⟩
  rcases Int.lt_or_le (tokN xs) 0 with h | h
  · refine h2 (pos_other h3 (p := q) ?_)
    have : (r - q) * tokN xs ≤ 0 := Int.mul_nonpos_of_nonneg_of_nonpos (by omega) (by omega)
    omega
  · refine h1 (pos_other h3 (p := q) ?_)
    have : (p - q) * tokN xs ≤ 0 := Int.mul_nonpos_of_nonpos_of_nonneg (by omega) h
    omega
set_option maxRecDepth 100000 in
set_option maxHeartbeats 4000000 in
theorem ev8 {x : AV} {r : List R4} (hx : r4sOf x = some r) {n a b c : Int} (hn : inI n) (ha : inI a) (hb : inI b) (hc : inI c) : evP (envOf GC fsN) 50 mf8 1 [.int .i64 n, x, .agg [.int .i64 a, .int .i64 b, .int .i64 c]] = some (.bool true) := by
  have p7 := pick_range n 7 (by omega)
  have pa := pick_range a 100 (by omega)
  have pb := pick_range b 50 (by omega)
  have pc := pick_range c 50 (by omega)
  have m1 := M12_eq hn (show (0 : Int) < 7 by omega)
  have m2 := M12_eq ha (show (0 : Int) < 100 by omega)
  have m3 := M12_eq hb (show (0 : Int) < 50 by omega)
  have m4 := M12_eq hc (show (0 : Int) < 50 by omega)
  obtain ⟨n0, hn0⟩ : ∃ z, z = pick n 7 := ⟨_, rfl⟩
  obtain ⟨a0, ha0⟩ : ∃ z, z = pick a 100 := ⟨_, rfl⟩
  obtain ⟨b0, hb0⟩ : ∃ z, z = pick b 50 := ⟨_, rfl⟩
  obtain ⟨c0, hc0⟩ : ∃ z, z = pick c 50 := ⟨_, rfl⟩
  rw [← hn0] at p7 m1
  rw [← ha0] at pa m2
  rw [← hb0] at pb m3
  rw [← hc0] at pc m4
  have b1 := add1_pick p7
  have b2 := evSub (a := a0) (b := 20) (by omega)
  have b3 := evAdd (a := a0 - 20) (b := b0) (by omega)
  have b4 := evAdd (a := a0 - 20 + b0) (b := c0) (by omega)
  obtain ⟨n1, hn1⟩ : ∃ z, z = 1 + n0 := ⟨_, rfl⟩
  obtain ⟨l1, hl1⟩ : ∃ z, z = a0 - 20 := ⟨_, rfl⟩
  rw [← hn1] at b1
  rw [← hl1] at b2 b3 b4
  obtain ⟨l2, hl2⟩ : ∃ z, z = l1 + b0 := ⟨_, rfl⟩
  rw [← hl2] at b3 b4
  obtain ⟨l3, hl3⟩ : ∃ z, z = l2 + c0 := ⟨_, rfl⟩
  rw [← hl3] at b4
  have hn32 : 1 ≤ n1 ∧ n1 ≤ 32 := by omega
  have m5 : M13 [x, .int .i64 n1, .bool false] = some (slA 4 ((arcsD r n1 false).map arcA)) := by
    simp only [M13, hx, Option.map_some]; exact if_pos hn32.1
  have harg := arcsD_arg hn32 r false
  have hval := arcsD_valid hn32 r false
  obtain ⟨l, hl⟩ : ∃ l, l = arcsD r n1 false := ⟨_, rfl⟩
  rw [← hl] at m5 harg hval
  have hlv := fun h A p => H14_eq h (A := A) (frz_slA A 4 4 (l.map arcA)) harg n1 p
  have hfx : ∀ A, frz A 4 x = x := fun A => (r4sOf_some hx).1.frz 4
  have ok := fun p (hp : isPer p) => lv_ok (n := n1) (l := l) (p := p) ⟨hval, hp⟩
  have i1 : isPer l1 := by unfold isPer; omega
  have i2 : isPer l2 := by unfold isPer; omega
  have i3 : isPer l3 := by unfold isPer; omega
  have o1 := ok l1 i1
  have o2 := ok l2 i2
  have o3 := ok l3 i3
  have hcv := fun h1 h3 => convex (l := l) (p := l1) (q := l2) (r := l3) (by omega) (by omega) h1 h3
  have v1 := fun h A => hlv h A l1
  have v2 := fun h A => hlv h A l2
  have v3 := fun h A => hlv h A l3
  simp only [lvT_form] at v1 v2 v3
  obtain ⟨S1, hS1⟩ : ∃ S, S = slA 1 (intsA (lvM n1 l l1).1) := ⟨_, rfl⟩
  obtain ⟨S2, hS2⟩ : ∃ S, S = slA 1 (intsA (lvM n1 l l2).1) := ⟨_, rfl⟩
  obtain ⟨S3, hS3⟩ : ∃ S, S = slA 1 (intsA (lvM n1 l l3).1) := ⟨_, rfl⟩
  obtain ⟨C1, hC1⟩ : ∃ S, S = slA 1 (intsA (lvM n1 l l1).2.1) := ⟨_, rfl⟩
  obtain ⟨C2, hC2⟩ : ∃ S, S = slA 1 (intsA (lvM n1 l l2).2.1) := ⟨_, rfl⟩
  obtain ⟨C3, hC3⟩ : ∃ S, S = slA 1 (intsA (lvM n1 l l3).2.1) := ⟨_, rfl⟩
  rw [← hS1, ← hC1] at v1
  rw [← hS2, ← hC2] at v2
  rw [← hS3, ← hC3] at v3
  obtain ⟨d1, hd1⟩ : ∃ d, d = (lvM n1 l l1).2.2 := ⟨_, rfl⟩
  obtain ⟨d2, hd2⟩ : ∃ d, d = (lvM n1 l l2).2.2 := ⟨_, rfl⟩
  obtain ⟨d3, hd3⟩ : ∃ d, d = (lvM n1 l l3).2.2 := ⟨_, rfl⟩
  rw [← hd1] at v1 o1
  rw [← hd2] at v2 o2
  rw [← hd3] at v3 o3
  obtain ⟨T, hT⟩ : ∃ T, T = slA 4 (l.map arcA) := ⟨_, rfl⟩
  rw [← hT] at m5 v1 v2 v3
  have key : (d1 = true → d3 = true → d2 = true) := fun h1 h3 => o2.2 (hcv (o1.1 h1) (o3.1 h3))
  rw [evP_run _ _ rfl]
  cases d1 with
  | false => simp [mf8, evIndexArr, m1, m2, m3, m4, m5, b1, b2, b3, b4, v1, v2, v3, hfx, -evBin]
  | true => cases d3 with
    | false => simp [mf8, evIndexArr, m1, m2, m3, m4, m5, b1, b2, b3, b4, v1, v2, v3, hfx, -evBin]
    | true =>
      rw [key rfl rfl] at v2
      simp [mf8, evIndexArr, m1, m2, m3, m4, m5, b1, b2, b3, b4, v1, v2, v3, hfx, -evBin]
theorem ev8L (args : List AV) (h : LawArgs Try.prog 8 Try.f8.params.toList args) : ∃ fuel, evP (envOf GC fsN) fuel mf8 1 args = some (.bool true) := by
  rw [Try.params8] at h
  obtain ⟨a, r, rfl, h0, h⟩ := h.cons
  obtain ⟨b, r, rfl, h1, h⟩ := h.cons
  obtain ⟨c, r, rfl, h2, h⟩ := h.cons
  obtain rfl := h.nil
  obtain ⟨n, rfl, hn⟩ := TA.i64 Try.underlying3 h0
  obtain ⟨r, hr⟩ := r4s_arg (n := 5) h1
  obtain ⟨x, y, z, rfl, hx, hy, hz⟩ := three_arg (n := 6) h2
  exact ⟨50, ev8 hr hn hx hy hz⟩
end Go.Proofs.Ytfmlfekcdbfioaa
