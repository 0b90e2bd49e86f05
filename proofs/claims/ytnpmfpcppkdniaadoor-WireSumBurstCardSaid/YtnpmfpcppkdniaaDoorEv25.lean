/-
  Slices that are given: nil or of memory that nobody writes; lists of numbers and strings. Program-independent.
-/
import Derived.Test.YtnpmfpcppkdniaaDoorEv24
namespace Go.Proofs.YtnpmfpcppkdniaaDoor
open Go

/-- a slice that holds xs and is not written -/
def SlA (esz : Nat) (xs : List AV) (a : AV) : Prop := (a = .nilS ∧ xs = []) ∨ a = .fs esz xs

section
variable {esz : Nat} {xs : List AV} {a : AV} {A : Arena}
theorem SlA.len (h : SlA esz xs a) : evLenSl a = some (.int .i64 (xs.length : Int)) := by
  rcases h with ⟨rfl, rfl⟩ | rfl <;> rfl
theorem SlA.src (h : SlA esz xs a) : srcElems esz A a = some xs := by
  rcases h with ⟨rfl, rfl⟩ | rfl <;> simp
theorem SlA.index (h : SlA esz xs a) {i : Nat} {x : AV} (hx : xs[i]? = some x) (hs : x.solid = true) (he : 0 < esz) (k : IntKind) : evIndexSl esz A a (.int k (i : Int)) = some (.fp (cellsOf x)) := by
  rcases h with ⟨rfl, rfl⟩ | rfl
  · simp at hx
  · simp [evIndexSl, hx, hs, he, -AV.solid]
theorem SlA.index1 (h : SlA 1 xs a) {i : Nat} {x : AV} (hx : xs[i]? = some x) (hs : x.solid = true) (hc : cellsOf x = [x]) (k : IntKind) : evIndexSl 1 A a (.int k (i : Int)) = some (.fp [x]) := by
  rw [h.index hx hs (by omega), hc]
theorem SlA.int (zs : List Int) (k : IntKind) (h : SlA 1 (zs.map (.int k)) a) {i : Nat} {z : Int} (hz : zs[i]? = some z) (k' : IntKind) : evIndexSl 1 A a (.int k' (i : Int)) = some (.fp [.int k z]) :=
  h.index1 (by simp [hz]) rfl rfl k'
theorem SlA.str (zs : List (List UInt8)) (h : SlA 1 (zs.map .str) a) {i : Nat} {z : List UInt8} (hz : zs[i]? = some z) (k' : IntKind) : evIndexSl 1 A a (.int k' (i : Int)) = some (.fp [.str z]) :=
  h.index1 (by simp [hz]) rfl rfl k'
theorem SlA.cut (h : SlA esz xs a) (lo hi : Nat) (h1 : lo ≤ hi) (h2 : hi ≤ xs.length) (k k' : IntKind) : ∃ b, evSliceSl esz A (some (.int k (lo : Int))) (some (.int k' (hi : Int))) a = some b ∧ SlA esz ((xs.drop lo).take (hi - lo)) b := by
  rcases h with ⟨rfl, rfl⟩ | rfl
  · obtain rfl : hi = 0 := by simpa using h2
    obtain rfl : lo = 0 := by omega
    exact ⟨.nilS, rfl, .inl ⟨rfl, rfl⟩⟩
  · exact ⟨_, by simp [evSliceSl, h1, h2], .inr rfl⟩
theorem SlA.cutHi (h : SlA esz xs a) (hi : Nat) (h2 : hi ≤ xs.length) (k' : IntKind) : ∃ b, evSliceSl esz A none (some (.int k' (hi : Int))) a = some b ∧ SlA esz (xs.take hi) b := by
  rcases h with ⟨rfl, rfl⟩ | rfl
  · obtain rfl : hi = 0 := by simpa using h2
    exact ⟨.nilS, rfl, .inl ⟨rfl, rfl⟩⟩
  · exact ⟨_, by simp [evSliceSl, h2], .inr rfl⟩
theorem SlA.frz (h : SlA esz xs a) (n : Nat) : frz A n a = a := by
  rcases h with ⟨rfl, rfl⟩ | rfl <;> cases n <;> rfl

theorem map_of_forall {α : Type} {f : α → AV} {p : α → Prop} : ∀ {l : List AV}, (∀ x ∈ l, ∃ z, x = f z ∧ p z) → ∃ zs : List α, l = zs.map f ∧ ∀ z ∈ zs, p z
  | [], _ => ⟨[], rfl, fun _ h => by cases h⟩
  | x :: l, h => by
    obtain ⟨z, rfl, hz⟩ := h x (by simp)
    obtain ⟨zs, rfl, hzs⟩ := map_of_forall (l := l) (fun y hy => h y (by simp [hy]))
    exact ⟨z :: zs, rfl, fun y hy => by
      rcases List.mem_cons.1 hy with rfl | hy
      · exact hz
      · exact hzs y hy⟩
variable {P : Program} {n : Nat} {t e : TypeId}
theorem TA.sl (hu : P.underlying t = some (.slice e)) (h : TA P (n + 1) t a) : ∃ es, SlA (P.cellsOf e) es a ∧ es.length ≤ 9223372036854775807 ∧ ∀ x ∈ es, TA P n e x := by
  rcases TA.slice hu h with rfl | ⟨es, h1, h2, h3⟩
  · exact ⟨[], .inl ⟨rfl, rfl⟩, by simp, fun _ h => by cases h⟩
  · exact ⟨es, .inr h1, h2, h3⟩
theorem TA.ints (hu : P.underlying t = some (.slice e)) (he : P.underlying e = some (.int .i64)) (hc : P.cellsOf e = 1) (h : TA P (n + 1) t a) : ∃ zs : List Int, SlA 1 (zs.map (.int .i64)) a ∧ zs.length ≤ 9223372036854775807 ∧ ∀ z ∈ zs, inI z := by
  obtain ⟨es, h1, h2, h3⟩ := TA.sl hu h
  obtain ⟨zs, rfl, h4⟩ := map_of_forall (f := AV.int .i64) (p := inI) (fun x hx => TA.i64 he (h3 x hx))
  rw [hc] at h1
  exact ⟨zs, h1, by simpa using h2, h4⟩
theorem TA.strs (hu : P.underlying t = some (.slice e)) (he : P.underlying e = some .string) (hc : P.cellsOf e = 1) (h : TA P (n + 1) t a) : ∃ zs : List (List UInt8), SlA 1 (zs.map .str) a ∧ zs.length ≤ 9223372036854775807 ∧ ∀ z ∈ zs, z.length ≤ 9223372036854775807 := by
  obtain ⟨es, h1, h2, h3⟩ := TA.sl hu h
  obtain ⟨zs, rfl, h4⟩ := map_of_forall (f := AV.str) (p := fun z => z.length ≤ 9223372036854775807) (fun x hx => TA.str he (h3 x hx))
  rw [hc] at h1
  exact ⟨zs, h1, by simpa using h2, h4⟩
end

theorem min2_nat (a b : Nat) (k k' : IntKind) : evMin2 false (.int k (a : Int)) (.int k' (b : Int)) = some (.int k ((min a b : Nat) : Int)) := by
  unfold evMin2
  simp only [Bool.false_eq_true, if_false]
  congr 2
  split <;> omega
theorem max2_nat (a b : Nat) (k k' : IntKind) : evMin2 true (.int k (a : Int)) (.int k' (b : Int)) = some (.int k ((max a b : Nat) : Int)) := by
  unfold evMin2
  simp only [if_true]
  congr 2
  split <;> omega
end Go.Proofs.YtnpmfpcppkdniaaDoor
