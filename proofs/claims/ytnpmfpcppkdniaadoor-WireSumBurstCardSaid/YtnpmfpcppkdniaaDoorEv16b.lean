/-
  Regions whose order is open: operations that may change places; any order leaves what the text's order leaves. Program-independent.
-/
import Derived.Test.YtnpmfpcppkdniaaDoorEv16
import Derived.OrdersIn
namespace Go.Proofs.YtnpmfpcppkdniaaDoor
open Go
section
variable {P : Program} {E : Env} {N : Nat} {vs : List Nat} {base : Nat} {rd : Option Nat} {n : Nat}

/-- functions that leave the arena alone -/
def PureIn (E : Env) (pu : List FuncId) : Prop := ∀ f ∈ pu, ∀ h args A r A', E.callY h (.func (.func f) [] []) args A = some (r, A') → A' = A
theorem PureIn.nil {E : Env} : PureIn E [] := fun _ h => by cases h

theorem evStep_congr {ρ ρ' : MX → AV} (m : MOp) (h : ∀ x ∈ m.xs, ρ x = ρ' x) (A : Arena) : evStep E ρ A m = evStep E ρ' A m := by
  cases m with
  | call f args => simp only [evStep, h f (by simp [MOp.xs]), List.map_congr_left (l := args) (fun x hx => h x (by simp [MOp.xs, hx]))]
  | build zs ps =>
    simp only [evStep, evOp]
    rw [List.map_congr_left (g := fun x : Nat × Nat × MX => (x.1, x.2.1, ρ' x.2.2)) (fun x hx => by rw [h x.2.2 (by simp only [MOp.xs, List.mem_map]; exact ⟨x, hx, rfl⟩)])]
  | buildSlice e xs => simp only [evStep, evOp, List.map_congr_left (l := xs) (fun x hx => h x (by simp [MOp.xs, hx]))]
  | makeFunc fn a b => simp only [evStep, evOp, List.map_congr_left (l := a) (fun x hx => h x (by simp [MOp.xs, hx])), List.map_congr_left (l := b) (fun x hx => h x (by simp [MOp.xs, hx]))]
  | minmax b x xs => simp only [evStep, evOp, h x (by simp [MOp.xs]), List.map_congr_left (l := xs) (fun x hx => h x (by simp [MOp.xs, hx]))]
  | sliceStr x lo hi => cases lo <;> cases hi <;> simp_all [evStep, evOp, MOp.xs]
  | sliceSl e x lo hi => cases lo <;> cases hi <;> simp_all [evStep, evOp, MOp.xs]
  | _ => simp_all [evStep, evOp, MOp.xs]

/-- what one operation yields -/
def evRes1 (E : Env) (o : MO) (ρ : MX → AV) (A : Arena) : Option (AV × Arena) :=
  match evGuard ρ o.guard with
  | some true => evStep E ρ A o.op
  | some false => some (.tup [], A)
  | none => none

theorem evRes1_congr {ρ ρ' : MX → AV} (o : MO) (h : ∀ x ∈ o.reads, ρ x = ρ' x) (A : Arena) : evRes1 E o ρ A = evRes1 E o ρ' A := by
  unfold evRes1
  rw [evStep_congr o.op (fun x hx => h x (by simp [MO.reads, hx])) A]
  cases hg : o.guard with
  | none => rfl
  | some p =>
    obtain ⟨x, want⟩ := p
    simp only [evGuard, h x (by simp [MO.reads, hg])]

abbrev St := List AV × List AV × Arena
def evAt (E : Env) (mos : List MO) (i : Nat) (s : St) : Option St :=
  match mos[i]? with
  | none => none
  | some o => (evRes1 E o (evX E s.1 s.2.1) s.2.2).map fun x => (setVar s.1 o.dst x.1, s.2.1.set i x.1, x.2)
def evOrd (E : Env) (mos : List MO) : List Nat → St → Option St
  | [], s => some s
  | i :: r, s => (evAt E mos i s).bind (evOrd E mos r)

theorem kind0 {pu : List FuncId} {m : MOp} (h : opKind pu m = 0) {ρ : MX → AV} {A : Arena} {v : AV} {A' : Arena} (he : evStep E ρ A m = some (v, A')) : A' = A ∧ ∀ B, evStep E ρ B m = some (v, B) := by
  cases m with
  | call f args => cases f <;> simp [opKind] at h <;> (split at h <;> simp at h)
  | _ =>
    first
    | (simp [opKind] at h; done)
    | (simp only [evStep, evOp, Option.map_eq_some_iff, Prod.mk.injEq, Option.some.injEq] at he ⊢
       first
       | (obtain ⟨x, h1, h2, h3⟩ := he; exact ⟨h3.symm, fun B => ⟨x, h1, h2, trivial⟩⟩)
       | (obtain ⟨h1, h2⟩ := he; exact ⟨h2.symm, fun B => ⟨h1, trivial⟩⟩)
       | (obtain ⟨h1, h2⟩ := he; exact ⟨h2.symm, fun B => h1⟩)
       | (split at he <;> simp only [Prod.mk.injEq, Option.some.injEq, reduceCtorEq] at he
          obtain ⟨h1, h2⟩ := he
          rename_i hh
          exact ⟨h2.symm, fun B => by simp [hh, h1]⟩))

theorem kind1 {pu : List FuncId} (hpu : PureIn E pu) {m : MOp} (h : opKind pu m = 1) {ρ : MX → AV} (hfn : ∀ f, ρ (.fn f) = .func (.func f) [] []) {A : Arena} {v : AV} {A' : Arena} (he : evStep E ρ A m = some (v, A')) : A' = A := by
  cases m with
  | call f args =>
    cases f with
    | fn f =>
      simp only [opKind] at h
      split at h
      · rename_i hc
        simp only [evStep, hfn, Env.call] at he
        exact hpu f (by simpa using hc) _ _ _ _ _ he
      · cases h
    | _ => simp [opKind] at h
  | _ =>
    first
    | (simp [opKind] at h; done)
    | (simp only [evStep, evOp, Option.map_eq_some_iff, Prod.mk.injEq] at he
       obtain ⟨x, h1, h2, h3⟩ := he
       exact h3.symm)

theorem res0 {pu : List FuncId} {o : MO} (h : opKind pu o.op = 0) {ρ : MX → AV} {A : Arena} {v : AV} {A' : Arena} (he : evRes1 E o ρ A = some (v, A')) : A' = A ∧ ∀ B, evRes1 E o ρ B = some (v, B) := by
  unfold evRes1 at he ⊢
  split at he
  · exact kind0 h he
  · simp only [Option.some.injEq, Prod.mk.injEq] at he
    obtain ⟨rfl, rfl⟩ := he
    exact ⟨rfl, fun _ => rfl⟩
  · cases he
theorem res1 {pu : List FuncId} (hpu : PureIn E pu) {o : MO} (h : opKind pu o.op = 1) {ρ : MX → AV} (hfn : ∀ f, ρ (.fn f) = .func (.func f) [] []) {A : Arena} {v : AV} {A' : Arena} (he : evRes1 E o ρ A = some (v, A')) : A' = A := by
  unfold evRes1 at he
  split at he
  · exact kind1 hpu h hfn he
  · simp only [Option.some.injEq, Prod.mk.injEq] at he
    exact he.2.symm
  · cases he

theorem evX_setVar {σ T : List AV} {d : Option Nat} {v : AV} {x : MX} (h : ∀ k, d = some k → x ≠ .var k) : evX E (setVar σ d v) T x = evX E σ T x := by
  cases d with
  | none => rfl
  | some k =>
    cases x with
    | var i =>
      have hne : k ≠ i := fun e => h k rfl (by rw [e])
      simp [evX, setVar, List.getD_eq_getElem?_getD, List.getElem?_set_ne hne]
    | _ => rfl
theorem evX_setT {σ T : List AV} {i : Nat} {v : AV} {x : MX} (h : x ≠ .tmp i) : evX E σ (T.set i v) x = evX E σ T x := by
  cases x with
  | tmp j =>
    have hne : i ≠ j := fun e => h (by rw [e])
    simp [evX, List.getD_eq_getElem?_getD, List.getElem?_set_ne hne]
  | _ => rfl
theorem not_readsT {j : Nat} {o : MO} (h : readsT j o = false) : ∀ x ∈ o.reads, x ≠ .tmp j := by
  intro x hx e
  subst e
  unfold readsT at h
  rw [List.any_eq_false] at h
  exact absurd (h _ hx) (by simp)
theorem not_readsV {j : Nat} {o : MO} (h : readsV j o = false) : ∀ x ∈ o.reads, x ≠ .var j := by
  intro x hx e
  subst e
  unfold readsV at h
  rw [List.any_eq_false] at h
  exact absurd (h _ hx) (by simp)

/-- two operations change places -/
theorem swap2 {pu : List FuncId} (hpu : PureIn E pu) {mos : List MO} {i j : Nat} {x y : MO} (hx : mos[i]? = some x) (hy : mos[j]? = some y) (hij : i ≠ j) (hf : free2 pu i j x y = true) {s s1 s2 : St}
    (h1 : evAt E mos i s = some s1) (h2 : evAt E mos j s1 = some s2) : ∃ s3, evAt E mos j s = some s3 ∧ evAt E mos i s3 = some s2 := by
  obtain ⟨σ, T, A⟩ := s
  simp only [evAt, hx, hy, Option.map_eq_some_iff] at h1 h2 ⊢
  obtain ⟨⟨v, A1⟩, e1, rfl⟩ := h1
  obtain ⟨⟨u, A2⟩, e2, rfl⟩ := h2
  simp only at e1 e2 ⊢
  simp only [free2, Bool.and_eq_true, Bool.not_eq_true', Bool.or_eq_true, beq_iff_eq] at hf
  obtain ⟨⟨⟨⟨hk, r1⟩, r2⟩, r3⟩, r4⟩ := hf
  have dne : ∀ d, x.dst = some d → y.dst ≠ some d := fun d hd => by
    rw [hd] at r3
    simp only [Bool.and_eq_true, Bool.not_eq_true', beq_eq_false_iff_ne] at r3
    exact r3.2
  have cy : ∀ B, evRes1 E y (evX E (setVar σ x.dst v) (T.set i v)) B = evRes1 E y (evX E σ T) B := fun B => by
    refine evRes1_congr y (fun z hz => ?_) B
    rw [evX_setVar, evX_setT (not_readsT r1 z hz)]
    intro k hk
    rw [hk] at r3
    simp only [Bool.and_eq_true, Bool.not_eq_true'] at r3
    exact not_readsV r3.1 z hz
  have cx : ∀ B, evRes1 E x (evX E (setVar σ y.dst u) (T.set j u)) B = evRes1 E x (evX E σ T) B := fun B => by
    refine evRes1_congr x (fun z hz => ?_) B
    rw [evX_setVar, evX_setT (not_readsT r2 z hz)]
    intro k hk
    rw [hk] at r4
    simp only [Bool.not_eq_true'] at r4
    exact not_readsV r4 z hz
  rw [cy] at e2
  have hfin : ∀ B, evRes1 E y (evX E σ T) A = some (u, B) → evRes1 E x (evX E σ T) B = some (v, A2) →
      ∃ s3, (∃ a, evRes1 E y (evX E σ T) A = some a ∧ (setVar σ y.dst a.1, T.set j a.1, a.2) = s3) ∧ ∃ a, evRes1 E x (evX E s3.1 s3.2.1) s3.2.2 = some a ∧
        (setVar s3.1 x.dst a.1, s3.2.1.set i a.1, a.2) = (setVar (setVar σ x.dst v) y.dst u, (T.set i v).set j u, A2) := by
    intro B b1 b2
    refine ⟨_, ⟨_, b1, rfl⟩, (v, A2), by simp only; rw [cx]; exact b2, ?_⟩
    simp only [Prod.mk.injEq, and_true]
    refine ⟨?_, List.set_comm _ _ (Ne.symm hij)⟩
    cases hxd : x.dst with
    | none => rfl
    | some d =>
      cases hyd : y.dst with
      | none => rfl
      | some d' =>
        have := dne d hxd
        rw [hyd] at this
        exact List.set_comm _ _ (fun e => this (by rw [e]))
  have hfn : ∀ σ T f, evX E σ T (.fn f) = .func (.func f) [] [] := fun _ _ _ => rfl
  rcases hk with (hk | hk) | ⟨hk1, hk2⟩
  · obtain ⟨rfl, h0⟩ := res0 hk e1
    exact hfin A2 e2 (h0 _)
  · obtain ⟨rfl, h0⟩ := res0 hk e2
    exact hfin A (h0 A) e1
  · obtain rfl := res1 hpu hk1 (hfn σ T) e1
    obtain rfl := res1 hpu hk2 (hfn σ T) e2
    exact hfin A2 e2 e1

/-- one of several goes first -/
theorem toFront {pu : List FuncId} (hpu : PureIn E pu) {mos : List MO} {i : Nat} {r2 : List Nat} : ∀ (r1 : List Nat) (s s' : St), (∀ j ∈ r1, j ≠ i ∧ ∃ x y, mos[j]? = some x ∧ mos[i]? = some y ∧ free2 pu j i x y = true) →
    evOrd E mos (r1 ++ i :: r2) s = some s' → evOrd E mos (i :: (r1 ++ r2)) s = some s'
  | [], s, s', _, h => h
  | j :: r1, s, s', hc, h => by
    simp only [List.cons_append, evOrd, Option.bind_eq_some_iff] at h
    obtain ⟨s1, h1, h2⟩ := h
    have h3 := toFront hpu r1 s1 s' (fun k hk => hc k (by simp [hk])) h2
    simp only [evOrd, Option.bind_eq_some_iff] at h3
    obtain ⟨s2, h4, h5⟩ := h3
    obtain ⟨hne, x, y, hx, hy, hf⟩ := hc j (by simp)
    obtain ⟨s3, h6, h7⟩ := swap2 hpu hx hy hne hf h1 h4
    simp only [evOrd, Option.bind_eq_some_iff, List.cons_append]
    exact ⟨s3, h6, s2, h7, h5⟩
end
end Go.Proofs.YtnpmfpcppkdniaaDoor
