/-
  Loops over functions: the rounds, the loop. Program-independent.
-/
import Derived.Test.YtnpmfpcppkdniaaDoorEv16c
namespace Go.Proofs.YtnpmfpcppkdniaaDoor
open Go
section
variable {P : Program} {E : Env} {N : Nat} {vs : List Nat} {base : Nat} {rd : Option Nat} {n : Nat}

def OutOk (E : Env) (N : Nat) (vs : List Nat) (base : Nat) (w0 : World) (OK0 : Nat → Prop) (g0 : Ghost) : Out → Exit → Act → World → Prop
  | .normal σ A, .normal, a, w => ∃ OK g, SRel E N vs base w OK g σ A a ∧ Ext w0 OK0 g0 w OK g
  | .exit id σ A, .exit id', a, w => id = id' ∧ ∃ OK g, SRel E N vs base w OK g σ A a ∧ Ext w0 OK0 g0 w OK g
  | .ret σ A, .ret, a, w => ∃ OK g, SRel E N vs base w OK g σ A a ∧ Ext w0 OK0 g0 w OK g
  | _, _, _, _ => False

theorem OutOk.pre {w0 w1 : World} {OK0 OK1 : Nat → Prop} {g0 g1 : Ghost} {out : Out} {e : Exit} {a : Act} {w : World} (hx : Ext w0 OK0 g0 w1 OK1 g1) (h : OutOk E N vs base w1 OK1 g1 out e a w) : OutOk E N vs base w0 OK0 g0 out e a w := by
  cases out <;> cases e <;> simp only [OutOk] at h ⊢
  · obtain ⟨OK, g, h1, h2⟩ := h; exact ⟨OK, g, h1, hx.trans h2⟩
  · obtain ⟨h0, OK, g, h1, h2⟩ := h; exact ⟨h0, OK, g, h1, hx.trans h2⟩
  · obtain ⟨OK, g, h1, h2⟩ := h; exact ⟨OK, g, h1, hx.trans h2⟩

theorem wpIn_scope' {F : Fence} {Q : Exit → Act → World → Prop} {a : Act} {w : World} {c : Code} (h : c.wpIn F n P Q a w) (hg : ∀ l a w, ¬ Q (.goto l) a w) : (Code.scope c).wpIn F n P Q a w := by
  intro b k cs hro hb hr
  have s1 : step P (lone (b.atR a (.code (.scope c) :: k)) cs w) = .next (lone (b.atR a (.code c :: .inScope c :: k)) cs w) := step_lone_go (by simp [stepG, stepG.exec, Frame.atR])
  have s2 : ∀ a w, step P (lone (b.atR a (.inScope c :: k)) cs w) = .next (lone (b.atR a k) cs w) := fun a w => step_lone_go (by simp [stepG, stepG.exec, Frame.atR])
  have h0 : (lone (b.atR a (.code (.scope c) :: k)) cs w).fenced P F := fenced_calm hb hr rfl
  obtain ⟨e, a₁, w₁, hq, harr⟩ := h b (.inScope c :: k) cs hro hb hr
  cases e with
  | normal => exact ⟨.normal, a₁, w₁, hq, .head h0 s1 (StepsIn.trans harr (.one (fenced_calm hb hr rfl) (s2 _ _)))⟩
  | exit id => exact ⟨.exit id, a₁, w₁, hq, fun k' hk => .head h0 s1 (harr.1 k' (by simp [exitTo, hk])), fun hr' hk => let ⟨k₁, h1, h2⟩ := harr.2 hr' (by simp [exitTo, hk]); ⟨k₁, h1, .head h0 s1 h2⟩⟩
  | goto l => exact (hg _ _ _ hq).elim
  | ret => exact ⟨_, a₁, w₁, hq, .of_steps (.one h0 s1) harr⟩
  | panic ch => exact ⟨_, a₁, w₁, hq, .of_steps (.one h0 s1) harr⟩
  | outgrown => exact ⟨_, a₁, w₁, hq, .of_steps (.one h0 s1) harr⟩


theorem evR_spec {α β : Type} {good : α → Prop} {inner : α → Option β} {x : β} (h : evR good inner = some x) (a : α) (ha : good a) : inner a = some x := by
  unfold evR at h
  split at h
  · rename_i hx
    injection h with h; subst h
    exact hx.choose_spec a ha
  · cases h

theorem evR_of {α β : Type} {good : α → Prop} {inner : α → Option β} {x : β} (a : α) (ha : good a) (h : ∀ a, good a → inner a = some x) : evR good inner = some x := by
  have hx : ∃ x, ∀ a, good a → inner a = some x := ⟨x, h⟩
  unfold evR
  rw [dif_pos hx]
  have h1 := hx.choose_spec a ha
  rw [h a ha] at h1
  exact h1.symm

/-- A block that nothing names. -/
theorem ARel.alloc {w : World} {OK : Nat → Prop} {g : Ghost} {A : Arena} (h : ARel w OK g A) (o : Obj) : ARel (w.alloc o) OK g A ∧ Ext w OK g (w.alloc o) OK g := by
  have hb : ∀ b, b < w.heap.size → (w.alloc o).heap[b]? = w.heap[b]? := fun b hb => by
    show (w.heap.push o)[b]? = _
    rw [Array.getElem?_push, if_neg (by omega)]
  have hs : w.heap.size ≤ (w.alloc o).heap.size := by simp
  exact ⟨h.keep hs hb OK (fun _ h => h) (fun _ h => .inl h) (fun b hb => Nat.lt_of_lt_of_le (h.ok b hb) hs),
    ⟨rfl, rfl, rfl, hs, fun b hb' _ => hb b hb', g.le_refl, fun _ h => h, fun id inc hi => .inl ⟨id, inc, hi, rfl⟩, fun _ h => .inl h, fun b r hr _ => (hb b (Array.getElem?_eq_some_iff.1 hr).1).trans hr, fun _ _ _ _ => rfl⟩⟩

/-- A loop's record, ready or left by a jump once more. -/
theorem ARel.revive {w : World} {OK : Nat → Prop} {g : Ghost} {A : Arena} (h : ARel w OK g A) {n0 : Nat} {inc : Inc} (hg : g n0 = [inc]) (h0 : inc.esz = 0) {rb : Loop} (hb : w.heap[inc.b]? = some (.loop rb)) (hbusy : rb.state = .busy)
    (r : Loop) (k : Nat) : ARel (w.putObj inc.b (.loop (recOf r k))) OK g (A.set n0 (.loop r k)) := by
  have hlt : inc.b < w.heap.size := (Array.getElem?_eq_some_iff.1 hb).1
  have hn0 : n0 < A.length := by
    rcases Nat.lt_or_ge n0 A.length with h1 | h1
    · exact h1
    · have := h.out n0 h1; rw [hg] at this; cases this
  have hother : ∀ b, b ≠ inc.b → (w.putObj inc.b (.loop (recOf r k))).heap[b]? = w.heap[b]? := fun b hne => World.putObj_heap_other hne
  have hokb : ∀ b, OK b → (w.putObj inc.b (.loop (recOf r k))).heap[b]? = w.heap[b]? := fun b hob => hother b fun e => h.apart n0 inc (by rw [hg]; simp) (e ▸ hob)
  -- no other living entry names the block
  have hapart : ∀ (k' : Nat) (i : Inc), k' ≠ n0 → A[k']? ≠ some .dead → i ∈ g k' → i.b ≠ inc.b := fun k' i hk hd hi eb => by
    have hk' : k' < A.length := by
      rcases Nat.lt_or_ge k' A.length with h1 | h1
      · exact h1
      · have := h.out k' h1; rw [this] at hi; cases hi
    have hent := h.ent k' hk'
    cases he : A[k'] with
    | row s gr es =>
      rw [he] at hent
      obtain ⟨_, _, _, c, T, fz, hh, _⟩ := hent.2 i hi
      rw [eb, hb] at hh; cases hh
    | map kvs =>
      rw [he] at hent
      obtain ⟨i', e1, es, cl, hh, _⟩ := hent
      rw [e1] at hi; simp at hi; subst hi
      rw [eb, hb] at hh; cases hh
    | loop r' k2 =>
      rw [he] at hent
      obtain ⟨i', e1, _, hh⟩ := hent
      rw [e1] at hi; simp at hi; subst hi
      rw [eb, hb] at hh
      injection hh with hh; injection hh with hh
      rw [hh] at hbusy
      unfold recOf at hbusy
      split at hbusy <;> cases hbusy
    | dead => exact hd (by rw [List.getElem?_eq_getElem hk', he])
  refine ⟨fun k' hk => ?_, fun k' hk => ?_, fun k1 k2 i i' hd hd' hi hi' eb => ?_, h.apart, fun k' i hi => ?_, fun b hob => ?_⟩
  · by_cases e : k' = n0
    · subst e
      simp only [List.getElem_set_self]
      exact ⟨inc, hg, h0, World.putObj_heap_same hlt⟩
    · have hk' : k' < A.length := by simpa using hk
      rw [List.getElem_set_ne (Ne.symm e)]
      by_cases hd : A[k']? = some .dead
      · rw [List.getElem?_eq_getElem hk'] at hd
        injection hd with hd
        rw [hd]; trivial
      · exact (h.ent k' hk').mono (fun _ h => h) hokb g.le_refl (fun i hi => hother _ (hapart k' i e hd hi))
  · exact h.out k' (by simpa using hk)
  · have hl : ∀ k' : Nat, k' ≠ n0 → (A.set n0 (.loop r k))[k']? ≠ some Ent.dead → A[k']? ≠ some Ent.dead := fun k' e hd => by rwa [List.getElem?_set_ne (Ne.symm e)] at hd
    by_cases e1 : k1 = n0
    · by_cases e2 : k2 = n0
      · subst e1; subst e2
        rw [hg] at hi hi'
        simp at hi hi'
        exact ⟨rfl, hi.trans hi'.symm⟩
      · subst e1
        rw [hg] at hi
        simp at hi; subst hi
        exact absurd eb.symm (hapart k2 i' e2 (hl k2 e2 hd') hi')
    · by_cases e2 : k2 = n0
      · subst e2
        rw [hg] at hi'
        simp at hi'; subst hi'
        exact absurd eb (hapart k1 i e1 (hl k1 e1 hd) hi)
      · exact h.one k1 k2 i i' (hl k1 e1 hd) (hl k2 e2 hd') hi hi' eb
  · simpa using h.low k' i hi
  · simpa using h.ok b hob

theorem idxAll_get {vs : List Nat} : ∀ {ts is : List Nat}, idxAll vs ts = some is → ts.length = is.length ∧ ∀ k (h1 : k < ts.length) (h2 : k < is.length), ∃ h : is[k] < vs.length, vs[is[k]] = ts[k]
  | [], is, h => by injection h with h; subst h; exact ⟨rfl, fun k h1 => by simp at h1⟩
  | t :: r, is, h => by
    simp only [idxAll] at h
    split at h
    · rename_i i l h1 h2
      injection h with h; subst h
      obtain ⟨k1, k2⟩ := idxAll_get (ts := r) h2
      refine ⟨by simp [k1], fun k h3 h4 => ?_⟩
      cases k with
      | zero => exact List.idxOf?_eq_some_iff.1 h1 |> fun h => (⟨h.1, h.2.1⟩ : ∃ h : i < vs.length, vs[i] = t)
      | succ k => exact k2 k (by simpa using h3) (by simpa using h4)
    · cases h

/-- a round's slots: the loop's, with what was yielded -/
theorem setAll_sound {w : World} {OK : Nat → Prop} {g : Ghost} (hvn : vs.Nodup) (hvl : ∀ t ∈ vs, t < N) : ∀ (ts is : List Nat) (us : List Value) (args σ σ1 : List AV) (tm : Array Value), idxAll vs ts = some is → setAll σ is args = some σ1 → ListRel w OK g us args →
    tm.size = N → σ.length = vs.length → (∀ i (h : i < vs.length), VRel w OK g (tm.getD vs[i] undef) (σ.getD i .undef)) →
    let tm' := (ts.zip us).foldl (fun tmps x => tmps.setIfInBounds x.1 x.2) tm
    us.length = ts.length ∧ tm'.size = N ∧ σ1.length = vs.length ∧ ∀ i (h : i < vs.length), VRel w OK g (tm'.getD vs[i] undef) (σ1.getD i .undef)
  | [], is, us, args, σ, σ1, tm, hi, hs, hl, hN, hlen, hv => by
    injection hi with hi; subst hi
    cases args with
    | nil =>
      simp only [setAll, Option.some.injEq] at hs
      subst hs
      cases us with
      | nil => exact ⟨rfl, hN, hlen, hv⟩
      | cons u us => exact hl.elim
    | cons a args => simp [setAll] at hs
  | t :: ts, is, us, args, σ, σ1, tm, hi, hs, hl, hN, hlen, hv => by
    simp only [idxAll] at hi
    split at hi
    · rename_i i l h1 h2
      injection hi with hi; subst hi
      cases args with
      | nil => simp [setAll] at hs
      | cons a args =>
        cases us with
        | nil => exact hl.elim
        | cons u us =>
          simp only [setAll] at hs
          obtain ⟨hlt, het⟩ := List.idxOf?_eq_some_iff.1 h1 |> fun h => (⟨h.1, h.2.1⟩ : ∃ h : i < vs.length, vs[i] = t)
          have htN : t < N := hvl t (het ▸ List.getElem_mem hlt)
          obtain ⟨k1, k2, k3, k4⟩ := setAll_sound hvn hvl ts l us args (σ.set i a) σ1 (tm.setIfInBounds t u) h2 hs hl.2 (by simpa using hN) (by simpa using hlen) (fun j hj => by
            by_cases e : i = j
            · subst e
              rw [het, getD_set_self _ _ (by rw [hN]; exact htN)]
              simp [List.getD_eq_getElem?_getD, List.getElem?_set_self (show i < σ.length by rw [hlen]; exact hj), hl.1]
            · have hne : t ≠ vs[j] := fun e2 => e (nodup_inj hvn hlt hj (by rw [het, e2]))
              rw [getD_set_ne _ _ hne]
              have := hv j hj
              simpa [List.getD_eq_getElem?_getD, List.getElem?_set_ne e] using this)
          exact ⟨by simp [k1], k2, k3, k4⟩
    · cases hi

end
end Go.Proofs.YtnpmfpcppkdniaaDoor
