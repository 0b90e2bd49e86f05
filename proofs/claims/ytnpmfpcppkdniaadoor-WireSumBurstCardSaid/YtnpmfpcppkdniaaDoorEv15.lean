/-
  The evaluation of regions and code is sound. Program-independent.
-/
import Derived.Test.YtnpmfpcppkdniaaDoorEv14
namespace Go.Proofs.YtnpmfpcppkdniaaDoor
open Go

/-- the fence that lets everything by, in a round or not -/
def FW (rd : Option Nat) : Fence := { Fence.wide with round := rd }

def GRel (G : Nat → Option (List AV)) (w : World) (OK : Nat → Prop) : Prop := ∀ gl cs, G gl = some cs → VRel w OK Ghost.none (.pointer (some ⟨gl, 0, none⟩)) (.fp cs)

/-- what holds of loops under way, and of package-level variables -/
def IRel (G : Nat → Option (List AV)) (ys : List Yld) (w : World) (OK : Nat → Prop) (g : Ghost) : Prop :=
  GRel G w OK ∧ ∀ y ∈ ys, (∃ inc, g y.id = [inc] ∧ inc.b = y.l ∧ inc.esz = 0) ∧ ListRel w OK g y.vals y.σ

def CallOk (P : Program) (w : World) (OK : Nat → Prop) (g : Ghost) (res : Result Next) (r : AV) (A' : Arena) : Prop :=
  (∃ v w' OK' g', res = .ok (.value v) w' ∧ VRel w' OK' g' v r ∧ ARel w' OK' g' A' ∧ Ext w OK g w' OK' g') ∨
  (∃ f args, res = .ok (.enter f args) w ∧ Calls P f args w fun e w' => ∃ v OK' g', e = .returned v ∧ VRel w' OK' g' v r ∧ ARel w' OK' g' A' ∧ Ext w OK g w' OK' g') ∨
  (∃ l f tmps assign body, res = .ok (.round l f tmps assign body) w ∧ ∀ rd n, RoundIn (FW rd) n P l f tmps assign body w fun e w' => ∃ v OK' g', e = .returned v ∧ VRel w' OK' g' v r ∧ ARel w' OK' g' A' ∧ Ext w OK g w' OK' g')

/-- What a handler of calls says is so. -/
def HSound (P : Program) (G : Nat → Option (List AV)) (ys : List Yld) (h : Handler) : Prop :=
  ∀ fv args A r A', h fv args A = some (r, A') → ∀ (w : World) (OK : Nat → Prop) (g : Ghost) (v : Value) (vs : List Value), ARel w OK g A → IRel G ys w OK g → VRel w OK g v fv → ListRel w OK g vs args →
    CallOk P w OK g ((do let d ← Deferred.ofValue v vs.toArray; invoke d.target d.args : Sem Next).run P w) r A'

/-- likewise; a function is entered -/
def HEnters (P : Program) (G : Nat → Option (List AV)) (ys : List Yld) (h : Handler) : Prop :=
  ∀ fv args A r A', h fv args A = some (r, A') → ∀ (w : World) (OK : Nat → Prop) (g : Ghost) (v : Value) (vs : List Value), ARel w OK g A → IRel G ys w OK g → VRel w OK g v fv → ListRel w OK g vs args →
    ∃ (d : Deferred) (f : FuncId) (args' : Array Value), (Deferred.ofValue v vs.toArray).run P w = .ok d w ∧ (invoke d.target d.args).run P w = .ok (.enter f args') w ∧
      Calls P f args' w fun e w' => ∃ v OK' g', e = .returned v ∧ VRel w' OK' g' v r ∧ ARel w' OK' g' A' ∧ Ext w OK g w' OK' g'

theorem HEnters.sound {P : Program} {G : Nat → Option (List AV)} {ys : List Yld} {h : Handler} (hh : HEnters P G ys h) : HSound P G ys h := by
  intro fv args A r A' he w OK g v vs hA hI hv hl
  obtain ⟨d, f, args', e1, e2, e3⟩ := hh fv args A r A' he w OK g v vs hA hI hv hl
  exact .inr (.inl ⟨f, args', by simp only [Sem.run_bind, e1, Result.andThen_ok, e2], e3⟩)

theorem IRel.sub {G : Nat → Option (List AV)} {ys ys' : List Yld} {w : World} {OK : Nat → Prop} {g : Ghost} (h : IRel G ys' w OK g) (hs : ∀ y ∈ ys, y ∈ ys') : IRel G ys w OK g := ⟨h.1, fun y hy => h.2 y (hs y hy)⟩
theorem HSound.sub {P : Program} {G : Nat → Option (List AV)} {ys ys' : List Yld} {h : Handler} (hh : HSound P G ys h) (hs : ∀ y ∈ ys, y ∈ ys') : HSound P G ys' h :=
  fun fv args A r A' he w OK g v vs hA hI hv hl => hh fv args A r A' he w OK g v vs hA (hI.sub hs) hv hl

/-- What is known of calls is so. -/
structure EnvSound (P : Program) (E : Env) : Prop where
  hand : HSound P E.glob E.ys E.hand
  callY : ∀ ys' h, (∀ y ∈ E.ys, y ∈ ys') → HSound P E.glob ys' h → HEnters P E.glob ys' (E.callY h)

theorem EnvSound.call {P : Program} {E : Env} (hE : EnvSound P E) : HSound P E.glob E.ys E.call := by
  intro fv args A r A' he w OK g v vs hA hI hv hl
  unfold Env.call at he
  split at he
  · exact (hE.callY E.ys E.hand (fun _ h => h) hE.hand).sound _ _ _ _ _ he w OK g v vs hA hI hv hl
  · split at he
    · rename_i x hx
      injection he with he; subst he
      exact hE.hand _ _ _ _ _ hx w OK g v vs hA hI hv hl
    · exact (hE.callY E.ys E.hand (fun _ h => h) hE.hand).sound _ _ _ _ _ he w OK g v vs hA hI hv hl

theorem Ext.grel {w w' : World} {OK OK' : Nat → Prop} {g g' : Ghost} {A : Arena} {G : Nat → Option (List AV)} (h : GRel G w OK) (hA : ARel w OK g A) (e : Ext w OK g w' OK' g') : GRel G w' OK' := fun gl cs hg =>
  (h gl cs hg).mono e.okle (e.okblk hA) _ (Ghost.le_refl _)

theorem ListRel.ext {w w' : World} {OK OK' : Nat → Prop} {g g' : Ghost} {A : Arena} {us : List Value} {l : List AV} (h : ListRel w OK g us l) (hA : ARel w OK g A) (e : Ext w OK g w' OK' g') : ListRel w' OK' g' us l :=
  h.mono fun _ _ hv => hv.ext hA e

theorem Ext.irel {w w' : World} {OK OK' : Nat → Prop} {g g' : Ghost} {A : Arena} {G : Nat → Option (List AV)} {ys : List Yld} (h : IRel G ys w OK g) (hA : ARel w OK g A) (e : Ext w OK g w' OK' g') : IRel G ys w' OK' g' :=
  ⟨e.grel h.1 hA, fun y hy => by
    obtain ⟨⟨inc, h1, h2, h3⟩, h4⟩ := h.2 y hy
    exact ⟨⟨inc, (e.fix y.id inc (by rw [h1]; simp) h3).trans h1, h2, h3⟩, h4.ext hA e⟩⟩

/-- The marks of loops over functions: the blocks for the rounds' deferred calls, which stay empty. -/
def Marks (base : Nat) (w : World) (OK : Nat → Prop) (g : Ghost) : List Deferred → Prop
  | [] => True
  | d :: r => (∃ D, d = ⟨.collected D, #[]⟩ ∧ base ≤ D ∧ w.heap[D]? = some (.deferred (some [])) ∧ ¬ OK D ∧ (∀ id inc, inc ∈ g id → inc.b ≠ D) ∧ ∀ d' ∈ r, d' ≠ ⟨.collected D, #[]⟩) ∧ Marks base w OK g r

theorem Marks.ext {base : Nat} {w w' : World} {OK OK' : Nat → Prop} {g g' : Ghost} (e : Ext w OK g w' OK' g') : ∀ {l : List Deferred}, Marks base w OK g l → Marks base w' OK' g' l
  | [], _ => trivial
  | d :: r, ⟨⟨D, h1, h2, h3, h4, h5, h6⟩, hr⟩ => by
    have hlt := (Array.getElem?_eq_some_iff.1 h3).1
    refine ⟨⟨D, h1, h2, (e.blk D hlt h5).trans h3, fun ho => ?_, fun id inc hi eb => ?_, h6⟩, Marks.ext e hr⟩
    · rcases e.okf D ho with h | h
      · exact h4 h
      · omega
    · rcases e.fresh id inc hi with ⟨id0, inc0, k0, k1⟩ | h
      · exact h5 id0 inc0 k0 (k1.trans eb)
      · omega

structure SRel (E : Env) (N : Nat) (vs : List Nat) (base : Nat) (w : World) (OK : Nat → Prop) (g : Ghost) (σ : List AV) (A : Arena) (a : Act) : Prop where
  size : a.tmps.size = N
  defers : Marks base w OK g a.defers
  low : base ≤ w.heap.size
  len : σ.length = vs.length
  vars : ∀ i (h : i < vs.length), VRel w OK g (a.tmps.getD vs[i] undef) (σ.getD i .undef)
  arena : ARel w OK g A
  glob : IRel E.glob E.ys w OK g

section
variable {P : Program} {E : Env} {N : Nat} {vs : List Nat} {base : Nat}

theorem SRel.ext {w w' : World} {OK OK' : Nat → Prop} {g g' : Ghost} {σ : List AV} {A A' : Arena} {a : Act} (h : SRel E N vs base w OK g σ A a) (e : Ext w OK g w' OK' g') (hA : ARel w' OK' g' A') : SRel E N vs base w' OK' g' σ A' a :=
  ⟨h.size, h.defers.ext e, Nat.le_trans h.low e.size, h.len, fun i hi => (h.vars i hi).ext h.arena e, hA, e.irel h.glob h.arena⟩

/-- The state in the midst of a region: the slots that have been written there. -/
structure RRel (E : Env) (N : Nat) (vs : List Nat) (base : Nat) (w : World) (OK : Nat → Prop) (g : Ghost) (σ T : List AV) (ts : List (Option Nat)) (A : Arena) (a : Act) : Prop extends SRel E N vs base w OK g σ A a where
  tlen : T.length = ts.length
  temps : ∀ j t : Nat, ts[j]? = some (some t) → VRel w OK g (a.tmps.getD t undef) (T.getD j .undef)
  tok : ∀ j t : Nat, ts[j]? = some (some t) → t < N ∧ t ∉ vs
  tone : ∀ j j' t : Nat, ts[j]? = some (some t) → ts[j']? = some (some t) → j = j'

theorem RRel.eval {w : World} {OK : Nat → Prop} {g : Ghost} {σ T : List AV} {ts : List (Option Nat)} {A : Arena} {a : Act} (h : RRel E N vs base w OK g σ T ts A a) (x : Operand) (y : MX) (hy : cxOf vs ts x = some y) : VRel w OK g (a.eval x) (evX E σ T y) := by
  unfold cxOf at hy
  split at hy
  · rename_i t
    split at hy
    · rename_i i hi
      injection hy with hy; subst hy
      obtain ⟨hlt, he⟩ := List.idxOf?_eq_some_iff.1 hi |> fun h => (⟨h.1, h.2.1⟩ : ∃ h : i < vs.length, vs[i] = t)
      have := h.vars i hlt
      rw [he] at this
      simpa [Act.eval, evX] using this
    · simp only [Option.map_eq_some_iff] at hy
      obtain ⟨j, hj, rfl⟩ := hy
      obtain ⟨hlt, he⟩ := List.idxOf?_eq_some_iff.1 hj |> fun h => (⟨h.1, h.2.1⟩ : ∃ h : j < ts.length, ts[j] = some t)
      have := h.temps j t (by rw [List.getElem?_eq_getElem hlt, he])
      simpa [Act.eval, evX] using this
  · simp only [Option.map_eq_some_iff] at hy
    obtain ⟨v, hv, rfl⟩ := hy
    exact ofValue_rel hv
  · injection hy with hy; subst hy
    rename_i gl
    simp only [evX, Act.eval]
    split
    · rename_i cs hcs
      exact (h.glob.1 gl cs hcs).none_to
    · exact .undef _ _
  · injection hy with hy; subst hy
    exact .func _ _ _ _ [] [] rfl rfl (fun _ => undef) (fun _ => undef) (fun i hi => by simp at hi) (fun i hi => by simp at hi) (fun i hi => by simp at hi) (fun i hi => by simp at hi)

theorem evStep_cases (m : MOp) : (∃ f args, m = .call f args) ∨ ∀ E ρ A, evStep E ρ A m = evOp ρ A m := by
  cases m with
  | call f args => exact .inl ⟨f, args, rfl⟩
  | _ => exact .inr fun _ _ _ => rfl

theorem getD_set_ne {t u : Nat} (tm : Array Value) (v : Value) (h : t ≠ u) : (tm.setIfInBounds t v).getD u undef = tm.getD u undef := by
  simp [Array.getD_eq_getD_getElem?, Array.getElem?_setIfInBounds_ne h]
theorem getD_set_self {t : Nat} (tm : Array Value) (v : Value) (h : t < tm.size) : (tm.setIfInBounds t v).getD t undef = v := by
  simp [Array.getD_eq_getD_getElem?, Array.getElem?_setIfInBounds_self_of_lt h]

theorem nodup_inj {vs : List Nat} (h : vs.Nodup) {i j : Nat} (hi : i < vs.length) (hj : j < vs.length) (e : vs[i] = vs[j]) : i = j := by
  have hp := List.pairwise_iff_getElem.1 h
  rcases Nat.lt_trichotomy i j with h1 | h1 | h1
  · exact absurd e (hp i j hi hj h1)
  · exact h1
  · exact absurd e.symm (hp j i hj hi h1)

/-- a slot that is a variable's is written -/
theorem RRel.putVar {w : World} {OK : Nat → Prop} {g : Ghost} {σ T : List AV} {ts : List (Option Nat)} {A : Arena} {a : Act} (hvn : vs.Nodup) (hvl : ∀ t ∈ vs, t < N) (h : RRel E N vs base w OK g σ T ts A a) {i t : Nat} (hi : i < vs.length) (ht : vs[i] = t) {v : Value} {x : AV} (hx : VRel w OK g v x) (y : AV) :
    RRel E N vs base w OK g (σ.set i x) (T ++ [y]) (ts ++ [none]) A (a.put (some t) v) where
  size := by simp [Act.put, h.size]
  defers := h.defers
  low := h.low
  len := by simp [h.len]
  vars k hk := by
    have hlt : t < N := hvl t (ht ▸ List.getElem_mem hi)
    by_cases e : i = k
    · subst e
      rw [ht]
      simp only [Act.put, getD_set_self _ _ (by rw [h.size]; exact hlt)]
      simp [List.getD_eq_getElem?_getD, List.getElem?_set_self (show i < σ.length by rw [h.len]; exact hi), hx]
    · have hne : t ≠ vs[k] := fun e2 => e (nodup_inj hvn hi hk (by rw [ht, e2]))
      simp only [Act.put, getD_set_ne _ _ hne]
      have := h.vars k hk
      simpa [List.getD_eq_getElem?_getD, List.getElem?_set_ne e] using this
  arena := h.arena
  glob := h.glob
  tlen := by simp [h.tlen]
  temps j u hj := by
    have hj' : ts[j]? = some (some u) := by
      rw [List.getElem?_append] at hj
      split at hj
      · exact hj
      · rename_i hge
        have : j - ts.length = 0 ∨ j - ts.length ≠ 0 := by omega
        rcases this with h0 | h0
        · rw [h0] at hj; simp at hj
        · rw [List.getElem?_eq_none (by simp; omega)] at hj; cases hj
    have hlt : j < ts.length := (List.getElem?_eq_some_iff.1 hj').1
    have hne : t ≠ u := fun e => (h.tok j u hj').2 (e ▸ ht ▸ List.getElem_mem hi)
    simp only [Act.put, getD_set_ne _ _ hne]
    have := h.temps j u hj'
    rw [List.getD_eq_getElem?_getD, List.getElem?_append_left (by rw [h.tlen]; exact hlt), ← List.getD_eq_getElem?_getD]
    exact this
  tok j u hj := by
    have hj' : ts[j]? = some (some u) := by
      rw [List.getElem?_append] at hj
      split at hj
      · exact hj
      · rename_i hge
        have : j - ts.length = 0 ∨ j - ts.length ≠ 0 := by omega
        rcases this with h0 | h0
        · rw [h0] at hj; simp at hj
        · rw [List.getElem?_eq_none (by simp; omega)] at hj; cases hj
    exact h.tok j u hj'
  tone j j' u hj hj' := by
    have key : ∀ j, (ts ++ [none])[j]? = some (some u) → ts[j]? = some (some u) := fun j hj => by
      rw [List.getElem?_append] at hj
      split at hj
      · exact hj
      · rename_i hge
        have : j - ts.length = 0 ∨ j - ts.length ≠ 0 := by omega
        rcases this with h0 | h0
        · rw [h0] at hj; simp at hj
        · rw [List.getElem?_eq_none (by simp; omega)] at hj; cases hj
    exact h.tone j j' u (key j hj) (key j' hj')

/-- an operation that writes no slot -/
theorem RRel.putNone {w : World} {OK : Nat → Prop} {g : Ghost} {σ T : List AV} {ts : List (Option Nat)} {A : Arena} {a : Act} (h : RRel E N vs base w OK g σ T ts A a) (v : Value) (y : AV) :
    RRel E N vs base w OK g σ (T ++ [y]) (ts ++ [none]) A (a.put none v) := by
  have key : ∀ u j, (ts ++ [none])[j]? = some (some u) → ts[j]? = some (some u) := fun u j hj => by
    rw [List.getElem?_append] at hj
    split at hj
    · exact hj
    · rename_i hge
      have : j - ts.length = 0 ∨ j - ts.length ≠ 0 := by omega
      rcases this with h0 | h0
      · rw [h0] at hj; simp at hj
      · rw [List.getElem?_eq_none (by simp; omega)] at hj; cases hj
  exact { size := h.size, defers := h.defers, low := h.low, len := h.len, vars := h.vars, arena := h.arena, glob := h.glob, tlen := by simp [h.tlen],
          temps := fun j u hj => by
            have hj' := key u j hj
            have hlt : j < ts.length := (List.getElem?_eq_some_iff.1 hj').1
            rw [List.getD_eq_getElem?_getD, List.getElem?_append_left (by rw [h.tlen]; exact hlt), ← List.getD_eq_getElem?_getD]
            exact h.temps j u hj'
          tok := fun j u hj => h.tok j u (key u j hj), tone := fun j j' u hj hj' => h.tone j j' u (key u j hj) (key u j' hj') }

/-- a slot of the region is written -/
theorem RRel.putTmp {w : World} {OK : Nat → Prop} {g : Ghost} {σ T : List AV} {ts : List (Option Nat)} {A : Arena} {a : Act} (h : RRel E N vs base w OK g σ T ts A a) {t : Nat} (htN : t < N) (htv : t ∉ vs) (htt : some t ∉ ts) {v : Value} {x : AV} (hx : VRel w OK g v x) :
    RRel E N vs base w OK g σ (T ++ [x]) (ts ++ [some t]) A (a.put (some t) v) := by
  have key : ∀ u j, (ts ++ [some t])[j]? = some (some u) → (ts[j]? = some (some u) ∧ j < ts.length) ∨ (j = ts.length ∧ u = t) := fun u j hj => by
    rw [List.getElem?_append] at hj
    split at hj
    · rename_i hlt; exact .inl ⟨hj, hlt⟩
    · rename_i hge
      have : j - ts.length = 0 ∨ j - ts.length ≠ 0 := by omega
      rcases this with h0 | h0
      · rw [h0] at hj; simp at hj; exact .inr ⟨by omega, hj.symm⟩
      · rw [List.getElem?_eq_none (by simp; omega)] at hj; cases hj
  have hmem : ∀ u j, ts[j]? = some (some u) → u ≠ t := fun u j hj e => htt (e ▸ List.mem_of_getElem? hj)
  exact { size := by simp [Act.put, h.size], defers := h.defers, low := h.low, len := h.len, arena := h.arena, glob := h.glob, tlen := by simp [h.tlen],
          vars := fun k hk => by
            have hne : t ≠ vs[k] := fun e => htv (e ▸ List.getElem_mem hk)
            simp only [Act.put, getD_set_ne _ _ hne]
            exact h.vars k hk
          temps := fun j u hj => by
            rcases key u j hj with ⟨hj', hlt⟩ | ⟨rfl, rfl⟩
            · simp only [Act.put, getD_set_ne _ _ (Ne.symm (hmem u j hj'))]
              rw [List.getD_eq_getElem?_getD, List.getElem?_append_left (by rw [h.tlen]; exact hlt), ← List.getD_eq_getElem?_getD]
              exact h.temps j u hj'
            · simp only [Act.put, getD_set_self _ _ (show u < a.tmps.size by rw [h.size]; exact htN)]
              rw [List.getD_eq_getElem?_getD, List.getElem?_append_right (by rw [h.tlen]; exact Nat.le_refl _)]
              simpa [h.tlen] using hx
          tok := fun j u hj => by
            rcases key u j hj with ⟨hj', hlt⟩ | ⟨rfl, rfl⟩
            · exact h.tok j u hj'
            · exact ⟨htN, htv⟩
          tone := fun j j' u hj hj' => by
            rcases key u j hj with ⟨h1, hlt⟩ | ⟨rfl, rfl⟩ <;> rcases key u j' hj' with ⟨h1', hlt'⟩ | ⟨h2, h3⟩
            · exact h.tone j j' u h1 h1'
            · exact absurd h3 (hmem u j h1)
            · exact absurd rfl (hmem u j' h1')
            · exact h2.symm }

theorem RRel.ext {w w' : World} {OK OK' : Nat → Prop} {g g' : Ghost} {σ T : List AV} {ts : List (Option Nat)} {A A' : Arena} {a : Act} (h : RRel E N vs base w OK g σ T ts A a) (e : Ext w OK g w' OK' g') (hA : ARel w' OK' g' A') : RRel E N vs base w' OK' g' σ T ts A' a :=
  { h.toSRel.ext e hA with tlen := h.tlen, temps := fun j t hj => (h.temps j t hj).ext h.arena e, tok := h.tok, tone := h.tone }

/-- whether an operation is carried out -/
theorem RRel.guard {w : World} {OK : Nat → Prop} {g : Ghost} {σ T : List AV} {ts : List (Option Nat)} {A : Arena} {a : Act} (hvl : ∀ t ∈ vs, t < N) (h : RRel E N vs base w OK g σ T ts A a) {ops : Array Oper} {o : Oper} {gd : Option (MX × Bool)} {b : Bool}
    (hc : compGuard vs ops ts o.guard = some gd) (he : evGuard (evX E σ T) gd = some b) : Region.wanted o (yielded ops a.tmps) = b := by
  unfold compGuard at hc
  split at hc
  · rename_i hg
    injection hc with hc; subst hc
    simp only [evGuard, Option.some.injEq] at he
    subst he
    simp [Region.wanted, hg]
  · rename_i j want hg
    split at hc
    · rename_i t ht
      simp only [Option.map_eq_some_iff] at hc
      obtain ⟨x, hx, rfl⟩ := hc
      have hv := h.eval (.tmp t) x hx
      have htN : t < a.tmps.size := by
        rw [h.size]
        unfold cxOf at hx
        simp only at hx
        split at hx
        · rename_i i hi
          exact hvl t (List.mem_of_getElem? (List.getElem?_eq_some_iff.2 (List.idxOf?_eq_some_iff.1 hi |> fun h => (⟨h.1, h.2.1⟩ : ∃ h : i < vs.length, vs[i] = t))))
        · simp only [Option.map_eq_some_iff] at hx
          obtain ⟨k, hk, _⟩ := hx
          obtain ⟨hlt, he⟩ := List.idxOf?_eq_some_iff.1 hk |> fun h => (⟨h.1, h.2.1⟩ : ∃ h : k < ts.length, ts[k] = some t)
          exact (h.tok k t (by rw [List.getElem?_eq_getElem hlt, he])).1
      have hy : yielded ops a.tmps j = match a.tmps[t]? with | some (.bool b) => some b | _ => none := by
        simp only [yielded, ht, Option.bind_some]
        rfl
      have hgt : a.tmps[t]? = some (a.tmps.getD t undef) := by
        rw [Array.getElem?_eq_getElem htN]; simp [Array.getD_eq_getD_getElem?, htN]
      simp only [Act.eval] at hv
      simp only [evGuard] at he
      split at he
      · rename_i c hcv
        rw [hcv] at hv
        injection he with he; subst he
        have := hv.inv_bool
        rw [this] at hgt
        simp [Region.wanted, hg, hy, hgt]
      · rename_i hcv
        rw [hcv] at hv
        injection he with he; subst he
        obtain ⟨us, vals, e, hl, _⟩ := hv.inv_tup
        rw [e] at hgt
        simp [Region.wanted, hg, hy, hgt]
      · cases he
    · cases hc
end
end Go.Proofs.YtnpmfpcppkdniaaDoor
