/-
  Regions whose order is open: the evaluation is sound for every order. Program-independent.
-/
import Derived.Test.YtnpmfpcppkdniaaDoorEv16b
namespace Go.Proofs.YtnpmfpcppkdniaaDoor
open Go
section
variable {P : Program} {E : Env} {N : Nat} {vs : List Nat} {base : Nat} {rd : Option Nat} {n : Nat}

/-- how an operation has been compiled -/
def CompAt (P : Program) (N : Nat) (vs : List Nat) (ops : Array Oper) (ts : List (Option Nat)) (i : Nat) (o : Oper) (mo : MO) : Prop :=
  compGuard vs ops (ts.take i) o.guard = some mo.guard ∧ mo.op = (compOp P (cxOf vs (ts.take i)) o.op).getD badOp ∧
  ((o.dst = none ∧ mo.dst = none ∧ ts[i]? = some none) ∨ (∃ t k, o.dst = some t ∧ vs.idxOf? t = some k ∧ mo.dst = some k ∧ ts[i]? = some none) ∨
    (∃ t, o.dst = some t ∧ vs.idxOf? t = none ∧ t < N ∧ mo.dst = none ∧ ts[i]? = some (some t)))

theorem idxOf?_some {α : Type} [BEq α] [LawfulBEq α] {l : List α} {a : α} {i : Nat} (h : l.idxOf? a = some i) : ∃ h : i < l.length, l[i] = a :=
  List.idxOf?_eq_some_iff.1 h |> fun h => ⟨h.1, h.2.1⟩

theorem cxOf_take {ts : List (Option Nat)} {i : Nat} (hone : ∀ j j' t : Nat, ts[j]? = some (some t) → ts[j']? = some (some t) → j = j') {x : Operand} {y : MX} (h : cxOf vs (ts.take i) x = some y) : cxOf vs ts x = some y := by
  cases x with
  | tmp t =>
    simp only [cxOf] at h ⊢
    cases hv : vs.idxOf? t with
    | some k => rw [hv] at h; exact h
    | none =>
      rw [hv] at h
      simp only [Option.map_eq_some_iff] at h ⊢
      obtain ⟨j, hj, rfl⟩ := h
      obtain ⟨hlt, he⟩ := idxOf?_some hj
      have hlt' : j < ts.length := by simp at hlt; omega
      have he' : ts[j]? = some (some t) := by rw [List.getElem?_eq_getElem hlt']; simpa using he
      cases hx : ts.idxOf? (some t) with
      | none =>
        rw [List.idxOf?_eq_none_iff] at hx
        exact absurd (List.mem_of_getElem? he') hx
      | some j' =>
        obtain ⟨h1, h2⟩ := idxOf?_some hx
        have : j' = j := hone j' j t (by rw [List.getElem?_eq_getElem h1, h2]) he'
        subst this
        exact ⟨_, rfl, rfl⟩
  | _ => exact h
theorem compGuard_take {ts : List (Option Nat)} {i : Nat} (hone : ∀ j j' t : Nat, ts[j]? = some (some t) → ts[j']? = some (some t) → j = j') {ops : Array Oper} {gd : Option (Nat × Bool)} {g : Option (MX × Bool)} (h : compGuard vs ops (ts.take i) gd = some g) : compGuard vs ops ts gd = some g := by
  unfold compGuard at h ⊢
  split at h
  · exact h
  · split at h
    · rename_i t ht
      simp only [Option.map_eq_some_iff] at h ⊢
      obtain ⟨x, hx, h2⟩ := h
      exact ⟨x, cxOf_take hone hx, h2⟩
    · cases h

/-- the list that the region's operations leave of slots; or its evaluation comes to nothing -/
theorem compOps_spec {ops : Array Oper} : ∀ (rest : List Oper) (ts : List (Option Nat)), (∀ j j' t : Nat, ts[j]? = some (some t) → ts[j']? = some (some t) → j = j') → (∀ j t : Nat, ts[j]? = some (some t) → t < N ∧ t ∉ vs) →
    (∃ tf, tf.take ts.length = ts ∧ tf.length = ts.length + rest.length ∧ (∀ j j' t : Nat, tf[j]? = some (some t) → tf[j']? = some (some t) → j = j') ∧ (∀ j t : Nat, tf[j]? = some (some t) → t < N ∧ t ∉ vs) ∧
      (compOps P N vs ops rest ts).length = rest.length ∧ ∀ (k : Nat) (o : Oper), rest[k]? = some o → ∃ mo, (compOps P N vs ops rest ts)[k]? = some mo ∧ CompAt P N vs ops tf (ts.length + k) o mo) ∨
    ∀ σ T A, evOps E (compOps P N vs ops rest ts) σ T A = none
  | [], ts, h1, h2 => .inl ⟨ts, by simp, by simp, h1, h2, rfl, fun k o h => by simp at h⟩
  | o :: rest, ts, h1, h2 => by
    have hbad : ∀ σ T A, evOps E [⟨none, badOp, none⟩] σ T A = none := fun σ T A => by simp [evOps, evGuard, evStep, badOp, evOp, evX, evUn]
    have step : ∀ (d : Option Nat) (m : MOp) (gd : Option (MX × Bool)) (x : Option Nat), compGuard vs ops ts o.guard = some gd → m = (compOp P (cxOf vs ts) o.op).getD badOp →
        compOps P N vs ops (o :: rest) ts = ⟨d, m, gd⟩ :: compOps P N vs ops rest (ts ++ [x]) →
        ((o.dst = none ∧ d = none ∧ x = none) ∨ (∃ t k, o.dst = some t ∧ vs.idxOf? t = some k ∧ d = some k ∧ x = none) ∨ (∃ t, o.dst = some t ∧ vs.idxOf? t = none ∧ t < N ∧ d = none ∧ x = some t)) → (∀ t, x = some t → some t ∉ ts ∧ t < N ∧ t ∉ vs) →
        ((∃ tf, tf.take ts.length = ts ∧ tf.length = ts.length + (o :: rest).length ∧ (∀ j j' t : Nat, tf[j]? = some (some t) → tf[j']? = some (some t) → j = j') ∧ (∀ j t : Nat, tf[j]? = some (some t) → t < N ∧ t ∉ vs) ∧
          (compOps P N vs ops (o :: rest) ts).length = (o :: rest).length ∧ ∀ (k : Nat) (o' : Oper), (o :: rest)[k]? = some o' → ∃ mo, (compOps P N vs ops (o :: rest) ts)[k]? = some mo ∧ CompAt P N vs ops tf (ts.length + k) o' mo) ∨
          ∀ σ T A, evOps E (compOps P N vs ops (o :: rest) ts) σ T A = none) := by
      intro d m gd x hgd hm heq hdst hx
      have key : ∀ (j : Nat) (u : Nat), (ts ++ [x])[j]? = some (some u) → (ts[j]? = some (some u) ∧ j < ts.length) ∨ (j = ts.length ∧ x = some u) := fun j u hj => by
        rw [List.getElem?_append] at hj
        split at hj
        · rename_i hlt; exact .inl ⟨hj, hlt⟩
        · have : j - ts.length = 0 ∨ j - ts.length ≠ 0 := by omega
          rcases this with h0 | h0
          · rw [h0] at hj; simp at hj; exact .inr ⟨by omega, hj⟩
          · rw [List.getElem?_eq_none (by simp; omega)] at hj; cases hj
      have h1' : ∀ j j' t : Nat, (ts ++ [x])[j]? = some (some t) → (ts ++ [x])[j']? = some (some t) → j = j' := fun j j' t hj hj' => by
        rcases key j t hj with ⟨a1, a2⟩ | ⟨a1, a2⟩ <;> rcases key j' t hj' with ⟨b1, b2⟩ | ⟨b1, b2⟩
        · exact h1 j j' t a1 b1
        · exact absurd (List.mem_of_getElem? a1) (hx t b2).1
        · exact absurd (List.mem_of_getElem? b1) (hx t a2).1
        · omega
      have h2' : ∀ j t : Nat, (ts ++ [x])[j]? = some (some t) → t < N ∧ t ∉ vs := fun j t hj => by
        rcases key j t hj with ⟨a1, a2⟩ | ⟨a1, a2⟩
        · exact h2 j t a1
        · exact (hx t a2).2
      rcases compOps_spec (ops := ops) rest (ts ++ [x]) h1' h2' with ⟨tf, k1, k2, k3, k4, k5, k6⟩ | hn
      · refine .inl ⟨tf, ?_, by rw [k2]; simp; omega, k3, k4, by rw [heq]; simp [k5], fun k o' hk => ?_⟩
        · have := congrArg (List.take ts.length) k1
          simpa [List.take_take] using this
        · rw [heq]
          cases k with
          | zero =>
            simp only [List.getElem?_cons_zero, Option.some.injEq] at hk
            subst hk
            have hx0 : tf[ts.length]? = some x := by
              have := congrArg (fun l => l[ts.length]?) k1
              simp only [List.length_append, List.length_cons, List.length_nil, List.getElem?_take_of_lt (Nat.lt_succ_self _)] at this
              simpa using this
            have htk : tf.take ts.length = ts := by
              have := congrArg (List.take ts.length) k1
              rw [List.take_take, Nat.min_eq_left (by simp)] at this
              simpa using this
            refine ⟨_, rfl, ?_, ?_, ?_⟩
            · rw [Nat.add_zero, htk]; exact hgd
            · rw [Nat.add_zero, htk]; exact hm
            · rw [Nat.add_zero, hx0]
              rcases hdst with ⟨a, b, rfl⟩ | ⟨t, k, a, b, c, rfl⟩ | ⟨t, a, b, c, d, rfl⟩
              · exact .inl ⟨a, b, rfl⟩
              · exact .inr (.inl ⟨t, k, a, b, c, rfl⟩)
              · exact .inr (.inr ⟨t, a, b, c, d, rfl⟩)
          | succ k =>
            obtain ⟨mo, l1, l2⟩ := k6 k o' (by simpa using hk)
            refine ⟨mo, by simpa using l1, ?_⟩
            have e : (ts ++ [x]).length + k = ts.length + (k + 1) := by simp; omega
            rw [e] at l2
            exact l2
      · refine .inr fun σ T A => ?_
        rw [heq]
        simp only [evOps, hn]
        repeat' split
        all_goals rfl
    cases hgd : compGuard vs ops ts o.guard with
    | none => exact .inr fun σ T A => by simp only [compOps, hgd]; exact hbad σ T A
    | some gd =>
      cases hd : o.dst with
      | none => exact step none _ gd none hgd rfl (by simp only [compOps, hgd, hd]) (.inl ⟨hd, rfl, rfl⟩) (fun t h => by cases h)
      | some t =>
        cases hv : vs.idxOf? t with
        | some i => exact step (some i) _ gd none hgd rfl (by simp only [compOps, hgd, hd, hv]) (.inr (.inl ⟨t, i, hd, hv, rfl, rfl⟩)) (fun t h => by cases h)
        | none =>
          by_cases hc : t < N ∧ ¬ (some t) ∈ ts
          · refine step none _ gd (some t) hgd rfl (by simp only [compOps, hgd, hd, hv]; rw [if_pos hc]) (.inr (.inr ⟨t, hd, hv, hc.1, rfl, rfl⟩)) (fun t' h => ?_)
            injection h with h; subst h
            exact ⟨hc.2, hc.1, by simpa [List.idxOf?_eq_none_iff] using hv⟩
          · refine .inr fun σ T A => ?_
            simp only [compOps, hgd, hd, hv]
            rw [if_neg hc]
            exact hbad σ T A

/-! ### slots written in any order -/

theorem getD_setL {α : Type} {l : List α} {i j : Nat} {x d : α} (h : i ≠ j) : (l.set i x).getD j d = l.getD j d := by
  simp [List.getD_eq_getElem?_getD, List.getElem?_set_ne h]
theorem getD_setL_self {α : Type} {l : List α} {i : Nat} {x d : α} (h : i < l.length) : (l.set i x).getD i d = x := by
  simp [List.getD_eq_getElem?_getD, List.getElem?_set_self h]

theorem RRel.setVarS {w : World} {OK : Nat → Prop} {g : Ghost} {σ T : List AV} {ts : List (Option Nat)} {A : Arena} {a : Act} (hvn : vs.Nodup) (hvl : ∀ t ∈ vs, t < N) (h : RRel E N vs base w OK g σ T ts A a) {k t i : Nat} (hk : k < vs.length) (ht : vs[k] = t) (hi : ts[i]? = some none)
    {v : Value} {x : AV} (hx : VRel w OK g v x) (y : AV) : RRel E N vs base w OK g (σ.set k x) (T.set i y) ts A (a.put (some t) v) where
  size := by simp [Act.put, h.size]
  defers := h.defers
  low := h.low
  len := by simp [h.len]
  vars m hm := by
    have hlt : t < N := hvl t (ht ▸ List.getElem_mem hk)
    by_cases e : k = m
    · subst e
      rw [ht]
      simp only [Act.put, getD_set_self _ _ (by rw [h.size]; exact hlt), getD_setL_self (show k < σ.length by rw [h.len]; exact hk), hx]
    · have hne : t ≠ vs[m] := fun e2 => e (nodup_inj hvn hk hm (by rw [ht, e2]))
      simp only [Act.put, getD_set_ne _ _ hne, getD_setL e]
      exact h.vars m hm
  arena := h.arena
  glob := h.glob
  tlen := by simp [h.tlen]
  temps j u hj := by
    have hne : t ≠ u := fun e => (h.tok j u hj).2 (e ▸ ht ▸ List.getElem_mem hk)
    have hij : i ≠ j := fun e => by subst e; rw [hi] at hj; cases hj
    simp only [Act.put, getD_set_ne _ _ hne, getD_setL hij]
    exact h.temps j u hj
  tok := h.tok
  tone := h.tone
theorem RRel.setNoneS {w : World} {OK : Nat → Prop} {g : Ghost} {σ T : List AV} {ts : List (Option Nat)} {A : Arena} {a : Act} (h : RRel E N vs base w OK g σ T ts A a) {i : Nat} (hi : ts[i]? = some none) (v : Value) (y : AV) :
    RRel E N vs base w OK g σ (T.set i y) ts A (a.put none v) :=
  { size := h.size, defers := h.defers, low := h.low, len := h.len, vars := h.vars, arena := h.arena, glob := h.glob, tlen := by simp [h.tlen],
    temps := fun j u hj => by
      have hij : i ≠ j := fun e => by subst e; rw [hi] at hj; cases hj
      rw [getD_setL hij]
      exact h.temps j u hj
    tok := h.tok, tone := h.tone }
theorem RRel.setTmpS {w : World} {OK : Nat → Prop} {g : Ghost} {σ T : List AV} {ts : List (Option Nat)} {A : Arena} {a : Act} (h : RRel E N vs base w OK g σ T ts A a) {i t : Nat} (hi : ts[i]? = some (some t)) {v : Value} {x : AV} (hx : VRel w OK g v x) :
    RRel E N vs base w OK g σ (T.set i x) ts A (a.put (some t) v) := by
  obtain ⟨htN, htv⟩ := h.tok i t hi
  have hv : ∀ k (hk : k < vs.length), VRel w OK g ((a.put (some t) v).tmps.getD vs[k] undef) (σ.getD k .undef) := fun k hk => by
    have hne : t ≠ vs[k] := fun e => htv (e ▸ List.getElem_mem hk)
    simp only [Act.put, getD_set_ne _ _ hne]
    exact h.vars k hk
  have ht : ∀ j u : Nat, ts[j]? = some (some u) → VRel w OK g ((a.put (some t) v).tmps.getD u undef) ((T.set i x).getD j .undef) := fun j u hj => by
    by_cases e : i = j
    · subst e
      rw [hi] at hj
      injection hj with hj; injection hj with hj; subst hj
      simp only [Act.put, getD_set_self _ _ (show t < a.tmps.size by rw [h.size]; exact htN)]
      rw [getD_setL_self (by rw [h.tlen]; exact (List.getElem?_eq_some_iff.1 hi).1)]
      exact hx
    · have hne : t ≠ u := fun e2 => e (h.tone i j t hi (e2 ▸ hj))
      simp only [Act.put, getD_set_ne _ _ hne, getD_setL e]
      exact h.temps j u hj
  exact { size := by simp [Act.put, h.size], defers := h.defers, low := h.low, len := h.len, arena := h.arena, glob := h.glob, tlen := by simp [h.tlen], vars := hv, temps := ht, tok := h.tok, tone := h.tone }

/-- one operation, whenever -/
theorem opAt_sound (hE : EnvSound P E) (hvn : vs.Nodup) (hvl : ∀ t ∈ vs, t < N) {ops : Array Oper} {ts : List (Option Nat)} {mos : List MO} {i : Nat} {o : Oper} {mo : MO} (ho : ops[i]? = some o) (hmo : mos[i]? = some mo) (hc : CompAt P N vs ops ts i o mo)
    {w : World} {OK : Nat → Prop} {g : Ghost} {σ T : List AV} {A : Arena} {a : Act} {s1 : St} {Q : Exit → Act → World → Prop} {K : Act → World → Prop} (h : RRel E N vs base w OK g σ T ts A a) (he : evAt E mos i (σ, T, A) = some s1)
    (hK : ∀ a1 w1 OK1 g1, RRel E N vs base w1 OK1 g1 s1.1 s1.2.1 ts s1.2.2 a1 → Ext w OK g w1 OK1 g1 → K a1 w1) : wpOpIn (FW rd) n P ops Q i K a w := by
  obtain ⟨c1, c2, c3⟩ := hc
  have hgd := compGuard_take h.tone c1
  simp only [evAt, hmo, Option.map_eq_some_iff] at he
  obtain ⟨⟨x, A1⟩, he, rfl⟩ := he
  have put : ∀ (v : Value) w1 OK1 g1, VRel w1 OK1 g1 v x → RRel E N vs base w1 OK1 g1 σ T ts A1 a → RRel E N vs base w1 OK1 g1 (setVar σ mo.dst x) (T.set i x) ts A1 (a.put o.dst v) := by
    intro v w1 OK1 g1 hv hr
    rcases c3 with ⟨d1, d2, d3⟩ | ⟨t, k, d1, d2, d3, d4⟩ | ⟨t, d1, d2, d3, d4, d5⟩
    · rw [d1, d2]; exact hr.setNoneS d3 v x
    · rw [d1, d3]
      obtain ⟨hlt, het⟩ := idxOf?_some d2
      exact hr.setVarS hvn hvl hlt het d4 hv x
    · rw [d1, d4]; exact hr.setTmpS d5 hv
  unfold wpOpIn
  simp only [ho]
  unfold evRes1 at he
  split at he
  · rename_i hgt
    rw [h.guard hvl hgd hgt, if_pos rfl]
    cases hm : compOp P (cxOf vs (ts.take i)) o.op with
    | none =>
      rw [hm] at c2
      simp only [Option.getD_none] at c2
      rw [c2] at he
      rcases evStep_bad (E := E) (evX E σ T) A with h0 | ⟨x0, _, h0⟩
      · rw [h0] at he; cases he
      · exact absurd rfl h0
    | some m =>
      rw [hm] at c2
      simp only [Option.getD_some] at c2
      rw [c2] at he
      exact step_soundG hE (fun x y hy => h.eval x y (cxOf_take h.tone hy)) h.arena h.glob hm he (fun v w' OK' g' k1 k2 k3 => hK _ _ _ _ (put v w' OK' g' k1 (h.ext k3 k2)) k3)
  · rename_i hgt
    rw [h.guard hvl hgd hgt]
    simp only [Option.some.injEq, Prod.mk.injEq] at he
    obtain ⟨rfl, rfl⟩ := he
    refine ⟨fun f _ => fw_fn rd f, hK _ _ _ _ (put undef w OK g ?_ h) (Ext.refl _ _ _)⟩
    exact .tup _ _ [] rfl (fun _ => undef) (fun i hi => by simp at hi) (fun i hi => by simp at hi)
  · cases he

/-! ### the text's order, and any other -/

theorem foldl_bits (b : Array Nat) (x : Nat) : ∀ (l : List Edge) (s : Nat), (l.foldl (fun s e => if Region.binds .any e then s ||| 2 ^ e.on ||| b.getD e.on 0 else s) s).testBit x = true →
    s.testBit x = true ∨ ∃ e ∈ l, Region.binds .any e = true ∧ (e.on = x ∨ (b.getD e.on 0).testBit x = true)
  | [], s, h => .inl h
  | e :: l, s, h => by
    rcases foldl_bits b x l _ h with h1 | ⟨e', h1, h2⟩
    · simp only at h1
      cases hb : Region.binds .any e with
      | true =>
        rw [hb, if_pos rfl] at h1
        simp only [Nat.testBit_or, Bool.or_eq_true] at h1
        rcases h1 with (h1 | h1) | h1
        · exact .inl h1
        · rw [Nat.testBit_two_pow] at h1
          exact .inr ⟨e, by simp, hb, .inl (by simpa using h1)⟩
        · exact .inr ⟨e, by simp, hb, .inr h1⟩
      | false =>
        rw [hb] at h1
        exact .inl h1
    · exact .inr ⟨e', by simp [h1], h2⟩

/-- what is still to be done, in the text's order -/
def remain (m : Nat) (listed : Array Bool) : List Nat := (List.range m).filter fun i => !listed.getD i true

theorem range_split : ∀ (m i : Nat), i < m → ∃ r2, List.range m = List.range i ++ i :: r2 ∧ ∀ k ∈ r2, i < k
  | m + 1, i, h => by
    rw [List.range_succ]
    rcases Nat.lt_or_ge i m with h1 | h1
    · obtain ⟨r2, e, h2⟩ := range_split m i h1
      refine ⟨r2 ++ [m], by rw [e]; simp, fun k hk => ?_⟩
      rcases List.mem_append.1 hk with h3 | h3
      · exact h2 k h3
      · simp at h3; omega
    · obtain rfl : i = m := by omega
      exact ⟨[], rfl, fun k hk => by cases hk⟩

theorem remain_split {m i : Nat} {listed : Array Bool} (hs : listed.size = m) (hi : i < m) (hu : listed.getD i true = false) :
    ∃ r1 r2, remain m listed = r1 ++ i :: r2 ∧ remain m (listed.setIfInBounds i true) = r1 ++ r2 ∧ (∀ k ∈ r1, k < i ∧ listed.getD k true = false) := by
  obtain ⟨r2, e, h2⟩ := range_split m i hi
  have hne : ∀ k, k ≠ i → (listed.setIfInBounds i true).getD k true = listed.getD k true := fun k hk => by
    simp [Array.getD_eq_getD_getElem?, Array.getElem?_setIfInBounds_ne (Ne.symm hk)]
  have hself : (listed.setIfInBounds i true).getD i true = true := by
    simp [Array.getD_eq_getD_getElem?, Array.getElem?_setIfInBounds_self_of_lt (show i < listed.size by omega)]
  refine ⟨(List.range i).filter fun k => !listed.getD k true, r2.filter fun k => !listed.getD k true, ?_, ?_, fun k hk => ?_⟩
  · unfold remain
    rw [e, List.filter_append, List.filter_cons_of_pos (by simp [hu])]
  · unfold remain
    rw [e, List.filter_append, List.filter_cons_of_neg (by simp [hself])]
    congr 1
    · exact List.filter_congr fun k hk => by rw [hne k (by simp at hk; omega)]
    · exact List.filter_congr fun k hk => by rw [hne k (by have := h2 k hk; omega)]
  · simp only [List.mem_filter, List.mem_range, Bool.not_eq_true'] at hk
    exact hk

theorem any_sound (hE : EnvSound P E) (hvn : vs.Nodup) (hvl : ∀ t ∈ vs, t < N) {pu : List FuncId} (hpu : PureIn E pu) {ops : Array Oper} {ts : List (Option Nat)} {mos : List MO} (hof : orderFree pu ops mos (Region.before ops) = true)
    (hcomp : ∀ (k : Nat) (o : Oper), ops[k]? = some o → ∃ mo, mos[k]? = some mo ∧ CompAt P N vs ops ts k o mo) {Q : Exit → Act → World → Prop} {w0 : World} {OK0 : Nat → Prop} {g0 : Ghost} {s' : St}
    (hQ : ∀ a w OK g, SRel E N vs base w OK g s'.1 s'.2.2 a → Ext w0 OK0 g0 w OK g → Q .normal a w) :
    ∀ (fuel : Nat) (listed : Array Bool) (σ T : List AV) (A : Arena) (a : Act) (w : World) (OK : Nat → Prop) (g : Ghost), listed.size = ops.size → (remain ops.size listed).length ≤ fuel →
      (∀ j, listed.getD j false = true → ∀ x, ((Region.before ops).getD j 0).testBit x = true → listed.getD x false = true) →
      RRel E N vs base w OK g σ T ts A a → Ext w0 OK0 g0 w OK g → evOrd E mos (remain ops.size listed) (σ, T, A) = some s' → wpAnyIn (FW rd) n P .any ops Q fuel listed a w := by
  obtain ⟨b, hb⟩ : ∃ b, b = Region.before ops := ⟨_, rfl⟩
  rw [← hb] at hof
  rw [← hb]
  simp only [orderFree, Bool.and_eq_true, beq_iff_eq, List.all_eq_true, List.mem_range] at hof
  obtain ⟨hlen, hof⟩ := hof
  -- what the check says of one operation
  have chk : ∀ j, j < ops.size → ∃ o, ops[j]? = some o ∧ b.getD j 0 = afterBits b o ∧ (∀ e ∈ o.after.toList, Region.binds .any e = true → e.on < j) ∧
      ∀ i, i < j → (b.getD j 0).testBit i = true ∨ ∃ x y, mos[i]? = some x ∧ mos[j]? = some y ∧ free2 pu i j x y = true := by
    intro j hj
    have h := hof j hj
    split at h
    · cases h
    · rename_i o ho
      simp only [Bool.and_eq_true, beq_iff_eq, List.all_eq_true, Bool.or_eq_true, Bool.not_eq_true', List.mem_range] at h
      refine ⟨o, ho, h.1.1, fun e he hbd => ?_, fun i hi => ?_⟩
      · rcases h.1.2 e he with h1 | h1
        · rw [hbd] at h1; cases h1
        · exact Nat.blt_eq ▸ h1
      · rcases h.2 i hi with h1 | h1
        · exact .inl h1
        · split at h1
          · rename_i x y hx hy; exact .inr ⟨x, y, hx, hy, h1⟩
          · cases h1
  intro fuel
  induction fuel with
  | zero =>
    intro listed σ T A a w OK g hsz hle hdc h hx he
    have hnil : remain ops.size listed = [] := List.length_eq_zero_iff.1 (by omega)
    have hall : ∀ i, i < ops.size → listed.getD i true = true := fun i hi => by
      cases hl : listed.getD i true with
      | true => rfl
      | false =>
        exfalso
        have : i ∈ remain ops.size listed := by simp only [remain, List.mem_filter, List.mem_range]; exact ⟨hi, by simp [hl]⟩
        rw [hnil] at this; cases this
    rw [hnil] at he
    simp only [evOrd, Option.some.injEq] at he
    subst he
    refine ⟨?_, hQ a w OK g h.toSRel hx⟩
    unfold Region.ready
    rw [List.filter_eq_nil_iff]
    intro i hi
    simp [hall i (by simpa using hi)]
  | succ fuel ih =>
    intro listed σ T A a w OK g hsz hle hdc h hx he
    refine ⟨fun hr => ?_, fun i hi => ?_⟩
    · -- nothing is ready: nothing is left
      cases hrem : remain ops.size listed with
      | nil =>
        rw [hrem] at he
        simp only [evOrd, Option.some.injEq] at he
        subst he
        exact hQ a w OK g h.toSRel hx
      | cons i r =>
        exfalso
        have hmem : i ∈ remain ops.size listed := by rw [hrem]; simp
        simp only [remain, List.mem_filter, List.mem_range, Bool.not_eq_true'] at hmem
        obtain ⟨r1, r2, e1, _, e3⟩ := remain_split hsz hmem.1 hmem.2
        have hr1 : r1 = [] := by
          cases r1 with
          | nil => rfl
          | cons k r1 =>
            rw [hrem] at e1
            simp only [List.cons_append, List.cons.injEq] at e1
            have := e3 k (by simp)
            omega
        have hlow : ∀ k, k < i → listed.getD k false = true := fun k hk => by
          cases hl : listed.getD k true with
          | true =>
            have : k < listed.size := by omega
            simp [Array.getD_eq_getD_getElem?, this] at hl ⊢
            exact hl
          | false =>
            exfalso
            have hk' : k ∈ remain ops.size listed := by simp only [remain, List.mem_filter, List.mem_range]; exact ⟨by omega, by simp [hl]⟩
            rw [e1, hr1] at hk'
            obtain ⟨s1, s2, f1, _, f3⟩ := remain_split (i := k) hsz (by omega) hl
            rw [f1] at e1
            cases s1 with
            | nil => rw [hr1] at e1; simp at e1; omega
            | cons z s1 =>
              rw [hr1] at e1
              simp at e1
              have := f3 z (by simp)
              omega
        obtain ⟨o, ho, _, hedge, _⟩ := chk i hmem.1
        have : i ∈ Region.ready .any ops listed := by
          rw [mem_ready]
          refine ⟨hmem.2, o, ho, fun e he hbd => ?_⟩
          exact hlow _ (hedge e (by simpa using he) hbd)
        rw [hr] at this; cases this
    · obtain ⟨hun, o, ho, hall⟩ := mem_ready.1 hi
      have hil : i < ops.size := (Array.getElem?_eq_some_iff.1 ho).1
      obtain ⟨r1, r2, e1, e2, e3⟩ := remain_split hsz hil hun
      obtain ⟨o', ho', hbits, hedge, _⟩ := chk i hil
      obtain rfl : o = o' := Option.some.inj (ho.symm.trans ho')
      -- what comes ahead of it is listed
      have hanc : ∀ x, (b.getD i 0).testBit x = true → listed.getD x false = true := fun x hx => by
        rw [hbits] at hx
        unfold afterBits at hx
        rcases foldl_bits b x _ _ hx with h1 | ⟨e, he, hbd, h1⟩
        · simp at h1
        · have hl := hall e (by simpa using he) hbd
          rcases h1 with rfl | h1
          · exact hl
          · exact hdc _ hl x h1
      have hfree : ∀ k ∈ r1, k ≠ i ∧ ∃ x y, mos[k]? = some x ∧ mos[i]? = some y ∧ free2 pu k i x y = true := fun k hk => by
        obtain ⟨hki, hku⟩ := e3 k hk
        refine ⟨by omega, ?_⟩
        obtain ⟨_, _, _, _, h4⟩ := chk i hil
        rcases h4 k hki with h5 | h5
        · have := hanc k h5
          have hkl : k < listed.size := by omega
          simp [Array.getD_eq_getD_getElem?, hkl] at this hku
          rw [this] at hku; cases hku
        · exact h5
      rw [e1] at he
      have he' := toFront hpu r1 _ _ hfree he
      simp only [evOrd, Option.bind_eq_some_iff] at he'
      obtain ⟨s1, hs1, hs2⟩ := he'
      obtain ⟨mo, hmo, hca⟩ := hcomp i o ho
      refine opAt_sound hE hvn hvl ho hmo hca h hs1 (fun a1 w1 OK1 g1 k1 k2 => ?_)
      refine ih _ s1.1 s1.2.1 s1.2.2 a1 w1 OK1 g1 (by simpa using hsz) ?_ ?_ k1 (hx.trans k2) ?_
      · rw [e1] at hle; rw [e2]; simp at hle ⊢; omega
      · intro j hj x hbx
        by_cases hji : j = i
        · subst hji
          have := hanc x hbx
          by_cases hxi : x = j
          · subst hxi
            exact hj
          · simpa [Array.getD_eq_getD_getElem?, Array.getElem?_setIfInBounds_ne (Ne.symm hxi)] using this
        · have hj' : listed.getD j false = true := by simpa [Array.getD_eq_getD_getElem?, Array.getElem?_setIfInBounds_ne (Ne.symm hji)] using hj
          have := hdc j hj' x hbx
          by_cases hxi : x = i
          · subst hxi
            simp [Array.getD_eq_getD_getElem?, Array.getElem?_setIfInBounds_self_of_lt (show x < listed.size by omega)]
          · simpa [Array.getD_eq_getD_getElem?, Array.getElem?_setIfInBounds_ne (Ne.symm hxi)] using this
      · rw [e2]; exact hs2

theorem evX_congrT {σ T T' : List AV} (h : ∀ j, T.getD j .undef = T'.getD j .undef) : evX E σ T = evX E σ T' := by
  funext x
  cases x with
  | tmp j => exact h j
  | _ => rfl

/-- the text's order -/
theorem evOrd_of_evOps (mos : List MO) : ∀ (rest : List MO) (k : Nat) (σ T : List AV) (A : Arena) (σ' : List AV) (A' : Arena), mos.drop k = rest → T.length = k → evOps E rest σ T A = some (σ', A') →
    ∃ T', evOrd E mos (List.range' k rest.length) (σ, T ++ List.replicate rest.length AV.undef, A) = some (σ', T', A')
  | [], k, σ, T, A, σ', A', _, _, h => by
    simp only [evOps, Option.some.injEq, Prod.mk.injEq] at h
    obtain ⟨rfl, rfl⟩ := h
    exact ⟨_, rfl⟩
  | o :: rest, k, σ, T, A, σ', A', hd, hT, h => by
    have hk : mos[k]? = some o := by
      have := congrArg (fun l => l[0]?) hd
      simpa [List.getElem?_drop] using this
    have hd' : mos.drop (k + 1) = rest := by
      have := congrArg List.tail hd
      simpa [List.tail_drop] using this
    have hX : evX E σ (T ++ List.replicate (o :: rest).length AV.undef) = evX E σ T := evX_congrT fun j => by
      rw [List.getD_eq_getElem?_getD, List.getD_eq_getElem?_getD, List.getElem?_append]
      split
      · rfl
      · rename_i hge
        rw [List.getElem?_eq_none (l := T) (by omega), List.getElem?_replicate]
        split <;> rfl
    have hset : ∀ v : AV, (T ++ List.replicate (o :: rest).length AV.undef).set k v = (T ++ [v]) ++ List.replicate rest.length AV.undef := fun v => by
      rw [List.set_append, if_neg (by omega), hT, Nat.sub_self, List.length_cons, List.replicate_succ, List.set_cons_zero]
      simp
    have fin : ∀ v A1, evRes1 E o (evX E σ T) A = some (v, A1) → evOps E rest (setVar σ o.dst v) (T ++ [v]) A1 = some (σ', A') →
        ∃ T', evOrd E mos (List.range' k (o :: rest).length) (σ, T ++ List.replicate (o :: rest).length AV.undef, A) = some (σ', T', A') := by
      intro v A1 h1 h2
      obtain ⟨T', h3⟩ := evOrd_of_evOps mos rest (k + 1) _ (T ++ [v]) A1 σ' A' hd' (by simp [hT]) h2
      refine ⟨T', ?_⟩
      rw [List.length_cons, List.range'_succ]
      simp only [evOrd, Option.bind_eq_some_iff]
      refine ⟨_, by simp only [evAt, hk]; rw [← List.length_cons (a := o), hX, h1]; rfl, ?_⟩
      rw [← hset v] at h3
      exact h3
    simp only [evOps] at h
    split at h
    · rename_i hg
      split at h
      · rename_i v A1 hst
        exact fin v A1 (by simp only [evRes1, hg, hst]) h
      · cases h
    · rename_i hg
      exact fin (.tup []) A (by simp only [evRes1, hg]) h
    · cases h

/-- a region whose order is open -/
theorem regionAny_sound (hE : EnvSound P E) (hvn : vs.Nodup) (hvl : ∀ t ∈ vs, t < N) {pu : List FuncId} (hpu : PureIn E pu) (hm : P.follows .mixedOrders = true) {id : Nat} {ops : Array Oper}
    (hof : orderFree pu ops (compOps P N vs ops ops.toList []) (Region.before ops) = true) {σ σ' : List AV} {A A' : Arena} {a : Act} {w : World} {OK : Nat → Prop} {g : Ghost} (h : SRel E N vs base w OK g σ A a)
    (he : evOps E (compOps P N vs ops ops.toList []) σ [] A = some (σ', A')) {Q : Exit → Act → World → Prop}
    (hQ : ∀ a1 w1 OK1 g1, SRel E N vs base w1 OK1 g1 σ' A' a1 → Ext w OK g w1 OK1 g1 → Q .normal a1 w1) : (Code.region id ops true).wpIn (FW rd) n P Q a w := by
  refine wpIn_region_any hm ?_
  rcases compOps_spec (P := P) (E := E) (N := N) (vs := vs) (ops := ops) ops.toList [] (fun j j' t h => by simp at h) (fun j t h => by simp at h) with ⟨tf, _, k2, k3, k4, k5, k6⟩ | hn
  · obtain ⟨T', h1⟩ := evOrd_of_evOps (E := E) (compOps P N vs ops ops.toList []) (compOps P N vs ops ops.toList []) 0 σ [] A σ' A' rfl rfl he
    have hrem : remain ops.size (Array.replicate ops.size false) = List.range ops.size := by
      unfold remain
      rw [List.filter_eq_self]
      intro i hi
      have : i < ops.size := by simpa using hi
      simp [Array.getD_eq_getD_getElem?, this]
    have hD := h.arena.drew (w.drawn + 1)
    have hX := Ext.drew w OK g (w.drawn + 1)
    have h' := h.ext hX hD
    rw [k5, ← List.range_eq_range', List.nil_append, show ops.toList.length = ops.size by simp] at h1
    refine any_sound (base := base) (s' := (σ', T', A')) hE hvn hvl hpu hof (ts := tf) (fun k o hk => by
      obtain ⟨mo, l1, l2⟩ := k6 k o (by simpa using hk)
      exact ⟨mo, l1, by simpa using l2⟩) (w0 := w) (OK0 := OK) (g0 := g) (fun a1 w1 OK1 g1 m1 m2 => hQ a1 w1 OK1 g1 m1 m2) ops.size _ σ (List.replicate ops.size .undef) A a _ OK g (by simp) (by rw [hrem]; simp) ?_ ?_ hX ?_
    · intro j hj
      exfalso
      by_cases hjs : j < ops.size <;> simp [Array.getD_eq_getD_getElem?, hjs] at hj
    · have hun : ∀ j, (List.replicate ops.size AV.undef).getD j .undef = .undef := fun j => by
        rw [List.getD_eq_getElem?_getD, List.getElem?_replicate]; split <;> rfl
      exact { h' with tlen := (by simp [k2]), temps := (fun j t hj => by rw [hun]; exact .undef _ _), tok := k4, tone := k3 }
    · rw [hrem]; exact h1
  · rw [hn] at he; cases he
end
end Go.Proofs.YtnpmfpcppkdniaaDoor
