/-
  Loops over functions: the loop itself; the evaluation of code is sound. Program-independent.
-/
import Derived.Test.YtnpmfpcppkdniaaDoorEv17b
namespace Go.Proofs.YtnpmfpcppkdniaaDoor
open Go
section
variable {P : Program} {E : Env} {N : Nat} {vs : List Nat} {base : Nat} {rd : Option Nat} {n : Nat}

theorem rangeFunc_sound (hE : EnvSound P E) (hvn : vs.Nodup) (hvl : ∀ t ∈ vs, t < N) {f : Operand} {ps : Array Tmp} {asg bd : Code} {z : MX} {is : List Nat} (hz : cxOf vs [] f = some z) (his : idxAll vs ps.toList = some is) {asgE bdE : List AV → Arena → Option Out}
    (ha : ∀ (l m : Nat) (σ : List AV) (A : Arena) (out : Out) (a : Act) (w : World) (OK : Nat → Prop) (g : Ghost), SRel E N vs 0 w OK g σ A a → asgE σ A = some out → asg.wpIn (FW (some l)) m P (OutOk E N vs 0 w OK g out) a w)
    (hb : ∀ (l m : Nat) (σ : List AV) (A : Arena) (out : Out) (a : Act) (w : World) (OK : Nat → Prop) (g : Ghost), SRel E N vs 0 w OK g σ A a → bdE σ A = some out → bd.wpIn (FW (some l)) m P (OutOk E N vs 0 w OK g out) a w)
    {σ : List AV} {A : Arena} {out : Out} {a : Act} {w : World} {OK : Nat → Prop} {g : Ghost} (hs : SRel E N vs base w OK g σ A a)
    (he : evR (fun (_ : Nat × Loop) => True) (fun x =>
      match E.callY (yieldH A.length x.1 x.2 σ is asgE bdE E.hand) (evX E σ [] z) [.func (.yield x.1) [] []] (A ++ [Ent.loop x.2 0]) with
      | some (_, A') => afterR A.length σ A'
      | none => none) = some out) :
    (Code.rangeFunc f ps asg bd).wpIn (FW none) n P (OutOk E N vs base w OK g out) a w := by
  refine wpIn_rangeFunc ?_
  intro fn hfn
  obtain ⟨r0, hr0⟩ : ∃ r0 : Loop, r0 = { state := .ready, pending := none, fn, tmps := a.tmps, params := ps, assign := asg, body := bd, defers := w.heap.size } := ⟨_, rfl⟩
  obtain ⟨hA1, hx1⟩ := hs.arena.alloc (.deferred (some []))
  have hD : (w.alloc (.deferred (some []))).heap[w.heap.size]? = some (.deferred (some [])) := World.alloc_heap_new w _
  obtain ⟨w1, hw1⟩ : ∃ w1, w1 = w.alloc (.deferred (some [])) := ⟨_, rfl⟩
  have hsz1 : w1.heap.size = w.heap.size + 1 := by rw [hw1]; simp
  rw [← hw1] at hA1 hx1 hD
  have hrec : recOf r0 0 = r0 := by rw [hr0]; rfl
  obtain ⟨hA2, hx2⟩ := hA1.push (w' := w1.alloc (.loop r0)) (.loop r0) rfl rfl rfl rfl (.loop r0 0) ⟨w.heap.size + 1, 0, 0, 0, 0⟩ hsz1.symm (fun g' _ _ hnew => ⟨_, rfl, rfl, by rw [hrec, ← hsz1]; exact hnew⟩)
  obtain ⟨w2, hw2⟩ : ∃ w2, w2 = w1.alloc (.loop r0) := ⟨_, rfl⟩
  obtain ⟨inc0, hinc0⟩ : ∃ i : Inc, i = ⟨w.heap.size + 1, 0, 0, 0, 0⟩ := ⟨_, rfl⟩
  rw [← hw2, ← hinc0] at hA2 hx2
  have hx := hx1.trans hx2
  have hg2 : g.push A.length inc0 A.length = [inc0] := by simp [Ghost.push]
  have hE0 := he
  have he := evR_spec he (w.heap.size + 1, r0) trivial
  simp only at he
  have hs2 := hs.ext hx hA2
  -- the yields
  have hyH : HSound P E.glob (⟨A.length, w.heap.size + 1, vs.map (a.tmps.getD · undef), σ⟩ :: E.ys) (yieldH A.length (w.heap.size + 1) r0 σ is asgE bdE E.hand) :=
    yieldH_sound hvn hvl (by rw [hr0]; exact ⟨rfl, rfl⟩) (by rw [hr0]) hs.size hs.len (by rw [hr0]; exact his) hE.hand (by rw [hr0]; exact ha _) (by rw [hr0]; exact hb _)
  have hI2 : IRel E.glob (⟨A.length, w.heap.size + 1, vs.map (a.tmps.getD · undef), σ⟩ :: E.ys) w2 OK (g.push A.length inc0) := by
    refine ⟨hs2.glob.1, fun y hy => ?_⟩
    rcases List.mem_cons.1 hy with rfl | hy
    · refine ⟨⟨inc0, hg2, by rw [hinc0], by rw [hinc0]⟩, ListRel.of_get (by simp [hs.len]) fun i h1 h2 => ?_⟩
      simp only [List.getElem_map]
      have := hs2.vars i (by simpa using h1)
      simpa [List.getD_eq_getElem?_getD, List.getElem?_eq_getElem h2] using this
    · exact hs2.glob.2 y hy
  split at he
  · rename_i v0 A' hcall
    have hrr : RRel E N vs base w2 OK (g.push A.length inc0) σ [] [] (A ++ [Ent.loop r0 0]) a := { hs2 with tlen := rfl, temps := fun j t hj => by simp at hj, tok := fun j t hj => by simp at hj, tone := fun j j' t hj => by simp at hj }
    have hfv := hrr.eval f z hz
    obtain ⟨d, fid, args', e1, e2, e3⟩ := hE.callY _ _ (fun y hy => List.mem_cons_of_mem _ hy) hyH _ _ _ _ _ hcall w2 OK _ _ [.func (.yield (w.heap.size + 1)) #[] #[]] hA2 hI2 hfv
      ⟨.func _ _ _ _ [] [] rfl rfl (fun _ => undef) (fun _ => undef) (fun i hi => by simp at hi) (fun i hi => by simp at hi) (fun i hi => by simp at hi) (fun i hi => by simp at hi), trivial⟩
    refine ⟨w.heap.size + 1, [{ target := .collected w.heap.size, args := #[] }], w2, d, w2, fid, args', w2, ?_, ?_, fun f' _ => trivial, e2, fun hd => by simp [fw_depth] at hd, ?_⟩
    · rw [hw2, hw1, hr0]; exact run_enterLoop_outer _ _ _ _ _
    · have : (resolve a.eval (rangeCall f (w.heap.size + 1)) 0) = Deferred.ofValue (a.eval f) #[.func (.yield (w.heap.size + 1)) #[] #[]] := by
        simp [resolve, Act.eval]
      rw [this]; exact e1
    refine (calls_fw e3 none (n - 1)).mono ?_
    rintro e w3 ⟨v, OK3, g3, rfl, hv3, hA3, hx3⟩
    simp only [afterR] at he
    split at he
    · rename_i r k hAn
      have hn0 : A.length < A'.length := (List.getElem?_eq_some_iff.1 hAn).1
      have hent := hA3.ent A.length hn0
      rw [(List.getElem?_eq_some_iff.1 hAn).2] at hent
      obtain ⟨inc', e4, _, hheap⟩ := hent
      have hg3 : g3 A.length = [inc0] := (hx3.fix A.length inc0 (by rw [hg2]; simp) (by rw [hinc0])).trans hg2
      rw [hg3] at e4
      simp at e4; subst e4
      have hb0 : inc0.b = w.heap.size + 1 := by rw [hinc0]
      have hnb : (recOf r k).state ≠ .busy := by unfold recOf; split <;> simp
      have hend := run_endLoop (P := P) hheap hnb
      obtain ⟨hA4, hx4⟩ := hA3.turn (w' := w3.putObj inc0.b (.loop { recOf r k with state := .exhausted })) (g' := g3) A.length hn0 (by rw [hAn]; simp) inc0 (by rw [hg3]; simp) (by simp) rfl rfl rfl (fun b hne => World.putObj_heap_other hne)
        (fun r2 hr2 => by rw [hheap] at hr2; injection hr2 with hr2; injection hr2 with hr2; rw [← hr2]; exact hnb) g3.le_refl (fun _ _ => rfl) (fun i hi => ⟨i, hi, rfl⟩)
        (fun i i' hi hi' _ => by rw [hg3] at hi hi'; simp at hi hi'; rw [hi, hi']) .dead (fun _ => trivial) (fun _ => rfl)
      have hxx := hx3.trans hx4
      have hs4 := hs2.ext hxx hA4
      have hm2 : Marks base w2 OK (g.push A.length inc0) ({ target := .collected w.heap.size, args := #[] } :: a.defers) := by
        refine ⟨⟨w.heap.size, rfl, hs.low, ?_, fun ho => ?_, fun id inc hi eb => ?_, ?_⟩, hs2.defers⟩
        · rw [hw2]
          show (w1.heap.push _)[w.heap.size]? = _
          rw [Array.getElem?_push, if_neg (by omega)]; exact hD
        · have := hs.arena.ok _ ho; omega
        · simp only [Ghost.push] at hi
          split at hi
          · simp at hi; subst hi; omega
          · have := hs.arena.low id inc hi; omega
        · have : ∀ l : List Deferred, Marks base w OK g l → ∀ d' ∈ l, d' ≠ { target := .collected w.heap.size, args := #[] } := by
            intro l
            induction l with
            | nil => intro _ d' hd; cases hd
            | cons x r ih =>
              rintro ⟨⟨D, hd, _, hh, _⟩, hr⟩ d' hd' eq
              rcases List.mem_cons.1 hd' with rfl | hd'
              · rw [hd] at eq
                injection eq with eq _
                injection eq with eq
                have := (Array.getElem?_eq_some_iff.1 hh).1
                omega
              · exact ih hr d' hd' eq
          exact this _ hs.defers
      have hs5 : SRel E N vs base (w3.putObj inc0.b (.loop { recOf r k with state := .exhausted })) OK3 g3 σ (A'.set A.length .dead) { a with defers := [{ target := .collected w.heap.size, args := #[] }] ++ a.defers } :=
        ⟨hs4.size, hm2.ext hxx, hs4.low, hs4.len, hs4.vars, hs4.arena, hs4.glob⟩
      refine ⟨_, _, by rw [← hb0]; exact hend, ?_⟩
      injection he with he
      by_cases hk0 : k = 0
      · subst hk0
        rw [if_pos rfl] at he
        subst he
        rw [show (recOf r 0).pending = none from rfl]
        exact ⟨OK3, g3, hs5, hx.trans hxx⟩
      · by_cases hk1 : k = 1
        · subst hk1
          rw [if_neg (by omega), if_pos rfl] at he
          subst he
          rw [show (recOf r 1).pending = some .ret from rfl]
          exact wpIn_ret ⟨OK3, g3, hs5, hx.trans hxx⟩
        · rw [if_neg hk0, if_neg hk1] at he
          subst he
          have : (recOf r k).pending = some (.exit (k - 2)) := by unfold recOf; rw [if_neg hk0]; simp [hk1]
          split
          · rename_i h; rw [this] at h; cases h
          · rename_i c h
            rw [this] at h
            injection h with h; subst h
            exact wpIn_exit ⟨rfl, OK3, g3, hs5, hx.trans hxx⟩
    · cases he
  · cases he

theorem clear_length (mask : List Nat) : ∀ σ : List AV, (clear mask σ).length = σ.length := by
  induction mask with
  | nil => intro σ; rfl
  | cons i m ih => intro σ; simp only [clear, List.foldl_cons] at ih ⊢; rw [ih]; simp

theorem SRel.clear {w : World} {OK : Nat → Prop} {g : Ghost} {A : Arena} {a : Act} (mask : List Nat) : ∀ {σ : List AV}, SRel E N vs base w OK g σ A a → SRel E N vs base w OK g (Go.Proofs.YtnpmfpcppkdniaaDoor.clear mask σ) A a := by
  induction mask with
  | nil => intro σ h; exact h
  | cons i m ih =>
    intro σ h
    refine ih (σ := σ.set i .undef) ⟨h.size, h.defers, h.low, by simp [h.len], fun k hk => ?_, h.arena, h.glob⟩
    by_cases e : i = k
    · subst e
      simp [List.getD_eq_getElem?_getD, List.getElem?_set_self (show i < σ.length by rw [h.len]; exact hk), VRel.undef]
    · have := h.vars k hk
      simpa [List.getD_eq_getElem?_getD, List.getElem?_set_ne e] using this

theorem evC_sound (hE : EnvSound P E) (hvn : vs.Nodup) (hvl : ∀ t ∈ vs, t < N) {pu : List FuncId} (hpu : PureIn E pu) (fuel : Nat) : ∀ (code : Code) (inR : Bool) (rd : Option Nat) (base n : Nat), (inR = false → rd = none) → ∀ (h : Hints)
    (σ : List AV) (A : Arena) (out : Out) (a : Act) (w : World) (OK : Nat → Prop) (g : Ghost), SRel E N vs base w OK g σ A a → evC E fuel (compC P N vs pu inR code h).1 σ A = some out → code.wpIn (FW rd) n P (OutOk E N vs base w OK g out) a w := by
  intro code
  induction code with
  | skip =>
    intro inR rd base n hrd h σ A out a w OK g hs he
    simp only [compC, evC, Option.some.injEq] at he
    subst he
    exact wpIn_skip ⟨OK, g, hs, Ext.refl _ _ _⟩
  | label l =>
    intro inR rd base n hrd h σ A out a w OK g hs he
    simp only [compC, evC, Option.some.injEq] at he
    subst he
    exact wpIn_label ⟨OK, g, hs, Ext.refl _ _ _⟩
  | region id ops draw =>
    intro inR rd base n hrd h σ A out a w OK g hs he
    cases draw with
    | true =>
      simp only [compC, if_true] at he
      split at he
      · rename_i hc
        rw [Bool.and_eq_true] at hc
        simp only [evC, Option.map_eq_some_iff] at he
        obtain ⟨⟨σ', A'⟩, he, rfl⟩ := he
        exact regionAny_sound hE hvn hvl hpu hc.1 hc.2 hs he (fun a1 w1 OK1 g1 k1 k2 => ⟨OK1, g1, k1, k2⟩)
      · simp [evC] at he
    | false =>
      simp only [compC, Bool.false_eq_true, if_false, evC, Option.map_eq_some_iff] at he
      obtain ⟨⟨σ', A'⟩, he, rfl⟩ := he
      refine wpIn_region ?_
      have := evOps_sound (rd := rd) (n := n) hE hvn hvl (Q := OutOk E N vs base w OK g (.normal σ' A')) (fun a w' OK' g' k1 k2 => ⟨OK', g', k1, k2⟩) ops.toList 0 [] σ [] A a w OK g rfl
        { hs with tlen := rfl, temps := fun j t hj => by simp at hj, tok := fun j t hj => by simp at hj, tone := fun j j' t hj => by simp at hj } (Ext.refl _ _ _) he
      simpa [List.range_eq_range'] using this
  | seq x y ihx ihy =>
    intro inR rd base n hrd h σ A out a w OK g hs he
    simp only [compC, evC] at he
    cases hex : evC E fuel (compC P N vs pu inR x h).1 σ A with
    | none => rw [hex] at he; cases he
    | some o1 =>
      rw [hex] at he
      refine wpIn_seq (wpIn_mono (ihx inR rd base n hrd h σ A o1 a w OK g hs hex) ?_)
      intro e a1 w1 hq
      cases o1 with
      | normal σ1 A1 =>
        cases e <;> simp only [OutOk] at hq
        obtain ⟨OK1, g1, hs1, hx1⟩ := hq
        exact wpIn_mono (ihy inR rd base n hrd _ σ1 A1 out a1 w1 OK1 g1 hs1 he) (fun e a w hq => hq.pre hx1)
      | exit id σ1 A1 =>
        simp only [Option.some.injEq] at he
        subst he
        cases e <;> simp only [OutOk] at hq
        exact hq
      | ret σ1 A1 =>
        simp only [Option.some.injEq] at he
        subst he
        cases e <;> simp only [OutOk] at hq
        exact hq
  | cond c x y ihx ihy =>
    intro inR rd base n hrd h σ A out a w OK g hs he
    simp only [compC] at he
    split at he
    · rename_i mcx hcx
      simp only [evC] at he
      have hrr : RRel E N vs base w OK g σ [] [] A a := { hs with tlen := rfl, temps := fun j t hj => by simp at hj, tok := fun j t hj => by simp at hj, tone := fun j j' t hj => by simp at hj }
      have hv := hrr.eval c mcx hcx
      split at he
      · rename_i t ht
        rw [ht] at hv
        refine wpIn_cond (t := t) hv.inv_bool ?_
        cases t
        · exact ihy inR rd base n hrd _ σ A out a w OK g hs (by simpa using he)
        · exact ihx inR rd base n hrd _ σ A out a w OK g hs (by simpa using he)
      · cases he
    · simp [evC] at he
  | block id x ih =>
    intro inR rd base n hrd h σ A out a w OK g hs he
    have hplain : ∀ out, evC E fuel (.block id (compC P N vs pu inR x h).1) σ A = some out → (Code.block id x).wpIn (FW rd) n P (OutOk E N vs base w OK g out) a w := by
      clear he
      intro out he
      simp only [evC] at he
      cases hex : evC E fuel (compC P N vs pu inR x h).1 σ A with
      | none => rw [hex] at he; cases he
      | some o1 =>
        rw [hex] at he
        refine wpIn_block (wpIn_mono (ih inR rd base n hrd h σ A o1 a w OK g hs hex) ?_)
        intro e a1 w1 hq
        cases o1 with
        | normal σ1 A1 =>
          simp only [Option.some.injEq] at he
          subst he
          cases e <;> simp only [OutOk] at hq
          exact hq
        | exit id' σ1 A1 =>
          cases e <;> simp only [OutOk] at hq
          rename_i id2
          obtain ⟨rfl, hq⟩ := hq
          simp only [Exit.inBlock]
          replace he : (if id' = id then some (Out.normal σ1 A1) else some (Out.exit id' σ1 A1)) = some out := he
          split at he
          · rename_i hid
            injection he with he; subst he
            rw [if_pos hid]; exact hq
          · rename_i hid
            injection he with he; subst he
            rw [if_neg hid]; exact ⟨rfl, hq⟩
        | ret σ1 A1 =>
          simp only [Option.some.injEq] at he
          subst he
          cases e <;> simp only [OutOk] at hq
          exact hq
    simp only [compC] at he
    split at he
    · exact hplain out he
    · rename_i m r hmr
      simp only [evC] at he hplain
      split at he
      · rename_i σ1 A1 hb
        injection he with he; subst he
        refine wpIn_mono (hplain _ hb) ?_
        intro e a1 w1 hq
        cases e <;> simp only [OutOk] at hq
        obtain ⟨OK1, g1, hs1, hx1⟩ := hq
        exact ⟨OK1, g1, hs1.clear m, hx1⟩
      · exact hplain out he
  | loop x ih =>
    intro inR rd base n hrd h σ A out a w OK g hs he
    simp only [compC, evC] at he
    refine wpIn_loop_ghost (fun k a' w' => ∃ σ' A' OK' g', SRel E N vs base w' OK' g' σ' A' a' ∧ Ext w OK g w' OK' g' ∧ iter (evC E fuel (compC P N vs pu inR x (h.1.tail, h.2)).1) (h.1.headD []) k σ' A' = some out) fuel ⟨σ, A, OK, g, hs, Ext.refl _ _ _, he⟩ ?_
    rintro k a' w' ⟨σ', A', OK', g', hs', hx', hit⟩
    cases k with
    | zero => cases hit
    | succ k =>
      simp only [iter] at hit
      cases hex : evC E fuel (compC P N vs pu inR x (h.1.tail, h.2)).1 (clear (h.1.headD []) σ') A' with
      | none => rw [hex] at hit; cases hit
      | some o1 =>
        rw [hex] at hit
        refine wpIn_mono (ih inR rd base n hrd (h.1.tail, h.2) _ A' o1 a' w' OK' g' (hs'.clear _) hex) ?_
        intro e a1 w1 hq
        cases o1 with
        | normal σ1 A1 =>
          cases e <;> simp only [OutOk] at hq
          obtain ⟨OK1, g1, hs1, hx1⟩ := hq
          exact ⟨k, Nat.lt_succ_self k, σ1, A1, OK1, g1, hs1, hx'.trans hx1, hit⟩
        | exit id σ1 A1 =>
          simp only [Option.some.injEq] at hit
          subst hit
          cases e <;> simp only [OutOk] at hq
          exact OutOk.pre (out := .exit id σ1 A1) (e := .exit _) hx' hq
        | ret σ1 A1 =>
          simp only [Option.some.injEq] at hit
          subst hit
          cases e <;> simp only [OutOk] at hq
          exact OutOk.pre (out := .ret σ1 A1) (e := .ret) hx' hq
  | exit id =>
    intro inR rd base n hrd h σ A out a w OK g hs he
    simp only [compC, evC, Option.some.injEq] at he
    subst he
    exact wpIn_exit ⟨rfl, OK, g, hs, Ext.refl _ _ _⟩
  | scope x ih =>
    intro inR rd base n hrd h σ A out a w OK g hs he
    simp only [compC, evC] at he
    refine wpIn_scope' (ih inR rd base n hrd h σ A out a w OK g hs he) (fun l a w hq => ?_)
    cases out <;> exact hq
  | ret =>
    intro inR rd base n hrd h σ A out a w OK g hs he
    simp only [compC, evC, Option.some.injEq] at he
    subst he
    exact wpIn_ret ⟨OK, g, hs, Ext.refl _ _ _⟩
  | rangeFunc f ps x y ihx ihy =>
    intro inR rd base n hrd h σ A out a w OK g hs he
    simp only [compC] at he
    split at he
    · rename_i z is hz his
      obtain rfl := hrd rfl
      simp only [evC] at he
      exact rangeFunc_sound hE hvn hvl hz his (fun l m σ A out a w OK g hs he => ihx true (some l) 0 m (fun h => by cases h) _ σ A out a w OK g hs he)
        (fun l m σ A out a w OK g hs he => ihy true (some l) 0 m (fun h => by cases h) _ σ A out a w OK g hs he) hs he
    · simp [evC] at he
  | _ =>
    intro inR rd base n hrd h σ A out a w OK g hs he
    simp [compC, evC] at he
end
end Go.Proofs.YtnpmfpcppkdniaaDoor
