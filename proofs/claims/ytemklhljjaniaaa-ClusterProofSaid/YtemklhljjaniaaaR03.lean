/-
  What the proof is built on (Ev17c to KC0).
-/
import Derived.Test.YtemklhljjaniaaaR02
import Derived.Shelf.Abstract
import Derived.WideKeyArgs
import Derived.OpenShut
import Derived.ChangeOld
import Derived.RowKit
import Derived.Test.YtemklhljjaniaaaChecked
import Derived.KernelRfl
/-
  Loops over functions: the loop itself; the evaluation of code is sound. Program-independent.
-/
namespace Go.Proofs.Ytemklhljjaniaaa
open Go
section
variable {P : Program} {E : Env} {N : Nat} {vs : List Nat} {base : Nat} {rd : Option Nat} {n : Nat}

theorem rangeFunc_sound (hE : EnvSound P E) (hvn : vs.Nodup) (hvl : ∀ t ∈ vs, t < N) {f : Operand} {ps : Array Tmp} {asg bd : Code} {z : MX} {is : List Nat} (hz : cxOf vs [] f = some z) (his : idxAll vs ps.toList = some is) {asgE bdE : List AV → Arena → Option Out}
    (ha : ∀ (l m : Nat) (σ : List AV) (A : Arena) (out : Out) (a : Act) (w : World) (OK : Nat → Prop) (g : Ghost), SRel E N vs 0 w OK g σ A a → asgE σ A = some out → asg.wpIn (FW (some l)) m P (OutOk E N vs 0 w OK g out) a w)
    (hb : ∀ (l m : Nat) (σ : List AV) (A : Arena) (out : Out) (a : Act) (w : World) (OK : Nat → Prop) (g : Ghost), SRel E N vs 0 w OK g σ A a → bdE σ A = some out → bd.wpIn (FW (some l)) m P (OutOk E N vs 0 w OK g out) a w)
    {σ : List AV} {A : Arena} {out : Out} {a : Act} {w : World} {OK : Nat → Prop} {g : Ghost} (hs : SRel E N vs base w OK g σ A a)
    (he : evR (fun (_ : Nat × Loop) => True) (fun x =>
      match E.callY (yieldH A.length x.1 x.2 σ is asgE bdE E.hand) (evX E σ [] z) [.func (.yield x.1) [] []] (A ++ [Ent.loop x.2 0]) with
      | some (_, A') => afterR A.length σ A'
      | none => none) = some out) :
    (Code.rangeFunc f ps asg bd).wpIn (FW none) n P (OutOk E N vs base w OK g out) a w := by
  refine wpIn_rangeFunc ?_
  intro fn hfn
  obtain ⟨r0, hr0⟩ : ∃ r0 : Loop, r0 = { state := .ready, pending := none, fn, tmps := a.tmps, params := ps, assign := asg, body := bd, defers := w.heap.size } := ⟨_, rfl⟩
  obtain ⟨hA1, hx1⟩ := hs.arena.alloc (.deferred (some []))
  have hD : (w.alloc (.deferred (some []))).heap[w.heap.size]? = some (.deferred (some [])) := World.alloc_heap_new w _
  obtain ⟨w1, hw1⟩ : ∃ w1, w1 = w.alloc (.deferred (some [])) := ⟨_, rfl⟩
  have hsz1 : w1.heap.size = w.heap.size + 1 := by rw [hw1]; simp
  rw [← hw1] at hA1 hx1 hD
  have hrec : recOf r0 0 = r0 := by rw [hr0]; rfl
  obtain ⟨hA2, hx2⟩ := hA1.push (w' := w1.alloc (.loop r0)) (.loop r0) rfl rfl rfl rfl (.loop r0 0) ⟨w.heap.size + 1, 0, 0, 0, 0⟩ hsz1.symm (fun g' _ _ hnew => ⟨_, rfl, rfl, by rw [hrec, ← hsz1]; exact hnew⟩)
  obtain ⟨w2, hw2⟩ : ∃ w2, w2 = w1.alloc (.loop r0) := ⟨_, rfl⟩
  obtain ⟨inc0, hinc0⟩ : ∃ i : Inc, i = ⟨w.heap.size + 1, 0, 0, 0, 0⟩ := ⟨_, rfl⟩
  rw [← hw2, ← hinc0] at hA2 hx2
  have hx := hx1.trans hx2
  have hg2 : g.push A.length inc0 A.length = [inc0] := by simp [Ghost.push]
  have hE0 := he
  have he := evR_spec he (w.heap.size + 1, r0) trivial
  simp only at he
  have hs2 := hs.ext hx hA2
  -- the yields
  have hyH : HSound P E.glob (⟨A.length, w.heap.size + 1, vs.map (a.tmps.getD · undef), σ⟩ :: E.ys) (yieldH A.length (w.heap.size + 1) r0 σ is asgE bdE E.hand) :=
    yieldH_sound hvn hvl (by rw [hr0]; exact ⟨rfl, rfl⟩) (by rw [hr0]) hs.size hs.len (by rw [hr0]; exact his) hE.hand (by rw [hr0]; exact ha _) (by rw [hr0]; exact hb _)
  have hI2 : IRel E.glob (⟨A.length, w.heap.size + 1, vs.map (a.tmps.getD · undef), σ⟩ :: E.ys) w2 OK (g.push A.length inc0) := by
    refine ⟨hs2.glob.1, fun y hy => ?_⟩
    rcases List.mem_cons.1 hy with rfl | hy
    · refine ⟨⟨inc0, hg2, by rw [hinc0], by rw [hinc0]⟩, ListRel.of_get (by simp [hs.len]) fun i h1 h2 => ?_⟩
      simp only [List.getElem_map]
      have := hs2.vars i (by simpa using h1)
      simpa [List.getD_eq_getElem?_getD, List.getElem?_eq_getElem h2] using this
    · exact hs2.glob.2 y hy
  split at he
  · rename_i v0 A' hcall
    have hrr : RRel E N vs base w2 OK (g.push A.length inc0) σ [] [] (A ++ [Ent.loop r0 0]) a := { hs2 with tlen := rfl, temps := fun j t hj => by simp at hj, tok := fun j t hj => by simp at hj, tone := fun j j' t hj => by simp at hj }
    have hfv := hrr.eval f z hz
    obtain ⟨d, fid, args', e1, e2, e3⟩ := hE.callY _ _ (fun y hy => List.mem_cons_of_mem _ hy) hyH _ _ _ _ _ hcall w2 OK _ _ [.func (.yield (w.heap.size + 1)) #[] #[]] hA2 hI2 hfv
      ⟨.func _ _ _ _ [] [] rfl rfl (fun _ => undef) (fun _ => undef) (fun i hi => by simp at hi) (fun i hi => by simp at hi) (fun i hi => by simp at hi) (fun i hi => by simp at hi), trivial⟩
    refine ⟨w.heap.size + 1, [{ target := .collected w.heap.size, args := #[] }], w2, d, w2, fid, args', w2, ?_, ?_, fun f' _ => trivial, e2, fun hd => by simp [fw_depth] at hd, ?_⟩
    · rw [hw2, hw1, hr0]; exact run_enterLoop_outer _ _ _ _ _
    · have : (resolve a.eval (rangeCall f (w.heap.size + 1)) 0) = Deferred.ofValue (a.eval f) #[.func (.yield (w.heap.size + 1)) #[] #[]] := by
        simp [resolve, Act.eval]
      rw [this]; exact e1
    refine (calls_fw e3 none (n - 1)).mono ?_
    rintro e w3 ⟨v, OK3, g3, rfl, hv3, hA3, hx3⟩
    simp only [afterR] at he
    split at he
    · rename_i r k hAn
      have hn0 : A.length < A'.length := (List.getElem?_eq_some_iff.1 hAn).1
      have hent := hA3.ent A.length hn0
      rw [(List.getElem?_eq_some_iff.1 hAn).2] at hent
      obtain ⟨inc', e4, _, hheap⟩ := hent
      have hg3 : g3 A.length = [inc0] := (hx3.fix A.length inc0 (by rw [hg2]; simp) (by rw [hinc0])).trans hg2
      rw [hg3] at e4
      simp at e4; subst e4
      have hb0 : inc0.b = w.heap.size + 1 := by rw [hinc0]
      have hnb : (recOf r k).state ≠ .busy := by unfold recOf; split <;> simp
      have hend := run_endLoop (P := P) hheap hnb
      obtain ⟨hA4, hx4⟩ := hA3.turn (w' := w3.putObj inc0.b (.loop { recOf r k with state := .exhausted })) (g' := g3) A.length hn0 (by rw [hAn]; simp) inc0 (by rw [hg3]; simp) (by simp) rfl rfl rfl (fun b hne => World.putObj_heap_other hne)
        (fun r2 hr2 => by rw [hheap] at hr2; injection hr2 with hr2; injection hr2 with hr2; rw [← hr2]; exact hnb) g3.le_refl (fun _ _ => rfl) (fun i hi => ⟨i, hi, rfl⟩)
        (fun i i' hi hi' _ => by rw [hg3] at hi hi'; simp at hi hi'; rw [hi, hi']) .dead (fun _ => trivial) (fun _ => rfl)
      have hxx := hx3.trans hx4
      have hs4 := hs2.ext hxx hA4
      have hm2 : Marks base w2 OK (g.push A.length inc0) ({ target := .collected w.heap.size, args := #[] } :: a.defers) := by
        refine ⟨⟨w.heap.size, rfl, hs.low, ?_, fun ho => ?_, fun id inc hi eb => ?_, ?_⟩, hs2.defers⟩
        · rw [hw2]
          show (w1.heap.push _)[w.heap.size]? = _
          rw [Array.getElem?_push, if_neg (by omega)]; exact hD
        · have := hs.arena.ok _ ho; omega
        · simp only [Ghost.push] at hi
          split at hi
          · simp at hi; subst hi; omega
          · have := hs.arena.low id inc hi; omega
        · have : ∀ l : List Deferred, Marks base w OK g l → ∀ d' ∈ l, d' ≠ { target := .collected w.heap.size, args := #[] } := by
            intro l
            induction l with
            | nil => intro _ d' hd; cases hd
            | cons x r ih =>
              rintro ⟨⟨D, hd, _, hh, _⟩, hr⟩ d' hd' eq
              rcases List.mem_cons.1 hd' with rfl | hd'
              · rw [hd] at eq
                injection eq with eq _
                injection eq with eq
                have := (Array.getElem?_eq_some_iff.1 hh).1
                omega
              · exact ih hr d' hd' eq
          exact this _ hs.defers
      have hs5 : SRel E N vs base (w3.putObj inc0.b (.loop { recOf r k with state := .exhausted })) OK3 g3 σ (A'.set A.length .dead) { a with defers := [{ target := .collected w.heap.size, args := #[] }] ++ a.defers } :=
        ⟨hs4.size, hm2.ext hxx, hs4.low, hs4.len, hs4.vars, hs4.arena, hs4.glob⟩
      refine ⟨_, _, by rw [← hb0]; exact hend, ?_⟩
      injection he with he
      by_cases hk0 : k = 0
      · subst hk0
        rw [if_pos rfl] at he
        subst he
        rw [show (recOf r 0).pending = none from rfl]
        exact ⟨OK3, g3, hs5, hx.trans hxx⟩
      · by_cases hk1 : k = 1
        · subst hk1
          rw [if_neg (by omega), if_pos rfl] at he
          subst he
          rw [show (recOf r 1).pending = some .ret from rfl]
          exact wpIn_ret ⟨OK3, g3, hs5, hx.trans hxx⟩
        · rw [if_neg hk0, if_neg hk1] at he
          subst he
          have : (recOf r k).pending = some (.exit (k - 2)) := by unfold recOf; rw [if_neg hk0]; simp [hk1]
          split
          · rename_i h; rw [this] at h; cases h
          · rename_i c h
            rw [this] at h
            injection h with h; subst h
            exact wpIn_exit ⟨rfl, OK3, g3, hs5, hx.trans hxx⟩
    · cases he
  · cases he

theorem clear_length (mask : List Nat) : ∀ σ : List AV, (clear mask σ).length = σ.length := by
  induction mask with
  | nil => intro σ; rfl
  | cons i m ih => intro σ; simp only [clear, List.foldl_cons] at ih ⊢; rw [ih]; simp

theorem SRel.clear {w : World} {OK : Nat → Prop} {g : Ghost} {A : Arena} {a : Act} (mask : List Nat) : ∀ {σ : List AV}, SRel E N vs base w OK g σ A a → SRel E N vs base w OK g (Go.Proofs.Ytemklhljjaniaaa.clear mask σ) A a := by
  induction mask with
  | nil => intro σ h; exact h
  | cons i m ih =>
    intro σ h
    refine ih (σ := σ.set i .undef) ⟨h.size, h.defers, h.low, by simp [h.len], fun k hk => ?_, h.arena, h.glob⟩
    by_cases e : i = k
    · subst e
      simp [List.getD_eq_getElem?_getD, List.getElem?_set_self (show i < σ.length by rw [h.len]; exact hk), VRel.undef]
    · have := h.vars k hk
      simpa [List.getD_eq_getElem?_getD, List.getElem?_set_ne e] using this

theorem evC_sound {on : Bool} (hE : EnvSound P E) (hvn : vs.Nodup) (hvl : ∀ t ∈ vs, t < N) {pu : List FuncId} (hpu : PureIn E pu) (fuel : Nat) : ∀ (code : Code) (inR : Bool) (rd : Option Nat) (base n : Nat), (inR = false → rd = none) → ∀ (h : Hints)
    (σ : List AV) (A : Arena) (out : Out) (a : Act) (w : World) (OK : Nat → Prop) (g : Ghost), SRel E N vs base w OK g σ A a → evC E fuel (compC P N vs pu on inR code h).1 σ A = some out → code.wpIn (FW rd) n P (OutOk E N vs base w OK g out) a w := by
  intro code
  induction code with
  | skip =>
    intro inR rd base n hrd h σ A out a w OK g hs he
    simp only [compC, evC, Option.some.injEq] at he
    subst he
    exact wpIn_skip ⟨OK, g, hs, Ext.refl _ _ _⟩
  | label l =>
    intro inR rd base n hrd h σ A out a w OK g hs he
    simp only [compC, evC, Option.some.injEq] at he
    subst he
    exact wpIn_label ⟨OK, g, hs, Ext.refl _ _ _⟩
  | region id ops draw =>
    intro inR rd base n hrd h σ A out a w OK g hs he
    cases draw with
    | true =>
      simp only [compC, if_true] at he
      split at he
      · rename_i hc
        rw [Bool.and_eq_true] at hc
        split at he
        · rename_i hp
          simp only [evC, Option.map_eq_some_iff] at he
          obtain ⟨⟨σ', A'⟩, he, rfl⟩ := he
          obtain ⟨fs, hfs⟩ := evOpsF_of_evOps (pu := pu) _ _ _ _ [] _ _ he
          exact regionAny_sound hE hvn hvl hpu hc.1 hc.2 hs hfs (fun p hx => by rw [hp] at hx; cases hx) (fun a1 w1 OK1 g1 k1 k2 => ⟨OK1, g1, k1, k2⟩)
        · rename_i x r hp
          simp only [evC] at he
          split at he
          · rename_i σ' A' fs hfs
            simp only [Option.ite_none_right_eq_some, Option.some.injEq] at he
            obtain ⟨hall, rfl⟩ := he
            exact regionAny_sound hE hvn hvl hpu hc.1 hc.2 hs hfs (fun p hx => by rw [hp] at hx; exact List.all_eq_true.1 hall p hx) (fun a1 w1 OK1 g1 k1 k2 => ⟨OK1, g1, k1, k2⟩)
          · cases he
      · simp [evC] at he
    | false =>
      simp only [compC, Bool.false_eq_true, if_false, evC, Option.map_eq_some_iff] at he
      obtain ⟨⟨σ', A'⟩, he, rfl⟩ := he
      refine wpIn_region ?_
      have := evOps_sound (on := on) (rd := rd) (n := n) hE hvn hvl (Q := OutOk E N vs base w OK g (.normal σ' A')) (fun a w' OK' g' k1 k2 => ⟨OK', g', k1, k2⟩) ops.toList 0 [] σ [] A a w OK g rfl
        { hs with tlen := rfl, temps := fun j t hj => by simp at hj, tok := fun j t hj => by simp at hj, tone := fun j j' t hj => by simp at hj } (Ext.refl _ _ _) he
      simpa [List.range_eq_range'] using this
  | seq x y ihx ihy =>
    intro inR rd base n hrd h σ A out a w OK g hs he
    simp only [compC, evC] at he
    cases hex : evC E fuel (compC P N vs pu on inR x h).1 σ A with
    | none => rw [hex] at he; cases he
    | some o1 =>
      rw [hex] at he
      refine wpIn_seq (wpIn_mono (ihx inR rd base n hrd h σ A o1 a w OK g hs hex) ?_)
      intro e a1 w1 hq
      cases o1 with
      | normal σ1 A1 =>
        cases e <;> simp only [OutOk] at hq
        obtain ⟨OK1, g1, hs1, hx1⟩ := hq
        exact wpIn_mono (ihy inR rd base n hrd _ σ1 A1 out a1 w1 OK1 g1 hs1 he) (fun e a w hq => hq.pre hx1)
      | exit id σ1 A1 =>
        simp only [Option.some.injEq] at he
        subst he
        cases e <;> simp only [OutOk] at hq
        exact hq
      | ret σ1 A1 =>
        simp only [Option.some.injEq] at he
        subst he
        cases e <;> simp only [OutOk] at hq
        exact hq
  | cond c x y ihx ihy =>
    intro inR rd base n hrd h σ A out a w OK g hs he
    simp only [compC] at he
    split at he
    · rename_i mcx hcx
      simp only [evC] at he
      have hrr : RRel E N vs base w OK g σ [] [] A a := { hs with tlen := rfl, temps := fun j t hj => by simp at hj, tok := fun j t hj => by simp at hj, tone := fun j j' t hj => by simp at hj }
      have hv := hrr.eval c mcx hcx
      split at he
      · rename_i t ht
        rw [ht] at hv
        refine wpIn_cond (t := t) hv.inv_bool ?_
        cases t
        · exact ihy inR rd base n hrd _ σ A out a w OK g hs (by simpa using he)
        · exact ihx inR rd base n hrd _ σ A out a w OK g hs (by simpa using he)
      · cases he
    · simp [evC] at he
  | block id x ih =>
    intro inR rd base n hrd h σ A out a w OK g hs he
    have hplain : ∀ out, evC E fuel (.block id (compC P N vs pu on inR x h).1) σ A = some out → (Code.block id x).wpIn (FW rd) n P (OutOk E N vs base w OK g out) a w := by
      clear he
      intro out he
      simp only [evC] at he
      cases hex : evC E fuel (compC P N vs pu on inR x h).1 σ A with
      | none => rw [hex] at he; cases he
      | some o1 =>
        rw [hex] at he
        refine wpIn_block (wpIn_mono (ih inR rd base n hrd h σ A o1 a w OK g hs hex) ?_)
        intro e a1 w1 hq
        cases o1 with
        | normal σ1 A1 =>
          simp only [Option.some.injEq] at he
          subst he
          cases e <;> simp only [OutOk] at hq
          exact hq
        | exit id' σ1 A1 =>
          cases e <;> simp only [OutOk] at hq
          rename_i id2
          obtain ⟨rfl, hq⟩ := hq
          simp only [Exit.inBlock]
          replace he : (if id' = id then some (Out.normal σ1 A1) else some (Out.exit id' σ1 A1)) = some out := he
          split at he
          · rename_i hid
            injection he with he; subst he
            rw [if_pos hid]; exact hq
          · rename_i hid
            injection he with he; subst he
            rw [if_neg hid]; exact ⟨rfl, hq⟩
        | ret σ1 A1 =>
          simp only [Option.some.injEq] at he
          subst he
          cases e <;> simp only [OutOk] at hq
          exact hq
    simp only [compC] at he
    split at he
    · exact hplain out he
    · rename_i m r hmr
      simp only [evC] at he hplain
      split at he
      · rename_i σ1 A1 hb
        injection he with he; subst he
        refine wpIn_mono (hplain _ hb) ?_
        intro e a1 w1 hq
        cases e <;> simp only [OutOk] at hq
        obtain ⟨OK1, g1, hs1, hx1⟩ := hq
        exact ⟨OK1, g1, hs1.clear m, hx1⟩
      · exact hplain out he
  | loop x ih =>
    intro inR rd base n hrd h σ A out a w OK g hs he
    simp only [compC, evC] at he
    refine wpIn_loop_ghost (fun k a' w' => ∃ σ' A' OK' g', SRel E N vs base w' OK' g' σ' A' a' ∧ Ext w OK g w' OK' g' ∧ iter (evC E fuel (compC P N vs pu on inR x (h.1.tail, h.2)).1) (h.1.headD []) k σ' A' = some out) fuel ⟨σ, A, OK, g, hs, Ext.refl _ _ _, he⟩ ?_
    rintro k a' w' ⟨σ', A', OK', g', hs', hx', hit⟩
    cases k with
    | zero => cases hit
    | succ k =>
      simp only [iter] at hit
      cases hex : evC E fuel (compC P N vs pu on inR x (h.1.tail, h.2)).1 (clear (h.1.headD []) σ') A' with
      | none => rw [hex] at hit; cases hit
      | some o1 =>
        rw [hex] at hit
        refine wpIn_mono (ih inR rd base n hrd (h.1.tail, h.2) _ A' o1 a' w' OK' g' (hs'.clear _) hex) ?_
        intro e a1 w1 hq
        cases o1 with
        | normal σ1 A1 =>
          cases e <;> simp only [OutOk] at hq
          obtain ⟨OK1, g1, hs1, hx1⟩ := hq
          exact ⟨k, Nat.lt_succ_self k, σ1, A1, OK1, g1, hs1, hx'.trans hx1, hit⟩
        | exit id σ1 A1 =>
          simp only [Option.some.injEq] at hit
          subst hit
          cases e <;> simp only [OutOk] at hq
          exact OutOk.pre (out := .exit id σ1 A1) (e := .exit _) hx' hq
        | ret σ1 A1 =>
          simp only [Option.some.injEq] at hit
          subst hit
          cases e <;> simp only [OutOk] at hq
          exact OutOk.pre (out := .ret σ1 A1) (e := .ret) hx' hq
  | exit id =>
    intro inR rd base n hrd h σ A out a w OK g hs he
    simp only [compC, evC, Option.some.injEq] at he
    subst he
    exact wpIn_exit ⟨rfl, OK, g, hs, Ext.refl _ _ _⟩
  | scope x ih =>
    intro inR rd base n hrd h σ A out a w OK g hs he
    simp only [compC, evC] at he
    refine wpIn_scope' (ih inR rd base n hrd h σ A out a w OK g hs he) (fun l a w hq => ?_)
    cases out <;> exact hq
  | ret =>
    intro inR rd base n hrd h σ A out a w OK g hs he
    simp only [compC, evC, Option.some.injEq] at he
    subst he
    exact wpIn_ret ⟨OK, g, hs, Ext.refl _ _ _⟩
  | rangeFunc f ps x y ihx ihy =>
    intro inR rd base n hrd h σ A out a w OK g hs he
    simp only [compC] at he
    split at he
    · rename_i z is hz his
      obtain rfl := hrd rfl
      simp only [evC] at he
      exact rangeFunc_sound hE hvn hvl hz his (fun l m σ A out a w OK g hs he => ihx true (some l) 0 m (fun h => by cases h) _ σ A out a w OK g hs he)
        (fun l m σ A out a w OK g hs he => ihy true (some l) 0 m (fun h => by cases h) _ σ A out a w OK g hs he) hs he
    · simp [evC] at he
  | _ =>
    intro inR rd base n hrd h σ A out a w OK g hs he
    simp [compC, evC] at he
end
end Go.Proofs.Ytemklhljjaniaaa
/-
  Functions: evaluation, frozen results, contracts of pure functions. Program-independent.
-/
namespace Go.Proofs.Ytemklhljjaniaaa
open Go

/-! ### what nobody writes any more -/

/-- a tree without references into the arena -/
def frz (A : Arena) : Nat → AV → AV
  | 0, .agg _ => .undef
  | 0, .tup _ => .undef
  | 0, .sl .. => .undef
  | 0, .ptr .. => .undef
  | 0, .func .. => .undef
  | 0, .iface .. => .undef
  | n + 1, .agg cs => .agg (cs.map (frz A n))
  | n + 1, .tup cs => .tup (cs.map (frz A n))
  | n + 1, .sl id off len => match A[id]? with
    | some (.row s _ es) => .fs s (((es.drop off).take len).map (frz A n))
    | _ => .undef
  | n + 1, .ptr id i o => match A[id]? with
    | some (.row _ _ es) => match es[i]? with
      | some e => if e.solid = true ∧ o < (cellsOf e).length then .fp (((cellsOf e).drop o).map (frz A n)) else .undef
      | none => .undef
    | _ => .undef
  | n + 1, .func fn c1 c2 => .func fn (c1.map (frz A n)) (c2.map (frz A n))
  | n + 1, .iface t v => .iface t (frz A n v)
  | _, .map _ => .undef
  | _, .csl .. => .undef
  | _, a => a

section
variable {P : Program} {w : World} {OK OK2 : Nat → Prop} {g : Ghost} {A : Arena}

theorem frz_sound (hA : ARel w OK g A) (h1 : ∀ b, OK b → OK2 b) (h2 : ∀ id inc, A[id]? ≠ some .dead → inc ∈ g id → OK2 inc.b) : ∀ (n : Nat) (a : AV) (v : Value), VRel w OK g v a → VRel w OK2 Ghost.none v (frz A n a) := by
  have up : ∀ {v : Value} {a : AV}, VRel w OK Ghost.none v a → VRel w OK2 Ghost.none v a := fun h => h.mono h1 (fun _ _ => rfl) _ (Ghost.le_refl _)
  intro n
  induction n with
  | zero =>
    intro a v h
    cases a <;> simp only [frz] <;> first
      | exact .undef _ _
      | (have e := h.inv_bool; rw [e]; exact .bool _ _)
      | (have e := h.inv_int; rw [e]; exact .int _ _ _)
      | (obtain ⟨s, e, hs⟩ := h.inv_str; rw [e]; exact .str _ _ _ hs)
      | (obtain ⟨p, e⟩ := h.inv_nilS; rw [e]; exact .nilS _ _)
      | (have e := h.inv_nilP; rw [e]; exact .nilP _)
      | (have e := h.inv_nilM; rw [e]; exact .nilM _)
      | (cases h; exact .nilF _)
      | (cases h; exact .nilI _)
      | (obtain ⟨b, o, cap, T, c, fz, vals, e, hb, hh, hcap, hv, hs, hc⟩ := h.inv_fs; rw [e]; exact .fs _ b o cap _ T c fz _ vals (h1 _ hb) hh hcap (fun i hi => up (hv i hi)) hs hc)
      | (obtain ⟨b, o, T, c, fz, vals, e, hb, hh, hne, hv, hc⟩ := h.inv_fp; rw [e]; exact .fp _ b o T c fz _ vals (h1 _ hb) hh hne (fun i hi => up (hv i hi)) hc)
  | succ n ih =>
    intro a v h
    cases a <;> simp only [frz] <;> try first
      | exact .undef _ _
      | (have e := h.inv_bool; rw [e]; exact .bool _ _)
      | (have e := h.inv_int; rw [e]; exact .int _ _ _)
      | (obtain ⟨s, e, hs⟩ := h.inv_str; rw [e]; exact .str _ _ _ hs)
      | (obtain ⟨p, e⟩ := h.inv_nilS; rw [e]; exact .nilS _ _)
      | (have e := h.inv_nilP; rw [e]; exact .nilP _)
      | (have e := h.inv_nilM; rw [e]; exact .nilM _)
      | (cases h; exact .nilF _)
      | (cases h; exact .nilI _)
      | (obtain ⟨b, o, cap, T, c, fz, vals, e, hb, hh, hcap, hv, hs, hc⟩ := h.inv_fs; rw [e]; exact .fs _ b o cap _ T c fz _ vals (h1 _ hb) hh hcap (fun i hi => up (hv i hi)) hs hc)
      | (obtain ⟨b, o, T, c, fz, vals, e, hb, hh, hne, hv, hc⟩ := h.inv_fp; rw [e]; exact .fp _ b o T c fz _ vals (h1 _ hb) hh hne (fun i hi => up (hv i hi)) hc)
    case sl id off len =>
      split
      · rename_i s gr es hid
        obtain ⟨inc, cap, ao, hinc, rfl, hl, hn, hcap, ha⟩ := h.inv_sl
        obtain ⟨hlt', hrow⟩ := List.getElem?_eq_some_iff.1 hid
        have hent := hA.ent id hlt'
        rw [hrow] at hent
        obtain ⟨hesz, hne, hnc, c, T, fz, hh, hu, hcs, hel⟩ := hent.2 inc hinc
        have hlen : (((es.drop off).take len).map (frz A n)).length = len := by simp; omega
        obtain ⟨vals, hvals⟩ : ∃ vals : Nat → Value, ∀ i (hi : i < len), VRel w OK g (vals i) (es[off + i]'(by omega)) ∧ (vals i).cells.size = s ∧ okCells (vals i) ∧ ∀ j, j < s → c[inc.o + (off + i) * s + j]? = (vals i).cells[j]? :=
          ⟨fun i => if hi : i < len then (hel (off + i) (by omega) (by omega)).choose else undef, fun i hi => by simp only [hi, dif_pos]; exact (hel (off + i) (by omega) (by omega)).choose_spec⟩
        have := VRel.fs (w := w) (OK := OK2) Ghost.none inc.b ao cap s T c fz (((es.drop off).take len).map (frz A n)) vals (h2 id inc (by rw [hid]; simp) hinc) hh (by omega)
          (fun i hi => by simp only [List.getElem_map, List.getElem_take, List.getElem_drop]; exact ih _ _ (hvals i (by omega)).1)
          (fun i hi => ⟨(hvals i (by omega)).2.1, (hvals i (by omega)).2.2.1⟩)
          (fun i hi j hj => by
            rw [← (hvals i (by omega)).2.2.2 j hj, ha (by omega), hesz]
            congr 1; rw [Nat.add_mul]; omega)
        rwa [hlen] at this
      · exact .undef _ _
    case ptr id i o =>
      split
      · rename_i s gr es hid
        split
        · rename_i e he
          split
          · rename_i hc
            obtain ⟨hsol, ho⟩ := hc
            obtain ⟨inc, hinc, rfl, hn, ho'⟩ := h.inv_ptr
            obtain ⟨hlt', hrow⟩ := List.getElem?_eq_some_iff.1 hid
            obtain ⟨hi', rfl⟩ := List.getElem?_eq_some_iff.1 he
            have hent := hA.ent id hlt'
            rw [hrow] at hent
            obtain ⟨hesz, hne, hnc, c, T, fz, hh, hu, hcs, hel⟩ := hent.2 inc hinc
            obtain ⟨v, hv, hvs, hok, hc⟩ := hel i hi' hn
            obtain ⟨k1, k2, k3⟩ := hv.cells hsol
            obtain ⟨f, hf⟩ : ∃ f : Nat → Value, ∀ j (hj : j < (cellsOf es[i]).length), v.cells[j]? = some (f j) ∧ (f j).oneCell' = true ∧ VRel w OK g (f j) (cellsOf es[i])[j] :=
              ⟨fun j => (v.cells[j]?).getD undef, fun j hj => by
                obtain ⟨x, a1, a2, a3⟩ := k3 j hj
                simp only [a1, Option.getD_some]
                exact ⟨trivial, a2, a3⟩⟩
            refine .fp _ inc.b _ T c fz _ (fun j => f (o + j)) (h2 id inc (by rw [hid]; simp) hinc) hh (by simp; omega) (fun j hj => ?_) (fun j hj => ?_)
            · simp only [List.getElem_map, List.getElem_drop]
              exact ih _ _ (hf (o + j) (by simp at hj; omega)).2.2
            · have hj' : o + j < (cellsOf es[i]).length := by simp at hj; omega
              refine ⟨?_, (hf (o + j) hj').2.1⟩
              rw [hesz, Nat.add_assoc, hc (o + j) (by omega)]
              exact (hf (o + j) hj').1
          · exact .undef _ _
        · exact .undef _ _
      · exact .undef _ _
    case agg cs =>
      obtain ⟨vs, vals, rfl, hl, hg, hv⟩ := h.inv_agg
      exact .agg _ vs _ (by simpa using hl) vals (fun i hi => hg i (by simpa using hi)) (fun i hi => by simp only [List.getElem_map]; exact ih _ _ (hv i (by simpa using hi)))
    case tup cs =>
      obtain ⟨vs, vals, rfl, hl, hg, hv⟩ := h.inv_tup
      exact .tup _ vs _ (by simpa using hl) vals (fun i hi => hg i (by simpa using hi)) (fun i hi => by simp only [List.getElem_map]; exact ih _ _ (hv i (by simpa using hi)))
    case func fn c1 c2 =>
      obtain ⟨vs1, vs2, vals1, vals2, rfl, hl1, hl2, hg1, hg2, hv1, hv2⟩ := h.inv_func
      exact .func _ fn vs1 vs2 _ _ (by simpa using hl1) (by simpa using hl2) vals1 vals2 (fun i hi => hg1 i (by simpa using hi)) (fun i hi => hg2 i (by simpa using hi))
        (fun i hi => by simp only [List.getElem_map]; exact ih _ _ (hv1 i (by simpa using hi))) (fun i hi => by simp only [List.getElem_map]; exact ih _ _ (hv2 i (by simpa using hi)))
    case iface t x =>
      cases h with
      | iface _ t v a hv => exact .iface _ t v _ (ih _ _ hv)
end
end Go.Proofs.Ytemklhljjaniaaa
/-
  Functions: what is compiled, evaluation, contracts. Program-independent.
-/
namespace Go.Proofs.Ytemklhljjaniaaa
open Go

inductive MRes where
  | tmp (i : Nat)
  | cell (i : Nat) (agg : Bool) (size : Nat)

structure MFun where
  n : Nat
  len : Nat
  mc : MC
  res : List MRes

def compRes (P : Program) (vs : List Nat) : List ResultVar → Option (List MRes)
  | [] => some []
  | .tmp t :: r => match vs.idxOf? t, compRes P vs r with
    | some i, some l => some (.tmp i :: l)
    | _, _ => none
  | .cell a t :: r => match vs.idxOf? a, P.info? t, isAggB P t, compRes P vs r with
    | some i, some ti, some b, some l => some (.cell i b ti.size :: l)
    | _, _, _, _ => none

def nodupB : List Nat → Bool
  | [] => true
  | x :: r => !r.contains x && nodupB r

def compFun (P : Program) (fn : Func) (n : Nat) (vs : List Nat) (pu : List FuncId) (on : Bool) (hints : Hints) : Option MFun :=
  match fn.body with
  | some c => match compRes P vs fn.results.toList with
    | some rs => if nodupB vs && vs.all (· < fn.ntmps) && vs.take n == List.range n && Nat.ble n fn.ntmps && !(fn.name == "runtime.NumGoroutine") then some ⟨n, vs.length, (compC P fn.ntmps vs pu on false c hints).1, rs⟩ else none
    | none => none
  | none => none

def evRes (A : Arena) (σ : List AV) : List MRes → Option (List AV)
  | [] => some []
  | .tmp i :: r => (evRes A σ r).map (σ.getD i .undef :: ·)
  | .cell i b s :: r => match evLoad b s A (σ.getD i .undef), evRes A σ r with
    | some a, some l => some (a :: l)
    | _, _ => none

def pack : List AV → AV
  | [a] => a
  | l => .tup l

noncomputable def evFun (E : Env) (fuel : Nat) (mf : MFun) (args : List AV) (A : Arena) : Option (AV × Arena) :=
  if args.length = mf.n then
    match evC E fuel mf.mc (args ++ List.replicate (mf.len - mf.n) .undef) A with
    | some (.normal σ A') => (evRes A' σ mf.res).map fun l => (pack l, A')
    | some (.ret σ A') => (evRes A' σ mf.res).map fun l => (pack l, A')
    | _ => none
  else none

/-- A function, called, under a handling of yields: it leaves what 'M' says. -/
def FnSpecY (P : Program) (G : Nat → Option (List AV)) (f : FuncId) (M : Handler → List AV → Arena → Option (AV × Arena)) : Prop :=
  Enters P f ∧ ∀ ys h, HSound P G ys h → ∀ args A r A', M h args A = some (r, A') → ∀ (w : World) (OK : Nat → Prop) (g : Ghost) (vs : List Value), ARel w OK g A → IRel G ys w OK g → ListRel w OK g vs args →
    Calls P f vs.toArray w fun e w' => ∃ v OK' g', e = .returned v ∧ VRel w' OK' g' v r ∧ ARel w' OK' g' A' ∧ Ext w OK g w' OK' g'

/-- A function, called: it leaves what 'M' says. -/
def FnSpec (P : Program) (G : Nat → Option (List AV)) (f : FuncId) (M : List AV → Arena → Option (AV × Arena)) : Prop :=
  Enters P f ∧ ∀ args A r A', M args A = some (r, A') → ∀ (w : World) (OK : Nat → Prop) (g : Ghost) (vs : List Value), ARel w OK g A → GRel G w OK → ListRel w OK g vs args →
    Calls P f vs.toArray w fun e w' => ∃ v OK' g', e = .returned v ∧ VRel w' OK' g' v r ∧ ARel w' OK' g' A' ∧ Ext w OK g w' OK' g'

theorem FnSpec.y {P : Program} {G : Nat → Option (List AV)} {f : FuncId} {M : List AV → Arena → Option (AV × Arena)} (h : FnSpec P G f M) : FnSpecY P G f (fun _ => M) :=
  ⟨h.1, fun _ _ _ args A r A' he w OK g vs hA hI hl => h.2 args A r A' he w OK g vs hA hI.1 hl⟩
theorem FnSpecY.plain {P : Program} {G : Nat → Option (List AV)} {f : FuncId} {M : Handler → List AV → Arena → Option (AV × Arena)} (h : FnSpecY P G f M) : FnSpec P G f (M fun _ _ _ => none) :=
  ⟨h.1, fun args A r A' he w OK g vs hA hG hl => h.2 [] (fun _ _ _ => none) (fun _ _ _ _ _ h => by cases h) args A r A' he w OK g vs hA ⟨hG, fun y hy => by cases hy⟩ hl⟩

section
variable {P : Program} {E : Env}

theorem nodupB_iff : ∀ {l : List Nat}, nodupB l = true → l.Nodup
  | [], _ => List.nodup_nil
  | x :: r, h => by
    simp only [nodupB, Bool.and_eq_true, Bool.not_eq_true', List.contains_eq_mem, decide_eq_false_iff_not] at h
    exact List.nodup_cons.2 ⟨h.1, nodupB_iff h.2⟩

def resOne (tmps : Array Value) : ResultVar → Sem Value
  | .tmp t => pure (tmps.getD t undef)
  | .cell a t => do loadVar t (← asAddr (tmps.getD a undef))

theorem compRes_sound {vs : List Nat} {N : Nat} {base : Nat} {w : World} {OK : Nat → Prop} {g : Ghost} {σ : List AV} {A : Arena} {a : Act} (h : SRel E N vs base w OK g σ A a) :
    ∀ (rs : List ResultVar) (ms : List MRes) (l : List AV), compRes P vs rs = some ms → evRes A σ ms = some l →
      ∃ us : List Value, ListRel w OK g us l ∧ (rs.mapM (resOne a.tmps)).run P w = .ok us w
  | [], ms, l, hc, he => by
    injection hc with hc; subst hc
    injection he with he; subst he
    exact ⟨[], trivial, rfl⟩
  | .tmp t :: r, ms, l, hc, he => by
    simp only [compRes] at hc
    split at hc
    · rename_i i l' hi hl'
      injection hc with hc; subst hc
      simp only [evRes, Option.map_eq_some_iff] at he
      obtain ⟨l2, h2, rfl⟩ := he
      obtain ⟨us, k1, k2⟩ := compRes_sound h r l' l2 hl' h2
      obtain ⟨hlt, het⟩ := List.idxOf?_eq_some_iff.1 hi |> fun h => (⟨h.1, h.2.1⟩ : ∃ h : i < vs.length, vs[i] = t)
      refine ⟨a.tmps.getD t undef :: us, ⟨by rw [← het]; exact h.vars i hlt, k1⟩, ?_⟩
      simp [List.mapM_cons, resOne, k2]
    · cases hc
  | .cell x t :: r, ms, l, hc, he => by
    simp only [compRes] at hc
    split at hc
    · rename_i i ti b l' hi hti hb hl'
      injection hc with hc; subst hc
      simp only [evRes] at he
      split at he
      · rename_i y l2 h1 h2
        injection he with he; subst he
        obtain ⟨us, k1, k2⟩ := compRes_sound h r l' l2 hl' h2
        obtain ⟨hlt, het⟩ := List.idxOf?_eq_some_iff.1 hi |> fun h => (⟨h.1, h.2.1⟩ : ∃ h : i < vs.length, vs[i] = x)
        have hv := h.vars i hlt
        rw [het] at hv
        obtain ⟨u, e1, e2⟩ := evLoad_sound hti hb h.arena hv h1
        refine ⟨u :: us, ⟨e2, k1⟩, ?_⟩
        have e1' : (resOne a.tmps (.cell x t)).run P w = .ok u w := by
          have hp : ∃ ad, a.tmps.getD x undef = .pointer (some ad) := by
            generalize σ.getD i .undef = y1 at h1 hv
            cases y1 <;> first | (simp [evLoad] at h1; done) | (obtain ⟨inc, _, e, _⟩ := hv.inv_ptr; exact ⟨_, e⟩) | (obtain ⟨b, o, T, c, fz, vals, e, _⟩ := hv.inv_fp; exact ⟨_, e⟩)
          obtain ⟨ad, hp⟩ := hp
          rw [hp] at e1
          simp only [resOne, hp]
          exact e1
        simp [List.mapM_cons, e1', k2]
      · cases he
    · cases hc

/-- A block of which nothing speaks. -/
theorem ARel.putFree {w : World} {OK : Nat → Prop} {g : Ghost} {A : Arena} (h : ARel w OK g A) {D : Nat} (h1 : ¬ OK D) (h2 : ∀ id inc, inc ∈ g id → inc.b ≠ D) (o : Obj) : ARel (w.putObj D o) OK g A where
  ent id hi := (h.ent id hi).mono (fun _ h => h) (fun b hb => World.putObj_heap_other (fun e => h1 (e ▸ hb))) g.le_refl (fun inc hin => World.putObj_heap_other (h2 id inc hin))
  out := h.out
  one := h.one
  apart := h.apart
  low id inc hi := by simpa using h.low id inc hi
  ok b hb := by simpa using h.ok b hb

theorem Marks.put {base : Nat} {w : World} {OK : Nat → Prop} {g : Ghost} {D : Nat} (o : Obj) : ∀ {l : List Deferred}, (∀ d' ∈ l, d' ≠ ⟨.collected D, #[]⟩) → Marks base w OK g l → Marks base (w.putObj D o) OK g l
  | [], _, _ => trivial
  | d :: r, hd, ⟨⟨D', h1, h2, h3, h4, h5, h6⟩, hr⟩ =>
    ⟨⟨D', h1, h2, (World.putObj_heap_other (fun e => hd d (by simp) (by rw [h1, e]))).trans h3, h4, h5, h6⟩, Marks.put o (fun d' h => hd d' (by simp [h])) hr⟩

/-- the function's end: the marks are come to, the results are read -/
theorem leaves_sound {N : Nat} {vs : List Nat} {fn : Func} {mrs : List MRes} {w0 : World} {OK0 : Nat → Prop} {g0 : Ghost} {σ : List AV} {A : Arena} {l : List AV} {tm : Array Value} {R : Ending → World → Prop}
    (hcr : compRes P vs fn.results.toList = some mrs) (hl : evRes A σ mrs = some l)
    (hR : ∀ v w OK g, VRel w OK g v (pack l) → ARel w OK g A → Ext w0 OK0 g0 w OK g → R (.returned v) w) :
    ∀ (ds : List Deferred) (w : World) (OK : Nat → Prop) (g : Ghost), SRel E N vs w0.heap.size w OK g σ A { tmps := tm, defers := ds } → Ext w0 OK0 g0 w OK g → LeavesInM Fence.wide 0 P fn tm R ds .returning w
  | [], w, OK, g, hs, hx => by
    obtain ⟨us1, k1, k2⟩ := compRes_sound hs fn.results.toList mrs l hcr hl
    refine ⟨if h : us1.toArray.size = 1 then us1.toArray[0] else .tuple us1.toArray, ?_, hR _ w OK g ?_ hs.arena hx⟩
    · show (do
        let vs ← fn.results.mapM (resOne tm)
        pure (if h : vs.size = 1 then vs[0] else .tuple vs) : Sem Value).run P w = _
      rw [Array.mapM_eq_mapM_toList]
      simp [k2]
    · have hlen := k1.length
      match us1, l, k1 with
      | [], [], k1 => exact .tup _ _ [] rfl (fun _ => undef) (fun i hi => by simp at hi) (fun i hi => by simp at hi)
      | [u], [a1], k1 => exact k1.1
      | u1 :: u2 :: ur, a1 :: a2 :: ar, k1 =>
        have : ¬ (u1 :: u2 :: ur).toArray.size = 1 := by simp
        rw [dif_neg this]
        refine .tup _ _ _ (by simpa using hlen) (fun i => (u1 :: u2 :: ur).getD i undef) (fun i hi => ?_) (fun i hi => ?_)
        · have : i < (u1 :: u2 :: ur).length := by simp at hlen hi ⊢; omega
          rw [List.getElem?_toArray, List.getElem?_eq_getElem this]
          simp [List.getD_eq_getElem?_getD, List.getElem?_eq_getElem this]
        · have : i < (u1 :: u2 :: ur).length := by simp at hlen hi ⊢; omega
          have := k1.get i this hi
          simpa [List.getD_eq_getElem?_getD, List.getElem?_eq_getElem ‹i < (u1 :: u2 :: ur).length›] using this
  | d :: ds, w, OK, g, hs, hx => by
    obtain ⟨⟨D, rfl, h2, h3, h4, h5, h6⟩, hr⟩ := hs.defers
    refine ⟨by simp, .inl ⟨D, w.putObj D (.deferred none), rfl, run_takeDeferred h3, ?_⟩⟩
    have hok : ∀ b, OK b → (w.putObj D (.deferred none)).heap[b]? = w.heap[b]? := fun b hb => World.putObj_heap_other (fun e => h4 (e ▸ hb))
    have hm : ∀ {v : Value} {a : AV}, VRel w OK g v a → VRel (w.putObj D (.deferred none)) OK g v a := fun h => h.mono (fun _ h => h) hok g g.le_refl
    refine leaves_sound hcr hl hR ds _ OK g ⟨hs.size, hr.put _ h6, by simpa using hs.low, hs.len, fun i hi => hm (hs.vars i hi), hs.arena.putFree h4 h5 _,
      ⟨fun gl cs hg => (hs.glob.1 gl cs hg).mono (fun _ h => h) hok _ (Ghost.le_refl _), fun y hy => ⟨(hs.glob.2 y hy).1, (hs.glob.2 y hy).2.mono fun _ _ hv => hm hv⟩⟩⟩ ?_
    exact { os := hx.os, tape := hx.tape, output := hx.output, size := by simpa using hx.size, blk := fun b hb hu => (World.putObj_heap_other (by omega)).trans (hx.blk b hb hu), gle := hx.gle, okle := hx.okle, fresh := hx.fresh, okf := hx.okf,
            loops := fun b r hb hbusy => (World.putObj_heap_other (by have := (Array.getElem?_eq_some_iff.1 hb).1; omega)).trans (hx.loops b r hb hbusy), fix := hx.fix }

theorem evFun_calls (hE : EnvSound P E) {f : FuncId} {fn : Func} {n : Nat} {vs : List Nat} {pu : List FuncId} {on : Bool} {hints : Hints} {mf : MFun} {fuel : Nat} (hf : P.funcs[f]? = some fn) (hc : compFun P fn n vs pu on hints = some mf) (hpu : PureIn E pu) :
    Enters P f ∧ ∀ args A r A', evFun E fuel mf args A = some (r, A') → ∀ (w : World) (OK : Nat → Prop) (g : Ghost) (us : List Value), ARel w OK g A → IRel E.glob E.ys w OK g → ListRel w OK g us args →
    Calls P f us.toArray w fun e w' => ∃ v OK' g', e = .returned v ∧ VRel w' OK' g' v r ∧ ARel w' OK' g' A' ∧ Ext w OK g w' OK' g' := by
  unfold compFun at hc
  split at hc
  · rename_i c hb
    split at hc
    · rename_i rs hcr
      split at hc
      · rename_i hck
        injection hc with hc; subst hc
        simp only [Bool.and_eq_true, Bool.not_eq_true', List.all_eq_true, decide_eq_true_eq, beq_iff_eq] at hck
        obtain ⟨⟨⟨⟨h1, h2⟩, h3⟩, h4⟩, h5⟩ := hck
        have h4 : n ≤ fn.ntmps := Nat.le_of_ble_eq_true h4
        refine ⟨enters_of hf h5 hb, ?_⟩
        intro args A r A' he w OK g us hA hG hl
        unfold evFun at he
        split at he
        · rename_i hlen
          simp only at hlen
          have hul := hl.length
          have hvn := nodupB_iff h1
          have hnv : n ≤ vs.length := by
            have := congrArg List.length h3
            simp at this; omega
          have hvi : ∀ i (hi : i < n), vs[i]'(by omega) = i := fun i hi => by
            have := congrArg (fun l => l[i]?) h3
            simp [hi] at this
            have h' : i < vs.length := by omega
            simpa [h'] using this
          have hs0 : SRel E fn.ntmps vs w.heap.size w OK g (args ++ List.replicate (vs.length - n) .undef) A { tmps := us.toArray ++ Array.replicate (fn.ntmps - us.toArray.size) undef, defers := [] } := by
            refine ⟨by simp; omega, trivial, Nat.le_refl _, by simp; omega, fun i hi => ?_, hA, hG⟩
            rcases Nat.lt_or_ge i n with hlt | hge
            · have e1 := hvi i hlt
              rw [e1]
              have : i < us.length := by omega
              have e2 : (us.toArray ++ Array.replicate (fn.ntmps - us.toArray.size) undef).getD i undef = us[i] := by
                simp [Array.getD_eq_getD_getElem?, Array.getElem?_append, this]
              have e3 : (args ++ List.replicate (vs.length - n) AV.undef).getD i .undef = args[i]'(by omega) := by
                simp [List.getD_eq_getElem?_getD, List.getElem?_append, show i < args.length by omega]
              rw [e2, e3]
              exact hl.get i this (by omega)
            · have e3 : (args ++ List.replicate (vs.length - n) AV.undef).getD i .undef = .undef := by
                simp [List.getD_eq_getElem?_getD, List.getElem?_append, show ¬ i < args.length by omega, List.getElem?_replicate]
                split <;> rfl
              rw [e3]; exact .undef _ _
          have fin : ∀ (out : Out) (σ : List AV), evC E fuel (compC P fn.ntmps vs pu on false c hints).1 (args ++ List.replicate (vs.length - n) .undef) A = some out → (out = .normal σ A' ∨ out = .ret σ A') → (∃ l, evRes A' σ rs = some l ∧ pack l = r) →
              Calls P f us.toArray w fun e w' => ∃ v OK' g', e = .returned v ∧ VRel w' OK' g' v r ∧ ARel w' OK' g' A' ∧ Ext w OK g w' OK' g' := by
            intro out σ hev hout ⟨l, hl1, hl2⟩
            have hw := evC_sound hE hvn h2 hpu fuel c false none w.heap.size 0 (fun _ => rfl) hints _ A out _ w OK g hs0 hev
            refine callsIn_wide (n := 0).1 (callsIn_of_wp_marks (F := Fence.wide) hf hb trivial (wpIn_mono hw ?_))
            intro e a w1 hq
            have key : ∀ OK1 g1, SRel E fn.ntmps vs w.heap.size w1 OK1 g1 σ A' a → Ext w OK g w1 OK1 g1 →
                LeavesInM Fence.wide 0 P fn a.tmps (fun e w' => ∃ v OK' g', e = .returned v ∧ VRel w' OK' g' v r ∧ ARel w' OK' g' A' ∧ Ext w OK g w' OK' g') a.defers .returning w1 := by
              intro OK1 g1 hs1 hx1
              exact leaves_sound hcr hl1 (fun v w' OK' g' k1 k2 k3 => ⟨v, OK', g', rfl, hl2 ▸ k1, k2, k3⟩) a.defers w1 OK1 g1 hs1 hx1
            rcases hout with rfl | rfl
            · cases e <;> simp only [OutOk] at hq
              obtain ⟨OK1, g1, q1, q2⟩ := hq
              exact key OK1 g1 q1 q2
            · cases e <;> simp only [OutOk] at hq
              obtain ⟨OK1, g1, q1, q2⟩ := hq
              exact key OK1 g1 q1 q2
          simp only at he
          split at he
          · rename_i σ A1 hev
            simp only [Option.map_eq_some_iff, Prod.mk.injEq] at he
            obtain ⟨l, e1, e2, rfl⟩ := he
            exact fin _ σ hev (.inl rfl) ⟨l, e1, e2⟩
          · rename_i σ A1 hev
            simp only [Option.map_eq_some_iff, Prod.mk.injEq] at he
            obtain ⟨l, e1, e2, rfl⟩ := he
            exact fin _ σ hev (.inr rfl) ⟨l, e1, e2⟩
          · cases he
        · cases he
      · cases hc
    · cases hc
  · cases hc

/-! ### the evaluation does not look at the loops under way -/

theorem evX_ys (ys' : List Yld) (σ T : List AV) (x : MX) : evX { E with ys := ys' } σ T x = evX E σ T x := by cases x <;> rfl
theorem evOps_ys (ys' : List Yld) : ∀ (l : List MO) (σ T : List AV) (A : Arena), evOps { E with ys := ys' } l σ T A = evOps E l σ T A
  | [], σ, T, A => rfl
  | o :: l, σ, T, A => by
    have hx : evX { E with ys := ys' } σ T = evX E σ T := funext fun x => evX_ys ys' σ T x
    have hs : ∀ (ρ : MX → AV) (m : MOp), evStep { E with ys := ys' } ρ A m = evStep E ρ A m := fun ρ m => by cases m <;> rfl
    simp only [evOps, hx, hs, evOps_ys ys' l]
theorem evOpsF_ys (ys' : List Yld) (pu : List FuncId) : ∀ (l : List MO) (σ T : List AV) (A : Arena) (fs : List Foot), evOpsF { E with ys := ys' } pu l σ T A fs = evOpsF E pu l σ T A fs
  | [], σ, T, A, fs => rfl
  | o :: l, σ, T, A, fs => by
    have hx : evX { E with ys := ys' } σ T = evX E σ T := funext fun x => evX_ys ys' σ T x
    have hs : ∀ (ρ : MX → AV) (m : MOp), evStep { E with ys := ys' } ρ A m = evStep E ρ A m := fun ρ m => by cases m <;> rfl
    have hf : ∀ (ρ : MX → AV) (m : MOp), footOp { E with ys := ys' } pu ρ A m = footOp E pu ρ A m := fun ρ m => by cases m <;> rfl
    simp only [evOpsF, hx, hs, hf, evOpsF_ys ys' pu l]
theorem evC_ys (ys' : List Yld) (fuel : Nat) : ∀ c : MC, evC { E with ys := ys' } fuel c = evC E fuel c := by
  intro c
  have hx : ∀ σ T, evX { E with ys := ys' } σ T = evX E σ T := fun σ T => funext fun x => evX_ys ys' σ T x
  induction c with
  | region ops => funext σ A; simp only [evC, evOps_ys]
  | regionD pu ops pairs => funext σ A; simp only [evC, evOpsF_ys]
  | seq a b iha ihb => funext σ A; simp only [evC, iha, ihb]
  | cond c a b iha ihb => funext σ A; simp only [evC, iha, ihb, hx]
  | block id a iha => funext σ A; simp only [evC, iha]
  | loop mask a iha => funext σ A; simp only [evC, iha]
  | rangeFunc f ps a b iha ihb => funext σ A; simp only [evC, iha, ihb, hx]
  | scope a iha => funext σ A; simp only [evC, iha]
  | _ => rfl
theorem evFun_ys (ys' : List Yld) (fuel : Nat) (mf : MFun) (args : List AV) (A : Arena) : evFun { E with ys := ys' } fuel mf args A = evFun E fuel mf args A := by
  unfold evFun; simp only [evC_ys]
end
end Go.Proofs.Ytemklhljjaniaaa
/-
  What is known of calls: functions by their models. Program-independent.
-/
namespace Go.Proofs.Ytemklhljjaniaaa
open Go

abbrev Model := List AV → Arena → Option (AV × Arena)
abbrev PModel := List AV → Option AV

abbrev HModel := Handler → Model

def lookM : List (FuncId × HModel) → FuncId → Option HModel
  | [], _ => none
  | (g, M) :: r, f => if f = g then some M else lookM r f

def callM (fs : List (FuncId × HModel)) (h : Handler) : Handler := fun fv args A =>
  match fv with
  | .func (.func f) first cap => match lookM fs f with
    | some M => M h (first ++ args ++ cap) A
    | none => none
  | _ => none

/-- what is known of calls, yields being handled so -/
def envY (G : Nat → Option (List AV)) (fs : List (FuncId × HModel)) (h : Handler) : Env := ⟨callM fs, G, [], h⟩
def envOf (G : Nat → Option (List AV)) (fs : List (FuncId × HModel)) : Env := envY G fs fun _ _ _ => none

/-- A function that leaves no mark: of trees without references to such trees. -/
def PureSpec (P : Program) (G : Nat → Option (List AV)) (f : FuncId) (M : PModel) : Prop :=
  Enters P f ∧ ∀ args r, M args = some r → ∀ (w : World) (OK : Nat → Prop) (vs : List Value), (∀ b, OK b → b < w.heap.size) → GRel G w OK → ListRel w OK Ghost.none vs args →
    Calls P f vs.toArray w fun e w' => ∃ v OK', e = .returned v ∧ VRel w' OK' Ghost.none v r ∧ (∀ b, OK' b → b < w'.heap.size) ∧ Ext w OK Ghost.none w' OK' Ghost.none

/-- no reference at all -/
def scalarB : Nat → AV → Bool
  | _, .bool _ => true
  | _, .int .. => true
  | _, .str _ => true
  | _, .nilS => true
  | _, .nilP => true
  | _, .nilM => true
  | _, .nilF => true
  | _, .nilI => true
  | _, .undef => true
  | n + 1, .agg cs => cs.all (scalarB n)
  | n + 1, .tup cs => cs.all (scalarB n)
  | n + 1, .iface _ v => scalarB n v
  | _, _ => false

/-- the model of a function that leaves no mark, among others -/
def pureM (n : Nat) (M : PModel) : Model := fun args A =>
  match M (args.map (frz A n)) with
  | some r => if scalarB n r || args.all (noRefB n) then some (r, A) else none
  | none => none

def pureH (n : Nat) (M : PModel) : HModel := fun _ => pureM n M

section
variable {P : Program} {G : Nat → Option (List AV)}

theorem scalarB_any {w w' : World} {OK OK' : Nat → Prop} {g g' : Ghost} : ∀ (n : Nat) (a : AV) (v : Value), scalarB n a = true → VRel w OK g v a → VRel w' OK' g' v a := by
  intro n
  induction n with
  | zero =>
    intro a v hs h
    cases a <;> simp only [scalarB, Bool.false_eq_true] at hs <;> first
      | exact .undef _ _
      | (have e := h.inv_bool; rw [e]; exact .bool _ _)
      | (have e := h.inv_int; rw [e]; exact .int _ _ _)
      | (obtain ⟨s, e, hs⟩ := h.inv_str; rw [e]; exact .str _ _ _ hs)
      | (obtain ⟨p, e⟩ := h.inv_nilS; rw [e]; exact .nilS _ _)
      | (have e := h.inv_nilP; rw [e]; exact .nilP _)
      | (have e := h.inv_nilM; rw [e]; exact .nilM _)
      | (cases h; exact .nilF _)
      | (cases h; exact .nilI _)
  | succ n ih =>
    intro a v hs h
    cases a <;> simp only [scalarB, Bool.false_eq_true] at hs <;> try first
      | exact .undef _ _
      | (have e := h.inv_bool; rw [e]; exact .bool _ _)
      | (have e := h.inv_int; rw [e]; exact .int _ _ _)
      | (obtain ⟨s, e, hs⟩ := h.inv_str; rw [e]; exact .str _ _ _ hs)
      | (obtain ⟨p, e⟩ := h.inv_nilS; rw [e]; exact .nilS _ _)
      | (have e := h.inv_nilP; rw [e]; exact .nilP _)
      | (have e := h.inv_nilM; rw [e]; exact .nilM _)
      | (cases h; exact .nilF _)
      | (cases h; exact .nilI _)
    case agg cs =>
      simp only [List.all_eq_true] at hs
      obtain ⟨vs, vals, rfl, hl, hg, hv⟩ := h.inv_agg
      exact .agg _ vs _ hl vals hg (fun i hi => ih _ _ (hs _ (List.getElem_mem hi)) (hv i hi))
    case tup cs =>
      simp only [List.all_eq_true] at hs
      obtain ⟨vs, vals, rfl, hl, hg, hv⟩ := h.inv_tup
      exact .tup _ vs _ hl vals hg (fun i hi => ih _ _ (hs _ (List.getElem_mem hi)) (hv i hi))
    case iface t x =>
      cases h with
      | iface _ t v a hv => exact .iface _ t v _ (ih _ _ hs hv)

theorem noRefB_none {w : World} {OK : Nat → Prop} {g : Ghost} {A : Arena} : ∀ (n : Nat) (a : AV) (v : Value), noRefB n a = true → VRel w OK g v a → VRel w OK Ghost.none v (frz A n a) := by
  intro n
  induction n with
  | zero =>
    intro a v hs h
    cases a <;> simp only [noRefB, Bool.false_eq_true] at hs <;> simp only [frz] <;> first
      | exact .undef _ _
      | (have e := h.inv_bool; rw [e]; exact .bool _ _)
      | (have e := h.inv_int; rw [e]; exact .int _ _ _)
      | (obtain ⟨s, e, hs⟩ := h.inv_str; rw [e]; exact .str _ _ _ hs)
      | (obtain ⟨p, e⟩ := h.inv_nilS; rw [e]; exact .nilS _ _)
      | (have e := h.inv_nilP; rw [e]; exact .nilP _)
      | (have e := h.inv_nilM; rw [e]; exact .nilM _)
      | (cases h; exact .nilF _)
      | (cases h; exact .nilI _)
      | (obtain ⟨b, o, cap, T, c, fz, vals, e, hb, hh, hcap, hv, hs, hc⟩ := h.inv_fs; rw [e]; exact .fs _ b o cap _ T c fz _ vals hb hh hcap hv hs hc)
      | (obtain ⟨b, o, T, c, fz, vals, e, hb, hh, hne, hv, hc⟩ := h.inv_fp; rw [e]; exact .fp _ b o T c fz _ vals hb hh hne hv hc)
  | succ n ih =>
    intro a v hs h
    cases a <;> simp only [noRefB, Bool.false_eq_true] at hs <;> simp only [frz] <;> try first
      | exact .undef _ _
      | (have e := h.inv_bool; rw [e]; exact .bool _ _)
      | (have e := h.inv_int; rw [e]; exact .int _ _ _)
      | (obtain ⟨s, e, hs⟩ := h.inv_str; rw [e]; exact .str _ _ _ hs)
      | (obtain ⟨p, e⟩ := h.inv_nilS; rw [e]; exact .nilS _ _)
      | (have e := h.inv_nilP; rw [e]; exact .nilP _)
      | (have e := h.inv_nilM; rw [e]; exact .nilM _)
      | (cases h; exact .nilF _)
      | (cases h; exact .nilI _)
      | (obtain ⟨b, o, cap, T, c, fz, vals, e, hb, hh, hcap, hv, hs, hc⟩ := h.inv_fs; rw [e]; exact .fs _ b o cap _ T c fz _ vals hb hh hcap hv hs hc)
      | (obtain ⟨b, o, T, c, fz, vals, e, hb, hh, hne, hv, hc⟩ := h.inv_fp; rw [e]; exact .fp _ b o T c fz _ vals hb hh hne hv hc)
    case agg cs =>
      simp only [List.all_eq_true] at hs
      obtain ⟨vs, vals, rfl, hl, hg, hv⟩ := h.inv_agg
      exact .agg _ vs _ (by simpa using hl) vals (fun i hi => hg i (by simpa using hi)) (fun i hi => by simp only [List.getElem_map]; exact ih _ _ (hs _ (List.getElem_mem _)) (hv i (by simpa using hi)))
    case tup cs =>
      simp only [List.all_eq_true] at hs
      obtain ⟨vs, vals, rfl, hl, hg, hv⟩ := h.inv_tup
      exact .tup _ vs _ (by simpa using hl) vals (fun i hi => hg i (by simpa using hi)) (fun i hi => by simp only [List.getElem_map]; exact ih _ _ (hs _ (List.getElem_mem _)) (hv i (by simpa using hi)))
    case func fn c1 c2 =>
      simp only [Bool.and_eq_true, List.all_eq_true] at hs
      obtain ⟨vs1, vs2, vals1, vals2, rfl, hl1, hl2, hg1, hg2, hv1, hv2⟩ := h.inv_func
      exact .func _ fn vs1 vs2 _ _ (by simpa using hl1) (by simpa using hl2) vals1 vals2 (fun i hi => hg1 i (by simpa using hi)) (fun i hi => hg2 i (by simpa using hi))
        (fun i hi => by simp only [List.getElem_map]; exact ih _ _ (hs.1 _ (List.getElem_mem _)) (hv1 i (by simpa using hi))) (fun i hi => by simp only [List.getElem_map]; exact ih _ _ (hs.2 _ (List.getElem_mem _)) (hv2 i (by simpa using hi)))
    case iface t x =>
      cases h with
      | iface _ t v a hv => exact .iface _ t v _ (ih _ _ hs hv)

theorem ListRel.map {w : World} {OK OK' : Nat → Prop} {g g' : Ghost} {vs : List Value} {l : List AV} {F : AV → AV} (h : ListRel w OK g vs l) (hm : ∀ v a, a ∈ l → VRel w OK g v a → VRel w OK' g' v (F a)) : ListRel w OK' g' vs (l.map F) := by
  induction vs generalizing l with
  | nil => cases l with
    | nil => exact trivial
    | cons a r => exact h.elim
  | cons v vs ih => cases l with
    | nil => exact h.elim
    | cons a r => exact ⟨hm v a (by simp) h.1, ih h.2 fun v a ha => hm v a (by simp [ha])⟩

theorem FnSpec.of_pure {f : FuncId} {M : PModel} (h : PureSpec P G f M) (n : Nat) : FnSpec P G f (pureM n M) := by
  refine ⟨h.1, ?_⟩
  intro args A r A' he w OK g vs hA hG hl
  unfold pureM at he
  split at he
  · rename_i r0 hM
    split at he
    · rename_i hc
      injection he with he
      injection he with e1 e2
      subst e1; subst e2
      by_cases hn : args.all (noRefB n) = true
      · have hn' := List.all_eq_true.1 hn
        refine (h.2 _ _ hM w OK vs hA.ok hG (hl.map fun v a ha hv => noRefB_none n a v (hn' a ha) hv)).mono ?_
        rintro e w' ⟨v, OK', rfl, hv, hok', hx⟩
        have hb : ∀ b, b < w.heap.size → w'.heap[b]? = w.heap[b]? := fun b hb => hx.blk b hb (fun _ _ (hi : _ ∈ []) => by cases hi)
        exact ⟨v, OK', g, rfl, hv.none_to, hA.keep hx.size hb OK' hx.okle hx.okf hok', hx.os, hx.tape, hx.output, hx.size, fun b hb' _ => hb b hb', g.le_refl, hx.okle, fun id inc hi => .inl ⟨id, inc, hi, rfl⟩, hx.okf, hx.loops, fun _ _ _ _ => rfl⟩
      · have hsc : scalarB n r0 = true := by simpa [hn] using hc
        have hok2 : ∀ b, (OK b ∨ ∃ id inc, inc ∈ g id ∧ inc.b = b) → b < w.heap.size := fun b hb => by
          rcases hb with hb | ⟨id, inc, hi, rfl⟩
          · exact hA.ok b hb
          · exact hA.low id inc hi
        have hl2 : ListRel w (fun b => OK b ∨ ∃ id inc, inc ∈ g id ∧ inc.b = b) Ghost.none vs (args.map (frz A n)) := hl.map fun v a _ hv => frz_sound hA (fun b hb => Or.inl hb) (fun id inc _ hi => Or.inr ⟨id, inc, hi, rfl⟩) n a v hv
        refine (h.2 _ _ hM w (fun b => OK b ∨ ∃ id inc, inc ∈ g id ∧ inc.b = b) vs hok2 (fun gl cs hg => (hG gl cs hg).mono (fun b hb => .inl hb) (fun _ _ => rfl) _ (Ghost.le_refl _)) hl2).mono ?_
        -- frz_sound hA (fun b hb => Or.inl hb) (fun id inc _ hi => Or.inr ⟨id, inc, hi, rfl⟩) n a v hv)).mono ?_
        rintro e w' ⟨v, OK', rfl, hv, hok', hx⟩
        have hb : ∀ b, b < w.heap.size → w'.heap[b]? = w.heap[b]? := fun b hb => hx.blk b hb (fun _ _ (hi : _ ∈ []) => by cases hi)
        exact ⟨v, OK, g, rfl, scalarB_any n _ _ hsc hv, hA.keep hx.size hb OK (fun _ h => h) (fun _ h => .inl h) (fun b hb => Nat.lt_of_lt_of_le (hA.ok b hb) hx.size), hx.os, hx.tape, hx.output, hx.size, fun b hb' _ => hb b hb', g.le_refl, fun _ h => h, fun id inc hi => .inl ⟨id, inc, hi, rfl⟩, fun _ h => .inl h, hx.loops, fun _ _ _ _ => rfl⟩
    · cases he
  · cases he

theorem ARel.nil {w : World} {OK : Nat → Prop} (h : ∀ b, OK b → b < w.heap.size) : ARel w OK Ghost.none [] :=
  ⟨fun id hi => by simp at hi, fun _ _ => rfl, fun _ _ _ _ _ _ (hi : _ ∈ []) => (by cases hi), fun _ _ (hi : _ ∈ []) => (by cases hi), fun _ _ (hi : _ ∈ []) => (by cases hi), h⟩

theorem PureSpec.of_fn {f : FuncId} {M' : Model} {M : PModel} (h : FnSpec P G f M') (n : Nat) (hM : ∀ args r, M args = some r → ∃ r0 A', M' args [] = some (r0, A') ∧ frz A' n r0 = r) : PureSpec P G f M := by
  refine ⟨h.1, ?_⟩
  intro args r he w OK vs hok hG hl
  obtain ⟨r0, A', h1, rfl⟩ := hM args r he
  refine (h.2 _ _ _ _ h1 w OK Ghost.none vs (ARel.nil hok) hG hl).mono ?_
  rintro e w' ⟨v, OK', g', rfl, hv, hA, hx⟩
  refine ⟨v, fun b => OK' b ∨ ∃ id inc, inc ∈ g' id ∧ inc.b = b, rfl, frz_sound hA (fun b hb => .inl hb) (fun id inc _ hi => .inr ⟨id, inc, hi, rfl⟩) n r0 v hv, ?_, ?_⟩
  · rintro b (hb | ⟨id, inc, hi, rfl⟩)
    · exact hA.ok b hb
    · exact hA.low id inc hi
  · refine ⟨hx.os, hx.tape, hx.output, hx.size, hx.blk, Ghost.le_refl _, fun b hb => .inl (hx.okle b hb), fun _ _ (hi : _ ∈ []) => (by cases hi), ?_, hx.loops, fun _ _ _ _ => rfl⟩
    rintro b (hb | ⟨id, inc, hi, rfl⟩)
    · exact hx.okf b hb
    · rcases hx.fresh id inc hi with ⟨_, _, h0, _⟩ | h1
      · cases h0
      · exact .inr h1

theorem noRef_frz {A B : Arena} : ∀ (n : Nat) (a : AV), noRefB n a = true → frz B n a = frz A n a := by
  intro n
  induction n with
  | zero => intro a h; cases a <;> simp [noRefB] at h <;> rfl
  | succ n ih =>
    intro a h
    cases a <;> simp only [noRefB, Bool.and_eq_true, List.all_eq_true, Bool.false_eq_true] at h <;> simp only [frz]
    · congr 1; exact List.map_congr_left fun x hx => ih x (h x hx)
    · congr 1; exact List.map_congr_left fun x hx => ih x (h x hx)
    · congr 1
      · exact List.map_congr_left fun x hx => ih x (h.1 x hx)
      · exact List.map_congr_left fun x hx => ih x (h.2 x hx)
    · rw [ih _ h]

theorem PureIn.cons {fs : List (FuncId × HModel)} {h0 : Handler} {f : FuncId} {pu : List FuncId} {M : PModel} (h : lookM fs f = some (pureH 4 M)) (hr : PureIn (envY G fs h0) pu) : PureIn (envY G fs h0) (f :: pu) := by
  intro k hk hh args A r A' he
  rcases List.mem_cons.1 hk with rfl | hk
  · simp only [envY, callM, h, pureH, pureM, List.nil_append, List.append_nil] at he ⊢
    split at he
    · rename_i r' hM
      simp only [Option.ite_none_right_eq_some, Option.some.injEq, Prod.mk.injEq] at he
      obtain ⟨hc, rfl, rfl⟩ := he
      refine ⟨rfl, fun hn B => ?_⟩
      have hm : args.map (frz B 4) = args.map (frz A 4) := List.map_congr_left fun x hx => noRef_frz 4 x (List.all_eq_true.1 hn x hx)
      rw [hm, hM]
      simp only [hc, if_true]
    · cases he
  · exact hr k hk hh args A r A' he

theorem envY_sound {fs : List (FuncId × HModel)} (hfs : ∀ f M, lookM fs f = some M → FnSpecY P G f M) {ys : List Yld} {h0 : Handler} (h0s : HSound P G ys h0) : EnvSound P { envY G fs h0 with ys := ys } := by
  refine ⟨h0s, ?_⟩
  intro ys' hd hsub hds fv args A r A' he w OK g v vs hA hG hv hl
  simp only [envY, callM] at he
  split at he
  · rename_i f first cap
    split at he
    · rename_i M hM
      obtain ⟨vs1, vs2, vals1, vals2, rfl, hl1, hl2, hg1, hg2, hv1, hv2⟩ := hv.inv_func
      obtain ⟨hen, hcall⟩ := hfs f M hM
      have hlist : ListRel w OK g (vs1.toList ++ vs ++ vs2.toList) (first ++ args ++ cap) := by
        have hll := hl.length
        refine ListRel.of_get (by simp [hl1, hl2, hll]) (fun i h1 h2 => ?_)
        simp only [List.getElem_append]
        simp only [List.length_append, Array.length_toList, hl1, hll]
        have k1 : ∀ i (h : i < vs1.toList.length) (h' : i < first.length), VRel w OK g vs1.toList[i] first[i] := fun i h h' => by
          have := hg1 i h'
          rw [Array.getElem?_eq_getElem (by rw [hl1]; exact h')] at this
          injection this with this
          simp only [Array.getElem_toList, this]; exact hv1 i h'
        have k2 : ∀ i (h : i < vs2.toList.length) (h' : i < cap.length), VRel w OK g vs2.toList[i] cap[i] := fun i h h' => by
          have := hg2 i h'
          rw [Array.getElem?_eq_getElem (by rw [hl2]; exact h')] at this
          injection this with this
          simp only [Array.getElem_toList, this]; exact hv2 i h'
        split
        · split
          · exact k1 _ _ _
          · exact hl.get _ _ _
        · exact k2 _ _ _
      have := hcall ys' hd hds _ _ _ _ he w OK g _ hA hG hlist
      refine ⟨⟨.fn (.func f) vs2, vs1 ++ vs.toArray⟩, f, (vs1.toList ++ vs ++ vs2.toList).toArray, rfl, ?_, this⟩
      have e : (vs1.toList ++ vs ++ vs2.toList).toArray = vs1 ++ vs.toArray ++ vs2 := by simp
      rw [e]
      exact hen _ w
    · cases he
  · cases he

theorem envOf_sound {fs : List (FuncId × HModel)} (hfs : ∀ f M, lookM fs f = some M → FnSpecY P G f M) : EnvSound P (envOf G fs) :=
  envY_sound hfs (h0 := fun _ _ _ => none) (ys := []) (fun _ _ _ _ _ h => by cases h)

/-- a function, from what is known of those that it calls -/
theorem evFun_sound {E : Env} (hE : EnvSound P E) (hys : E.ys = []) {f : FuncId} {fn : Func} {n : Nat} {vs : List Nat} {pu : List FuncId} {on : Bool} {hints : Hints} {mf : MFun} {fuel : Nat} (hf : P.funcs[f]? = some fn) (hc : compFun P fn n vs pu on hints = some mf) (hpu : PureIn E pu) :
    FnSpec P E.glob f (evFun E fuel mf) := by
  obtain ⟨h1, h2⟩ := evFun_calls (fuel := fuel) hE hf hc hpu
  exact ⟨h1, fun args A r A' he w OK g us hA hG hl => h2 args A r A' he w OK g us hA ⟨hG, fun y hy => by rw [hys] at hy; cases hy⟩ hl⟩

/-- a function that calls yield -/
theorem evFun_soundY {fs : List (FuncId × HModel)} (hfs : ∀ f M, lookM fs f = some M → FnSpecY P G f M) {f : FuncId} {fn : Func} {n : Nat} {vs : List Nat} {pu : List FuncId} {on : Bool} {hints : Hints} {mf : MFun} {fuel : Nat} (hf : P.funcs[f]? = some fn) (hc : compFun P fn n vs pu on hints = some mf) (hpu : PureIn (envOf G fs) pu := by first | exact PureIn.nil | (repeat (first | exact PureIn.nil | refine PureIn.cons (M := _) rfl ?_))) :
    FnSpecY P G f (fun h => evFun (envY G fs h) fuel mf) := by
  refine ⟨(evFun_calls (fuel := fuel) (envOf_sound hfs) hf hc hpu).1, fun ys h hh args A r A' he => ?_⟩
  have := (evFun_calls (fuel := fuel) (envY_sound hfs hh) hf hc hpu).2 args A r A' (by rw [evFun_ys]; exact he)
  exact this

theorem FnSpecY.of_pure {f : FuncId} {M : PModel} (h : PureSpec P G f M) (n : Nat) : FnSpecY P G f (pureH n M) := (FnSpec.of_pure h n).y

theorem lookM_nil {Q : FuncId → HModel → Prop} : ∀ f M, lookM [] f = some M → Q f M := fun _ _ h => by cases h
theorem lookM_cons {Q : FuncId → HModel → Prop} {g : FuncId} {N : HModel} {r : List (FuncId × HModel)} (h1 : Q g N) (h2 : ∀ f M, lookM r f = some M → Q f M) : ∀ f M, lookM ((g, N) :: r) f = some M → Q f M := fun f M h => by
  simp only [lookM] at h
  split at h
  · rename_i e; injection h with h; subst h; subst e; exact h1
  · exact h2 f M h
end
end Go.Proofs.Ytemklhljjaniaaa
/-
  Evaluation with what is still to come as data: the laws by which 'simp' runs a function. Program-independent.
-/
namespace Go.Proofs.Ytemklhljjaniaaa
open Go

inductive KC where
  | code (c : MC)
  | ops (l : List MO) (T : List AV)
  | opsF (pu : List FuncId) (l : List MO) (T : List AV) (fs : List Foot) (pairs : List (Nat × Nat))
  | blk (id : Nat)

noncomputable def evK (E : Env) (fuel : Nat) : List KC → Option Out → Option Out
  | [], o => o
  | .code c :: k, some (.normal σ A) => evK E fuel k (evC E fuel c σ A)
  | .ops l T :: k, some (.normal σ A) => evK E fuel k ((evOps E l σ T A).map fun x => .normal x.1 x.2)
  | .opsF pu l T fs pairs :: k, some (.normal σ A) => evK E fuel k (match evOpsF E pu l σ T A fs with
    | some (σ', A', fs') => if pairs.all (fun p => (fs'.getD p.1 .no).apart (fs'.getD p.2 .no)) then some (.normal σ' A') else none
    | none => none)
  | .blk id :: k, some (.exit id' σ A) => evK E fuel k (if id' = id then some (.normal σ A) else some (.exit id' σ A))
  | _ :: k, o => evK E fuel k o

noncomputable def run (E : Env) (fuel : Nat) (k : List KC) (σ : List AV) (A : Arena) : Option Out := evK E fuel k (some (.normal σ A))
noncomputable def exits (E : Env) (fuel : Nat) (id : Nat) (k : List KC) (σ : List AV) (A : Arena) : Option Out := evK E fuel k (some (.exit id σ A))
noncomputable def after (E : Env) (fuel : Nat) (k : List KC) (o : Out) : Option Out := evK E fuel k (some o)

section
variable {E : Env} {fuel : Nat} {σ : List AV} {A : Arena} {k : List KC}

theorem evK_none : ∀ k, evK E fuel k none = none
  | [] => rfl
  | .code _ :: k => by simp [evK, evK_none k]
  | .ops _ _ :: k => by simp [evK, evK_none k]
  | .opsF .. :: k => by simp [evK, evK_none k]
  | .blk _ :: k => by simp [evK, evK_none k]
theorem evK_ret : ∀ k, evK E fuel k (some (.ret σ A)) = some (.ret σ A)
  | [] => rfl
  | .code _ :: k => by simp [evK, evK_ret k]
  | .ops _ _ :: k => by simp [evK, evK_ret k]
  | .opsF .. :: k => by simp [evK, evK_ret k]
  | .blk _ :: k => by simp [evK, evK_ret k]

theorem evC_run (c : MC) : evC E fuel c σ A = run E fuel [.code c] σ A := rfl
theorem run_nil : run E fuel [] σ A = some (.normal σ A) := rfl
theorem run_skip : run E fuel (.code .skip :: k) σ A = run E fuel k σ A := rfl
theorem run_seq (a b : MC) : run E fuel (.code (.seq a b) :: k) σ A = run E fuel (.code a :: .code b :: k) σ A := by
  simp only [run, evK, evC]
  cases evC E fuel a σ A with
  | none => simp [evK_none]
  | some o => cases o <;> simp [evK]
theorem run_region (l : List MO) : run E fuel (.code (.region l) :: k) σ A = run E fuel (.ops l [] :: k) σ A := rfl
theorem run_regionD (pu : List FuncId) (l : List MO) (pairs : List (Nat × Nat)) : run E fuel (.code (.regionD pu l pairs) :: k) σ A = run E fuel (.opsF pu l [] [] pairs :: k) σ A := rfl
theorem run_block (id : Nat) (a : MC) : run E fuel (.code (.block id a) :: k) σ A = run E fuel (.code a :: .blk id :: k) σ A := by
  simp only [run, evK, evC]
  cases evC E fuel a σ A with
  | none => simp [evK_none]
  | some o => cases o <;> simp [evK, evK_ret]
theorem run_blk (id : Nat) : run E fuel (.blk id :: k) σ A = run E fuel k σ A := rfl
theorem run_scope (a : MC) : run E fuel (.code (.scope a) :: k) σ A = run E fuel (.code a :: k) σ A := rfl
theorem run_kill (mask : List Nat) : run E fuel (.code (.kill mask) :: k) σ A = run E fuel k (clear mask σ) A := rfl
theorem run_ret : run E fuel (.code .ret :: k) σ A = some (.ret σ A) := evK_ret _
theorem run_exit (id : Nat) : run E fuel (.code (.exit id) :: k) σ A = exits E fuel id k σ A := rfl
theorem exits_nil (id : Nat) : exits E fuel id [] σ A = some (.exit id σ A) := rfl
theorem exits_code (id : Nat) (c : MC) : exits E fuel id (.code c :: k) σ A = exits E fuel id k σ A := rfl
theorem exits_ops (id : Nat) (l : List MO) (T : List AV) : exits E fuel id (.ops l T :: k) σ A = exits E fuel id k σ A := rfl
theorem exits_opsF (id : Nat) (pu : List FuncId) (l : List MO) (T : List AV) (fs : List Foot) (pairs : List (Nat × Nat)) : exits E fuel id (.opsF pu l T fs pairs :: k) σ A = exits E fuel id k σ A := rfl
theorem exits_blk (id : Nat) : exits E fuel id (.blk id :: k) σ A = run E fuel k σ A := by simp [exits, evK, run]
theorem exits_blk_ne (id id' : Nat) (h : id ≠ id') : exits E fuel id (.blk id' :: k) σ A = exits E fuel id k σ A := by simp [exits, evK, h]
theorem run_cond (c : MX) (a b : MC) (t : Bool) (h : evX E σ [] c = .bool t) : run E fuel (.code (.cond c a b) :: k) σ A = if t then run E fuel (.code a :: k) σ A else run E fuel (.code b :: k) σ A := by
  simp only [run, evK, evC, h]; cases t <;> rfl
theorem run_cond_t (c : MX) (a b : MC) (h : evX E σ [] c = .bool true) : run E fuel (.code (.cond c a b) :: k) σ A = run E fuel (.code a :: k) σ A := by
  rw [run_cond c a b true h]; rfl
theorem run_cond_f (c : MX) (a b : MC) (h : evX E σ [] c = .bool false) : run E fuel (.code (.cond c a b) :: k) σ A = run E fuel (.code b :: k) σ A := by
  rw [run_cond c a b false h]; rfl
theorem run_ops_nil (T : List AV) : run E fuel (.ops [] T :: k) σ A = run E fuel k σ A := rfl
theorem run_op (d : Option Nat) (op : MOp) (rest : List MO) (T : List AV) : run E fuel (.ops (⟨d, op, none⟩ :: rest) T :: k) σ A =
    match evStep E (evX E σ T) A op with
    | some (v, A') => run E fuel (.ops rest (T ++ [v]) :: k) (setVar σ d v) A'
    | none => none := by
  simp only [run, evK, evOps, evGuard]
  cases evStep E (evX E σ T) A op with
  | none => simp [evK_none]
  | some x => rfl
theorem run_op_wanted (d : Option Nat) (op : MOp) (rest : List MO) (T : List AV) (x : MX) (want : Bool) (h : evX E σ T x = .bool want) : run E fuel (.ops (⟨d, op, some (x, want)⟩ :: rest) T :: k) σ A =
    match evStep E (evX E σ T) A op with
    | some (v, A') => run E fuel (.ops rest (T ++ [v]) :: k) (setVar σ d v) A'
    | none => none := by
  simp only [run, evK, evOps, evGuard, h]
  cases want <;> cases evStep E (evX E σ T) A op <;> simp [evK_none]
theorem run_op_unwanted (d : Option Nat) (op : MOp) (rest : List MO) (T : List AV) (x : MX) (want : Bool) (h : evX E σ T x = .bool (!want)) : run E fuel (.ops (⟨d, op, some (x, want)⟩ :: rest) T :: k) σ A =
    run E fuel (.ops rest (T ++ [.tup []]) :: k) (setVar σ d (.tup [])) A := by
  simp only [run, evK, evOps, evGuard, h]
  cases want <;> rfl
theorem run_op_idle (d : Option Nat) (op : MOp) (rest : List MO) (T : List AV) (x : MX) (want : Bool) (h : evX E σ T x = .tup []) : run E fuel (.ops (⟨d, op, some (x, want)⟩ :: rest) T :: k) σ A =
    run E fuel (.ops rest (T ++ [.tup []]) :: k) (setVar σ d (.tup [])) A := by
  simp only [run, evK, evOps, evGuard, h]

theorem run_opsF_nil (pu : List FuncId) (T : List AV) (fs : List Foot) (pairs : List (Nat × Nat)) : run E fuel (.opsF pu [] T fs pairs :: k) σ A = if pairs.all (fun p => (fs.getD p.1 .no).apart (fs.getD p.2 .no)) then run E fuel k σ A else none := by
  simp only [run, evK, evOpsF]
  split
  · rfl
  · exact evK_none _
theorem run_opF (pu : List FuncId) (d : Option Nat) (op : MOp) (rest : List MO) (T : List AV) (fs : List Foot) (pairs : List (Nat × Nat)) : run E fuel (.opsF pu (⟨d, op, none⟩ :: rest) T fs pairs :: k) σ A =
    match evStep E (evX E σ T) A op with
    | some (v, A') => run E fuel (.opsF pu rest (T ++ [v]) (fs ++ [footOp E pu (evX E σ T) A op]) pairs :: k) (setVar σ d v) A'
    | none => none := by
  simp only [run, evK, evOpsF, evGuard]
  cases evStep E (evX E σ T) A op with
  | none => simp [evK_none]
  | some x => rfl
theorem run_opF_wanted (pu : List FuncId) (d : Option Nat) (op : MOp) (rest : List MO) (T : List AV) (fs : List Foot) (pairs : List (Nat × Nat)) (x : MX) (want : Bool) (h : evX E σ T x = .bool want) : run E fuel (.opsF pu (⟨d, op, some (x, want)⟩ :: rest) T fs pairs :: k) σ A =
    match evStep E (evX E σ T) A op with
    | some (v, A') => run E fuel (.opsF pu rest (T ++ [v]) (fs ++ [footOp E pu (evX E σ T) A op]) pairs :: k) (setVar σ d v) A'
    | none => none := by
  simp only [run, evK, evOpsF, evGuard, h]
  cases want <;> cases evStep E (evX E σ T) A op <;> simp [evK_none]
theorem run_opF_unwanted (pu : List FuncId) (d : Option Nat) (op : MOp) (rest : List MO) (T : List AV) (fs : List Foot) (pairs : List (Nat × Nat)) (x : MX) (want : Bool) (h : evX E σ T x = .bool (!want)) : run E fuel (.opsF pu (⟨d, op, some (x, want)⟩ :: rest) T fs pairs :: k) σ A =
    run E fuel (.opsF pu rest (T ++ [.tup []]) (fs ++ [.no]) pairs :: k) (setVar σ d (.tup [])) A := by
  simp only [run, evK, evOpsF, evGuard, h]
  cases want <;> rfl
theorem run_opF_idle (pu : List FuncId) (d : Option Nat) (op : MOp) (rest : List MO) (T : List AV) (fs : List Foot) (pairs : List (Nat × Nat)) (x : MX) (want : Bool) (h : evX E σ T x = .tup []) : run E fuel (.opsF pu (⟨d, op, some (x, want)⟩ :: rest) T fs pairs :: k) σ A =
    run E fuel (.opsF pu rest (T ++ [.tup []]) (fs ++ [.no]) pairs :: k) (setVar σ d (.tup [])) A := by
  simp only [run, evK, evOpsF, evGuard, h]

theorem run_loop (mask : List Nat) (a : MC) (o : Out) (h : iter (evC E fuel a) mask fuel σ A = some o) : run E fuel (.code (.loop mask a) :: k) σ A = after E fuel k o := by
  simp only [run, evK, evC, h, after]
/-- a loop whose rounds can be counted out -/
theorem run_loopE (mask : List Nat) (a : MC) : run E fuel (.code (.loop mask a) :: k) σ A = match iter (evC E fuel a) mask fuel σ A with
    | some o => after E fuel k o
    | none => none := by
  unfold run after
  simp only [evK, evC]
  cases iter (evC E fuel a) mask fuel σ A with
  | none => exact evK_none _
  | some o => rfl
theorem clear_set (mask : List Nat) : ∀ (σ : List AV) (i : Nat), (clear mask σ).set i .undef = clear mask (σ.set i .undef) := by
  induction mask with
  | nil => intro σ i; rfl
  | cons j m ih =>
    intro σ i
    show (clear m (σ.set j .undef)).set i .undef = clear m ((σ.set i .undef).set j .undef)
    rw [ih]
    congr 1
    by_cases h : i = j
    · subst h; rfl
    · exact (List.set_comm _ _ h).symm
theorem clear_clear (mask : List Nat) : ∀ σ : List AV, clear mask (clear mask σ) = clear mask σ := by
  induction mask with
  | nil => intro σ; rfl
  | cons j m ih =>
    intro σ
    show clear m ((clear m (σ.set j .undef)).set j .undef) = clear m (σ.set j .undef)
    rw [clear_set, List.set_set, ih]
theorem iter_clear (body : List AV → Arena → Option Out) (mask : List Nat) (n : Nat) (σ : List AV) (A : Arena) : iter body mask n σ A = iter body mask n (clear mask σ) A := by
  cases n with
  | zero => rfl
  | succ n => simp only [iter, clear_clear]
/-- a loop, from what is alive of its slots -/
theorem run_loopC (mask : List Nat) (a : MC) (o : Out) (h : iter (evC E fuel a) mask fuel (clear mask σ) A = some o) : run E fuel (.code (.loop mask a) :: k) σ A = after E fuel k o :=
  run_loop mask a o (by rw [iter_clear]; exact h)
/-- what holds of a loop: 'I k' before a round of which at most k can follow -/
theorem iter_inv {a : MC} {mask : List Nat} (I : Nat → List AV → Arena → Prop) (Q : Out → Prop) (hs : ∀ k σ A, I k σ A → (∃ σ' A', run E fuel [.code a] (clear mask σ) A = some (.normal σ' A') ∧ ∃ k', k' < k ∧ I k' σ' A') ∨ (∃ o, run E fuel [.code a] (clear mask σ) A = some o ∧ (∀ σ' A', o ≠ .normal σ' A') ∧ Q o)) :
    ∀ (n k : Nat) (σ : List AV) (A : Arena), k < n → I k σ A → ∃ o, iter (evC E fuel a) mask n σ A = some o ∧ Q o := by
  intro n
  induction n with
  | zero => intro k σ A h; omega
  | succ n ih =>
    intro k σ A h hi
    rw [iter]
    rcases hs k σ A hi with ⟨σ', A', h1, k', h2, h3⟩ | ⟨o, h1, h2, h3⟩
    · rw [evC_run, h1]
      exact ih k' σ' A' (by omega) h3
    · rw [evC_run, h1]
      cases o with
      | normal σ' A' => exact absurd rfl (h2 σ' A')
      | exit id σ' A' => exact ⟨_, rfl, h3⟩
      | ret σ' A' => exact ⟨_, rfl, h3⟩
theorem run_rangeFunc (f : MX) (ps : List Nat) (a b : MC) (o : Out)
    (h : ∀ (l : Nat) (r : Loop), (match E.callY (yieldH A.length l r σ ps (evC E fuel a) (evC E fuel b) E.hand) (evX E σ [] f) [.func (.yield l) [] []] (A ++ [Ent.loop r 0]) with
      | some (_, A') => afterR A.length σ A'
      | none => none) = some o) : run E fuel (.code (.rangeFunc f ps a b) :: k) σ A = after E fuel k o := by
  have : evC E fuel (.rangeFunc f ps a b) σ A = some o := by
    simp only [evC]
    exact evR_of (good := fun (_ : Nat × Loop) => True) (0, default) trivial fun x _ => h x.1 x.2
  simp only [run, evK, this, after]
theorem after_normal : after E fuel k (.normal σ A) = run E fuel k σ A := rfl
theorem after_exit (id : Nat) : after E fuel k (.exit id σ A) = exits E fuel id k σ A := rfl
theorem after_ret : after E fuel k (.ret σ A) = some (.ret σ A) := evK_ret _

theorem run_of {c : MC} {o : Out} (h : run E fuel [.code c] σ A = some o) (k : List KC) : run E fuel (.code c :: k) σ A = after E fuel k o := by
  simp only [run, evK] at h
  simp only [run, evK, h, after]

/-- a round of a loop -/
theorem iter_succ (a : MC) (mask : List Nat) (n : Nat) : iter (evC E fuel a) mask (n + 1) σ A = match run E fuel [.code a] (clear mask σ) A with
    | some (.normal σ' A') => iter (evC E fuel a) mask n σ' A'
    | x => x := rfl

/-- a function, by the machine -/
theorem evFun_run (mf : MFun) (args : List AV) (h : args.length = mf.n) : evFun E fuel mf args A = match run E fuel [.code mf.mc] (args ++ List.replicate (mf.len - mf.n) .undef) A with
    | some (.normal σ A') => (evRes A' σ mf.res).map fun l => (pack l, A')
    | some (.ret σ A') => (evRes A' σ mf.res).map fun l => (pack l, A')
    | _ => none := by
  unfold evFun; rw [if_pos h]; rfl
end

open Classical in
theorem PureSpec.of_fns {P : Program} {G : Nat → Option (List AV)} {f : FuncId} {M' : Nat → Model} {M : PModel} (h : ∀ fuel, FnSpec P G f (M' fuel)) (n : Nat) (hM : ∀ args r, M args = some r → ∃ fuel r0 A', M' fuel args [] = some (r0, A') ∧ frz A' n r0 = r) : PureSpec P G f M := by
  refine ⟨(h 0).1, ?_⟩
  intro args r he
  obtain ⟨fuel, r0, A', h1, h2⟩ := hM args r he
  exact (PureSpec.of_fn (M := fun a => if a = args then some r else none) (h fuel) n (fun a r' h' => by
    split at h'
    · rename_i e; injection h' with h'; subst h'; subst e; exact ⟨r0, A', h1, h2⟩
    · cases h')).2 args r (by simp)
end Go.Proofs.Ytemklhljjaniaaa
/-
  The rows that 'simp' runs functions by, and numbers. Program-independent.
-/
namespace Go.Proofs.Ytemklhljjaniaaa
open Go

attribute [simp] run_skip run_kill run_regionD exits_opsF run_opsF_nil run_opF run_opF_wanted run_opF_unwanted run_opF_idle footOp idsOf meetNo Foot.apart0 Foot.sees Foot.apart Foot.no kp0 evBuildF reflessB reflessB1 evMakeMap evLookup evMapUpdate findA keyEq isKey evEqAgg eqOffs eqK run_seq run_region run_block run_blk run_scope run_ret run_exit run_nil exits_nil exits_code exits_ops exits_blk exits_blk_ne run_cond_t run_cond_f run_ops_nil run_op run_op_wanted run_op_unwanted run_op_idle
  after_normal after_exit after_ret clear evStep evX evOp setVar evBin evEqBool evUn evConvInt evLoad evIndexSl evIndexStr evSliceStr evSliceSl evSliceM evBounds hiB loB evExtract evLenStr evLenSl evMin2 evMinL evBox evBuildSlice evRes pack
  pureH pureM callM lookM frz scalarB noRefB flat1 AV.solid cellsOf evNilCheck evFieldAddr evPart fillA isNilA evMake evToBytes storeElem evStore

@[simp] theorem keptB_iff (A : Arena) (v : AV) (B : Arena) (id : Nat) : keptB A (some (v, B)) id = true ↔ B[id]? = A[id]? := by
  simp only [keptB]
  exact @decide_eq_true_iff _ (Classical.propDecidable _)
@[simp] theorem envY_call (G : Nat → Option (List AV)) (fs : List (FuncId × HModel)) (h : Handler) (f : FuncId) (a b args : List AV) (A : Arena) : (envY G fs h).call (.func (.func f) a b) args A = callM fs h (.func (.func f) a b) args A := rfl
@[simp] theorem envY_callYield (G : Nat → Option (List AV)) (fs : List (FuncId × HModel)) (h : Handler) (l : Nat) (a b args : List AV) (A : Arena) : (envY G fs h).call (.func (.yield l) a b) args A = match h (.func (.yield l) a b) args A with
  | some x => some x
  | none => callM fs h (.func (.yield l) a b) args A := rfl
@[simp] theorem envY_glob (G : Nat → Option (List AV)) (fs : List (FuncId × HModel)) (h : Handler) : (envY G fs h).glob = G := rfl
@[simp] theorem envY_hand (G : Nat → Option (List AV)) (fs : List (FuncId × HModel)) (h : Handler) : (envY G fs h).hand = h := rfl
@[simp] theorem envY_callY (G : Nat → Option (List AV)) (fs : List (FuncId × HModel)) (h : Handler) : (envY G fs h).callY = callM fs := rfl
@[simp] theorem envOf_call (G : Nat → Option (List AV)) (fs : List (FuncId × HModel)) (f : FuncId) (a b args : List AV) (A : Arena) : (envOf G fs).call (.func (.func f) a b) args A = callM fs (fun _ _ _ => none) (.func (.func f) a b) args A := rfl
@[simp] theorem envOf_glob (G : Nat → Option (List AV)) (fs : List (FuncId × HModel)) : (envOf G fs).glob = G := rfl
@[simp] theorem envOf_hand (G : Nat → Option (List AV)) (fs : List (FuncId × HModel)) : (envOf G fs).hand = fun _ _ _ => none := rfl
@[simp] theorem envOf_callY (G : Nat → Option (List AV)) (fs : List (FuncId × HModel)) : (envOf G fs).callY = callM fs := rfl

@[simp] theorem loadElem_bool (b : Bool) (esz size : Nat) : loadElem (.bool b) esz 0 false size = some (.bool b) := rfl
@[simp] theorem loadElem_int (k : IntKind) (b : Int) (esz size : Nat) : loadElem (.int k b) esz 0 false size = some (.int k b) := rfl
@[simp] theorem loadElem_str (b : List UInt8) (esz size : Nat) : loadElem (.str b) esz 0 false size = some (.str b) := rfl
@[simp] theorem loadElem_nilS (esz size : Nat) : loadElem .nilS esz 0 false size = some .nilS := rfl
@[simp] theorem loadElem_nilP (esz size : Nat) : loadElem .nilP esz 0 false size = some .nilP := rfl
@[simp] theorem loadElem_nilM (esz size : Nat) : loadElem .nilM esz 0 false size = some .nilM := rfl
@[simp] theorem loadElem_nilF (esz size : Nat) : loadElem .nilF esz 0 false size = some .nilF := rfl
@[simp] theorem loadElem_nilI (esz size : Nat) : loadElem .nilI esz 0 false size = some .nilI := rfl
@[simp] theorem loadElem_fs (a : Nat) (b : List AV) (esz size : Nat) : loadElem (.fs a b) esz 0 false size = some (.fs a b) := rfl
@[simp] theorem loadElem_sl (a b c : Nat) (esz size : Nat) : loadElem (.sl a b c) esz 0 false size = some (.sl a b c) := rfl
@[simp] theorem loadElem_ptr (a b c : Nat) (esz size : Nat) : loadElem (.ptr a b c) esz 0 false size = some (.ptr a b c) := rfl
@[simp] theorem loadElem_fp (a : List AV) (esz size : Nat) : loadElem (.fp a) esz 0 false size = some (.fp a) := rfl
@[simp] theorem loadElem_func (f : Fn) (a b : List AV) (esz size : Nat) : loadElem (.func f a b) esz 0 false size = some (.func f a b) := rfl
@[simp] theorem loadElem_map (a : Nat) (esz size : Nat) : loadElem (.map a) esz 0 false size = some (.map a) := rfl
@[simp] theorem loadElem_iface (t : TypeId) (v : AV) (esz size : Nat) : loadElem (.iface t v) esz 0 false size = some (.iface t v) := rfl
@[simp] theorem loadElem_part (cs : List AV) (esz o size : Nat) : loadElem (.agg cs) esz o false size = cs[o]? := rfl
@[simp] theorem loadElem_agg (cs : List AV) (esz : Nat) : loadElem (.agg cs) esz 0 true esz = some (.agg cs) := by unfold loadElem; simp

/-- a function without a mark: its frozen result -/
noncomputable def evP (E : Env) (fuel : Nat) (mf : MFun) (n : Nat) (args : List AV) : Option AV := (evFun E fuel mf args []).map fun x => frz x.2 n x.1

theorem evP_run {E : Env} {fuel : Nat} {n : Nat} (mf : MFun) (args : List AV) (h : args.length = mf.n) : evP E fuel mf n args = match run E fuel [.code mf.mc] (args ++ List.replicate (mf.len - mf.n) .undef) [] with
    | some (.normal σ A') => (evRes A' σ mf.res).map fun l => frz A' n (pack l)
    | some (.ret σ A') => (evRes A' σ mf.res).map fun l => frz A' n (pack l)
    | _ => none := by
  unfold evP
  rw [evFun_run mf args h]
  cases run E fuel [.code mf.mc] (args ++ List.replicate (mf.len - mf.n) .undef) [] with
  | none => rfl
  | some o => cases o with
    | normal σ A => simp [Option.map_map]; rfl
    | exit id σ A => rfl
    | ret σ A => simp [Option.map_map]; rfl

theorem PureSpec.of_ev {P : Program} {E : Env} {f : FuncId} {fn : Func} {k : Nat} {vs : List Nat} {pu : List FuncId} {on : Bool} {hints : Hints} {mf : MFun} (hE : EnvSound P E) (hys : E.ys = []) (hf : P.funcs[f]? = some fn) (hc : compFun P fn k vs pu on hints = some mf) (n : Nat) {M : PModel}
    (hM : ∀ args r, M args = some r → ∃ fuel, evP E fuel mf n args = some r) (hpu : PureIn E pu := by first | exact PureIn.nil | (repeat (first | exact PureIn.nil | refine PureIn.cons (M := _) rfl ?_))) : PureSpec P E.glob f M :=
  PureSpec.of_fns (M' := fun fuel => evFun E fuel mf) (fun fuel => evFun_sound hE hys hf hc hpu) n fun args r h => by
    obtain ⟨fuel, h⟩ := hM args r h
    unfold evP at h
    cases h1 : evFun E fuel mf args [] with
    | none => rw [h1] at h; cases h
    | some x => rw [h1] at h; injection h with h; exact ⟨fuel, x.1, x.2, h1, h⟩

@[simp] theorem srcElems_fs (esz : Nat) (A : Arena) (es : List AV) : srcElems esz A (.fs esz es) = some es := by simp [srcElems]
@[simp] theorem srcElems_nil (esz : Nat) (A : Arena) : srcElems esz A .nilS = some [] := rfl
@[simp] theorem srcElems_str (A : Arena) (l : List UInt8) : srcElems 1 A (.str l) = some (l.map fun b => .int .u8 b.toNat) := rfl
theorem srcElems_sl {A : Arena} {id : Nat} {esz : Nat} {gr : Bool} {es : List AV} (h : A[id]? = some (.row esz gr es)) (off len : Nat) : srcElems esz A (.sl id off len) = some ((es.drop off).take len) := by simp [srcElems, h]
@[simp] theorem srcElems_new (A : Arena) (esz : Nat) (gr : Bool) (es : List AV) : srcElems esz (A ++ [Ent.row esz gr es]) (.sl A.length 0 es.length) = some es := by simp [srcElems]

/-- a slice that is all of its row, and what it holds -/
def Full (A : Arena) (o : AV) (esz : Nat) (xs : List AV) : Prop := (o = .nilS ∧ xs = []) ∨ ∃ id gr, o = .sl id 0 xs.length ∧ A[id]? = some (.row esz gr xs)

theorem Full.keep {A A' : Arena} {o : AV} {esz : Nat} {xs : List AV} (h : Full A o esz xs) (hk : ∀ id n, o = .sl id 0 n → A'[id]? = A[id]?) : Full A' o esz xs := by
  rcases h with h | ⟨id, gr, h1, h2⟩
  · exact .inl h
  · exact .inr ⟨id, gr, h1, (hk id _ h1).trans h2⟩
theorem Full.push {A : Arena} {o : AV} {esz : Nat} {xs : List AV} (h : Full A o esz xs) (e : Ent) : Full (A ++ [e]) o esz xs := by
  rcases h with h | ⟨id, gr, h1, h2⟩
  · exact .inl h
  · exact .inr ⟨id, gr, h1, by rw [List.getElem?_append_left (List.getElem?_eq_some_iff.1 h2).1]; exact h2⟩
theorem Full.src {A : Arena} {o : AV} {esz : Nat} {xs : List AV} (h : Full A o esz xs) : srcElems esz A o = some xs := by
  rcases h with ⟨rfl, rfl⟩ | ⟨id, gr, rfl, h2⟩
  · rfl
  · simp [srcElems, h2]
theorem Full.length_le {A : Arena} {esz id n : Nat} {xs : List AV} (h : Full A (.sl id 0 n) esz xs) : id < A.length ∧ n = xs.length := by
  rcases h with ⟨h, _⟩ | ⟨id', gr, h1, h2⟩
  · cases h
  · cases h1; exact ⟨(List.getElem?_eq_some_iff.1 h2).1, rfl⟩

theorem append_full {A : Arena} {o x : AV} {esz bytes : Nat} {xs ys : List AV} (h : Full A o esz xs) (hx : srcElems esz A x = some ys) (hy : ys ≠ []) (he : 0 < esz) (hb : 0 < bytes) (hs : (xs.length + ys.length) * bytes ≤ 140737488355328) :
    ∃ o' A', evAppend esz bytes A o x = some (o', A') ∧ Full A' o' esz (xs ++ ys) ∧ A.length ≤ A'.length ∧ (∀ id, id < A.length → (∀ n, o ≠ .sl id 0 n) → A'[id]? = A[id]?) := by
  have hpos : 0 < ys.length := List.length_pos_iff.2 hy
  rcases h with ⟨rfl, rfl⟩ | ⟨id, gr, rfl, h2⟩
  · refine ⟨.sl A.length 0 ys.length, A ++ [.row esz false ys], ?_, .inr ⟨A.length, false, by simp, by simp⟩, by simp, fun id hid _ => by rw [List.getElem?_append_left hid]⟩
    simp only [List.length_nil, Nat.zero_add] at hs
    unfold evAppend; rw [hx]; simp [he, hb, hs, hy]
  · by_cases hz : xs = []
    · subst hz
      have hs' : ys.length * bytes ≤ 140737488355328 := by simpa using hs
      refine ⟨.sl A.length 0 ys.length, A.set id .dead ++ [.row esz false ys], ?_, .inr ⟨A.length, false, by simp, by simp⟩, by simp, fun k hk hne => ?_⟩
      · unfold evAppend; rw [hx]; simp [h2, he, hb, hs']
      · rw [List.getElem?_append_left (by simpa using hk), List.getElem?_set_ne (fun e => hne _ (by rw [e]))]
    · refine ⟨.sl id 0 (xs.length + ys.length), A.set id (.row esz true (xs ++ ys)), ?_, .inr ⟨id, true, by simp, by simp [(List.getElem?_eq_some_iff.1 h2).1]⟩, by simp, fun k hk hne => ?_⟩
      · unfold evAppend; rw [hx]; simp [h2, he, hb, hs, hz]
      · rw [List.getElem?_set_ne (fun e => hne _ (by rw [e]))]

/-- bytes as elements -/
def bytesA (l : List UInt8) : List AV := l.map fun b => .int .u8 b.toNat
theorem toStr_full {A : Arena} {o : AV} {l : List UInt8} (h : Full A o 1 (bytesA l)) : evToStr A o = some (.str l) := by
  have hu : ∀ l : List UInt8, u8s (bytesA l) = some (l.map fun b => (b.toNat : Int)) := u8s_bytes
  have hm : ∀ l : List UInt8, (l.map fun b => (b.toNat : Int)).map (fun n => UInt8.ofNat n.toNat) = l := fun l => by
    rw [List.map_map]; conv => rhs; rw [← List.map_id l]
    apply List.map_congr_left; intro b _; simp
  have hs := h.src
  rcases h with ⟨rfl, h2⟩ | ⟨id, gr, rfl, h2⟩
  · simp only [evToStr, hs, hu, hm, Option.map_some]
  · simp only [evToStr, hs, hu, hm, Option.map_some]

@[simp] theorem int_beq (a b : Int) : (a == b) = decide (a = b) := by
  by_cases h : a = b <;> simp [h]
@[simp] theorem int_bne (a b : Int) : (a != b) = !decide (a = b) := by
  by_cases h : a = b <;> simp [h]
@[simp] theorem nat_not_neg (n : Nat) : ((n : Int) < 0) = False := by simp
@[simp] theorem bits_i64 : IntKind.i64.bits = 64 := rfl
@[simp] theorem bits_u64 : IntKind.u64.bits = 64 := rfl
@[simp] theorem bits_u32 : IntKind.u32.bits = 32 := rfl
@[simp] theorem bits_i32 : IntKind.i32.bits = 32 := rfl
@[simp] theorem bits_u8 : IntKind.u8.bits = 8 := rfl

def inI (a : Int) : Prop := -9223372036854775808 ≤ a ∧ a ≤ 9223372036854775807
theorem wrapI {a : Int} (h : inI a) : IntKind.i64.wrap a = a := wrap_i64 h.1 h.2
theorem wrapU64 {a : Int} (h : 0 ≤ a ∧ a < 18446744073709551616) : IntKind.u64.wrap a = a := by
  unfold IntKind.wrap; simp [IntKind.signed, IntKind.bits]; omega
theorem wrapU32 {a : Int} (h : 0 ≤ a ∧ a < 4294967296) : IntKind.u32.wrap a = a := by
  unfold IntKind.wrap; simp [IntKind.signed, IntKind.bits]; omega
theorem wrapU8 {a : Int} (h : 0 ≤ a ∧ a < 256) : IntKind.u8.wrap a = a := by
  unfold IntKind.wrap; simp [IntKind.signed, IntKind.bits]; omega
end Go.Proofs.Ytemklhljjaniaaa
/-
  Arguments ls trees of memory that nobody writes; the contract of a law that returns true. Program-independent.
-/
namespace Go.Proofs.Ytemklhljjaniaaa
open Go
open Go.ChangeShapes Go.WideShapes

def aggT (P : Program) (t : TypeId) : Bool := match P.underlying t with
  | some (.struct _) | some (.array _ _) => true
  | _ => false
/-- a value of a type, of its cells -/
def wholeA (P : Program) (t : TypeId) (xs : List AV) : AV := if aggT P t then .agg xs else xs.headD .undef

/-- fields that lie one behind the other -/
def contigB (P : Program) : Nat → List Field → Nat → Bool
  | k, [], n => k == n
  | k, f :: r, n => f.offset == k && contigB P (k + P.cellsOf f.type) r n

/-- types from which nothing but integers, strings, booleans and slices is met -/
def plainT (P : Program) : Nat → TypeId → Bool
  | 0, _ => false
  | n + 1, t => match P.underlying t with
    | some .bool | some (.int _) | some .string => P.cellsOf t == 1
    | some (.slice e) => P.cellsOf t == 1 && Nat.blt 0 (P.cellsOf e) && plainT P n e
    | some (.struct fs) => fs.toList.all (fun f => plainT P n f.type) && contigB P 0 fs.toList (P.cellsOf t)
    | some (.array m e) => P.cellsOf t == m * P.cellsOf e && Nat.blt 0 (P.cellsOf e) && plainT P n e
    | _ => false

def TCs (P : Program) (T : TypeId → List AV → Prop) : List Field → List AV → Prop
  | [], ls => ls = []
  | f :: r, ls => ∃ a b, ls = a ++ b ∧ T f.type a ∧ a.length = P.cellsOf f.type ∧ TCs P T r b
def TCa (T : List AV → Prop) (size : Nat) : Nat → List AV → Prop
  | 0, ls => ls = []
  | m + 1, ls => ∃ a b, ls = a ++ b ∧ T a ∧ a.length = size ∧ TCa T size m b
/-- the cells of a value of a type -/
def TC (P : Program) : Nat → TypeId → List AV → Prop
  | 0, _, _ => False
  | n + 1, t, ls => match P.underlying t with
    | some .bool => ∃ b, ls = [.bool b]
    | some (.int k) => ∃ z, ls = [.int k z] ∧ (k.min ≤ z ∧ z ≤ k.max)
    | some .string => ∃ s, ls = [.str s] ∧ s.length ≤ 9223372036854775807
    | some (.slice e) => ls = [.nilS] ∨ ∃ es : List AV, ls = [.fs (P.cellsOf e) es] ∧ es.length ≤ 9223372036854775807 ∧ ∀ x ∈ es, ∃ xs, TC P n e xs ∧ xs.length = P.cellsOf e ∧ x = wholeA P e xs
    | some (.struct fs) => TCs P (TC P n) fs.toList ls
    | some (.array m e) => TCa (TC P n e) (P.cellsOf e) m ls
    | _ => False
/-- a value of a type -/
def TA (P : Program) (n : Nat) (t : TypeId) (a : AV) : Prop := ∃ xs, TC P n t xs ∧ xs.length = P.cellsOf t ∧ a = wholeA P t xs

section
variable {H : Type} {enc : TypeId × Value → H} {P : Program} {w : World} {held : Bool}

theorem cellQ {a : Addr} {n : Nat} {cs : List Value} (h : w.cells? 0 a n = some cs) : cs.length = n ∧ ∀ j, j < n → ∃ v, cs[j]? = some v ∧ w.cell? (a.add j) = some v := by
  unfold World.cells? at h
  rw [if_pos (Nat.zero_le _)] at h
  have hl : cs.length = n := by simpa using mapM_some_length h
  refine ⟨hl, fun j hj => ?_⟩
  have := mapM_some_get h j j (by simp [hj])
  rw [this]
  exact ⟨cs[j], by simp [hl, hj], by simp [hl, hj]⟩

theorem addr_add_add (a : Addr) (i j : Nat) (h : a.spot = none) : (a.add i).add j = ⟨a.block, a.off + i + j, none⟩ := by
  obtain ⟨b, o, s⟩ := a
  simp only at h
  subst h
  rw [addr_add, addr_add]

theorem headD_get {α : Type} (l : List α) (d : α) (h : 0 < l.length) : l.headD d = l[0] := by
  cases l with
  | nil => simp at h
  | cons y r => rfl
theorem scalar_cells {n : Nat} {t : TypeId} (hp : plainT P n t = true) (ha : aggT P t = false) : P.cellsOf t = 1 := by
  cases n with
  | zero => cases hp
  | succ n =>
    unfold plainT at hp
    unfold aggT at ha
    split at hp
    · exact beq_iff_eq.1 hp
    · exact beq_iff_eq.1 hp
    · exact beq_iff_eq.1 hp
    · simp only [Bool.and_eq_true, beq_iff_eq] at hp; exact hp.1.1
    · rename_i hu; rw [hu] at ha; cases ha
    · rename_i hu; rw [hu] at ha; cases ha
    · cases hp

/-- what is read ls data is a tree -/
theorem trod_tree : ∀ (n fuel : Nat) (t : TypeId) (cs : List Value) (x : DataW H × List MemPlace), plainT P n t = true → DataW.trod enc P w 0 (fun _ => true) held fuel t cs = some x →
    ∃ ls : List AV, ls.length = cs.length ∧ cs.length = P.cellsOf t ∧ TC P n t ls ∧ ∀ i (h : i < ls.length), ∃ v, cs[i]? = some v ∧ v.oneCell' = true ∧ VRel w (fun b => b < w.heap.size) Ghost.none v ls[i] := by
  intro n
  induction n with
  | zero => intro fuel t cs x h; cases h
  | succ n ih =>
    intro fuel t cs x hp h
    unfold plainT at hp
    split at hp
    · -- bool
      rename_i hu
      obtain ⟨b, rfl, _⟩ := DataW.trod_bool hu h
      refine ⟨[.bool b], rfl, by simpa using (beq_iff_eq.1 hp).symm, by simp only [TC, hu]; exact ⟨b, rfl⟩, fun i hi => ?_⟩
      obtain rfl : i = 0 := by simpa using hi
      exact ⟨_, rfl, rfl, .bool _ _⟩
    · rename_i k hu
      obtain ⟨z, rfl, _, hw⟩ := DataW.trod_int hu h
      refine ⟨[.int k z], rfl, by simpa using (beq_iff_eq.1 hp).symm, ?_, fun i hi => ?_⟩
      · simp only [TC, hu]
        simp only [Lit.wf, Bool.and_eq_true, decide_eq_true_eq] at hw
        exact ⟨z, rfl, hw⟩
      · obtain rfl : i = 0 := by simpa using hi
        exact ⟨_, rfl, rfl, .int _ _ _⟩
    · rename_i hu
      obtain ⟨s, rfl, _, hw⟩ := DataW.trod_string hu h
      refine ⟨[.str s.data.toList], rfl, by simpa using (beq_iff_eq.1 hp).symm, ?_, fun i hi => ?_⟩
      · simp only [TC, hu]
        refine ⟨_, rfl, ?_⟩
        have h1 : s.data.toList.length = s.size := Array.length_toList
        have h2 : maxLen = 9223372036854775807 := by decide
        omega
      · obtain rfl : i = 0 := by simpa using hi
        exact ⟨_, rfl, rfl, .str _ _ _ rfl⟩
    · -- slice
      rename_i e hu
      simp only [Bool.and_eq_true, beq_iff_eq] at hp
      obtain ⟨⟨hc1, hpos⟩, hpe⟩ := hp
      have hpos : 0 < P.cellsOf e := by simpa [Nat.blt_eq] using hpos
      have fin : ∀ (v : Value) (a : AV), v.oneCell' = true → VRel w (fun b => b < w.heap.size) Ghost.none v a → TC P (n + 1) t [a] →
          ∃ ls : List AV, ls.length = [v].length ∧ [v].length = P.cellsOf t ∧ TC P (n + 1) t ls ∧ ∀ i (h : i < ls.length), ∃ v', [v][i]? = some v' ∧ v'.oneCell' = true ∧ VRel w (fun b => b < w.heap.size) Ghost.none v' ls[i] := by
        intro v a h1 h2 h3
        refine ⟨[a], rfl, by simp [hc1], h3, fun i hi => ?_⟩
        obtain rfl : i = 0 := by simpa using hi
        exact ⟨_, rfl, h1, h2⟩
      rcases DataW.trod_slice hu h with ⟨rfl, _⟩ | ⟨a, len, cap, elems, rest, m, rfl, rfl, _, _, hl, hcm, hel, hget, hrest, _⟩
      · exact fin _ _ rfl (.nilS _ _) (by simp only [TC, hu]; exact .inl trivial)
      · by_cases hcap : cap = 0
        · subst hcap
          obtain rfl : len = 0 := by omega
          exact fin _ _ rfl (.nilS _ _) (by simp only [TC, hu]; exact .inl trivial)
        · -- the block
          obtain ⟨hr1, hr2⟩ := hrest rfl
          have hblk : a.spot = none ∧ ∃ c T fz, w.heap[a.block]? = some (.cells c T fz) := by
            have h0 : ∃ z cs0, w.cells? 0 (a.add 0) (P.cellsOf e) = some cs0 ∧ DataW.trod enc P w 0 (fun _ => true) held m e cs0 = some z := by
              by_cases hl0 : len = 0
              · subst hl0
                have := hr2 0 (by omega)
                rw [List.getElem?_eq_getElem (show 0 < rest.length by omega)] at this
                simp only [Option.bind_eq_some_iff, Nat.add_zero, Nat.zero_mul] at this
                obtain ⟨cs0, k1, k2⟩ := this
                exact ⟨_, cs0, k1, k2⟩
              · have := hget 0 (by omega)
                rw [List.getElem?_eq_getElem (show 0 < elems.length by omega)] at this
                simp only [Option.bind_eq_some_iff, Nat.zero_mul] at this
                obtain ⟨cs0, k1, k2⟩ := this
                exact ⟨_, cs0, k1, k2⟩
            obtain ⟨_, cs0, k1, _⟩ := h0
            obtain ⟨_, k2⟩ := cellQ k1
            obtain ⟨v, _, k3⟩ := k2 0 hpos
            have hadd : (a.add 0).add 0 = a := by simp [Addr.add]
            rw [hadd] at k3
            unfold World.cell? at k3
            split at k3
            · rename_i c T fz hh
              split at k3
              · cases k3
              · rename_i hsp
                exact ⟨by simpa using hsp, c, T, fz, hh⟩
            · cases k3
          obtain ⟨hsp, c, T, fz, hh⟩ := hblk
          -- the elements
          have H1 : ∀ i, ∃ p : List Value × List AV, i < len → (w.cells? 0 (a.add (i * P.cellsOf e)) (P.cellsOf e) = some p.1 ∧ p.2.length = p.1.length ∧ p.1.length = P.cellsOf e ∧ TC P n e p.2 ∧
              ∀ j (h : j < p.2.length), ∃ v, p.1[j]? = some v ∧ v.oneCell' = true ∧ VRel w (fun b => b < w.heap.size) Ghost.none v p.2[j]) := by
            intro i
            by_cases hi : i < len
            · have := hget i hi
              rw [List.getElem?_eq_getElem (show i < elems.length by omega)] at this
              simp only [Option.bind_eq_some_iff] at this
              obtain ⟨cs0, k1, k2⟩ := this
              obtain ⟨ls, q1, q2, q3, q4⟩ := ih m e cs0 _ hpe k2
              exact ⟨(cs0, ls), fun _ => ⟨k1, q1, q2, q3, q4⟩⟩
            · exact ⟨([], []), fun h => absurd h hi⟩
          obtain ⟨F, hF⟩ := Classical.axiomOfChoice H1
          obtain ⟨b0, o0, s0⟩ := a
          simp only at hsp hh
          subst hsp
          have hlen : ((List.range len).map fun i => wholeA P e (F i).2).length = len := by simp
          refine fin (.slice (some ⟨b0, o0, none⟩) len cap) (.fs (P.cellsOf e) ((List.range len).map fun i => wholeA P e (F i).2)) rfl ?_ ?_
          · have hV := VRel.fs (w := w) (OK := fun b => b < w.heap.size) Ghost.none b0 o0 cap (P.cellsOf e) T c fz ((List.range len).map fun i => wholeA P e (F i).2)
              (fun i => if aggT P e then .agg (F i).1.toArray else (F i).1.headD undef) (Array.getElem?_eq_some_iff.1 hh).1 hh (by rw [hlen]; exact hl) (fun i hi => ?_) (fun i hi => ?_) (fun i hi j hj => ?_)
            · rw [hlen] at hV; exact hV
            · obtain ⟨_, k2, k3, _, k5⟩ := hF i (by rwa [hlen] at hi)
              simp only [List.getElem_map, List.getElem_range, wholeA]
              split
              · refine .agg _ _ _ (by simp [k2]) (fun j => (F i).1.getD j undef) (fun j hj => ?_) (fun j hj => ?_)
                · obtain ⟨v, e1, e2, _⟩ := k5 j hj
                  simp [List.getD_eq_getElem?_getD, e1, e2]
                · obtain ⟨v, e1, _, e3⟩ := k5 j hj
                  simpa [List.getD_eq_getElem?_getD, e1] using e3
              · have h0 : 0 < (F i).2.length := by omega
                obtain ⟨v, e1, e2, e3⟩ := k5 0 h0
                have e4 : (F i).1.headD undef = v := by
                  cases hF1 : (F i).1 with
                  | nil => rw [hF1] at e1; simp at e1
                  | cons y r => rw [hF1] at e1; simpa using e1
                rw [e4, headD_get _ _ h0]; exact e3
            · obtain ⟨_, k2, k3, _, k5⟩ := hF i (by rwa [hlen] at hi)
              split
              · refine ⟨by simp [Value.cells, k3], fun y hy => ?_⟩
                simp only [Value.cells] at hy
                obtain ⟨j, hj, rfl⟩ := List.mem_iff_getElem.1 hy
                obtain ⟨v, e1, e2, _⟩ := k5 j (by rw [k2]; simpa using hj)
                have : (F i).1[j]'(by simpa using hj) = v := by rw [List.getElem?_eq_getElem (by simpa using hj)] at e1; simpa using e1
                simpa [this] using e2
              · rename_i hagg
                have h0 : 0 < (F i).2.length := by omega
                obtain ⟨v, e1, e2, e3⟩ := k5 0 h0
                have e4 : (F i).1.headD undef = v := by
                  cases hF1 : (F i).1 with
                  | nil => rw [hF1] at e1; simp at e1
                  | cons y r => rw [hF1] at e1; simpa using e1
                have hc1' : P.cellsOf e = 1 := scalar_cells hpe (by simpa using hagg)
                rw [e4]
                cases v <;> simp [Value.oneCell'] at e2 <;> simp [Value.cells, okCells, hc1', Value.oneCell']
            · obtain ⟨k1, k2, k3, _, k5⟩ := hF i (by rwa [hlen] at hi)
              obtain ⟨_, q⟩ := cellQ k1
              obtain ⟨v, q1, q2⟩ := q j hj
              rw [addr_add_add _ _ _ rfl] at q2
              simp only [World.cell?, hh, Option.isSome_none, Bool.false_eq_true, if_false] at q2
              rw [q2]
              split
              · simp [Value.cells, q1]
              · rename_i hagg
                have hc1' : P.cellsOf e = 1 := scalar_cells hpe (by simpa using hagg)
                obtain rfl : j = 0 := by omega
                obtain ⟨v', e1, e2, _⟩ := k5 0 (by omega)
                have e4 : (F i).1.headD undef = v := by
                  cases hF1 : (F i).1 with
                  | nil => rw [hF1] at q1; simp at q1
                  | cons y r => rw [hF1] at q1; simpa using q1
                obtain rfl : v = v' := Option.some.inj (q1.symm.trans e1)
                rw [e4]
                cases v <;> simp [Value.oneCell'] at e2 <;> rfl
          · simp only [TC, hu]
            refine .inr ⟨_, rfl, ?_, fun y hy => ?_⟩
            · have h2 : maxLen = 9223372036854775807 := by decide
              rw [hlen]; omega
            · simp only [List.mem_map, List.mem_range] at hy
              obtain ⟨i, hi, rfl⟩ := hy
              obtain ⟨_, k2, k3, k4, _⟩ := hF i hi
              exact ⟨_, k4, by omega, rfl⟩
    · -- struct
      rename_i fs hu
      simp only [Bool.and_eq_true, List.all_eq_true] at hp
      obtain ⟨hp1, hp2⟩ := hp
      obtain ⟨xs, m, rfl, _, hcl, hxl, hall⟩ := DataW.trod_struct hu h
      have key : ∀ (r : List Field) (k : Nat), contigB P k r (P.cellsOf t) = true → (∀ f ∈ r, plainT P n f.type = true ∧ ∃ y, DataW.trod enc P w 0 (fun _ => true) held m f.type ((cs.drop f.offset).take (P.cellsOf f.type)) = some y) →
          k ≤ P.cellsOf t ∧ ∃ ls : List AV, k + ls.length = P.cellsOf t ∧ TCs P (TC P n) r ls ∧ ∀ i (h : i < ls.length), ∃ v, cs[k + i]? = some v ∧ v.oneCell' = true ∧ VRel w (fun b => b < w.heap.size) Ghost.none v ls[i] := by
        intro r
        induction r with
        | nil =>
          intro k hk _
          simp only [contigB, beq_iff_eq] at hk
          exact ⟨by omega, [], by simpa using hk, rfl, fun i hi => by simp at hi⟩
        | cons f r ihr =>
          intro k hk hf
          simp only [contigB, Bool.and_eq_true, beq_iff_eq] at hk
          obtain ⟨hko, hk⟩ := hk
          obtain ⟨hle, ls2, l1, l2, l3⟩ := ihr _ hk (fun g hg => hf g (by simp [hg]))
          obtain ⟨hpf, y, hy⟩ := hf f (by simp)
          obtain ⟨ls1, q1, q2, q3, q4⟩ := ih m _ _ _ hpf hy
          refine ⟨by omega, ls1 ++ ls2, by simp; omega, ⟨ls1, ls2, rfl, q3, by omega, l2⟩, fun i hi => ?_⟩
          by_cases h1 : i < ls1.length
          · obtain ⟨v, e1, e2, e3⟩ := q4 i h1
            refine ⟨v, ?_, e2, by rw [List.getElem_append_left h1]; exact e3⟩
            rw [List.getElem?_take_of_lt (by omega), List.getElem?_drop] at e1
            rw [← hko]; exact e1
          · have hi2 : i - ls1.length < ls2.length := by simp at hi; omega
            obtain ⟨v, e1, e2, e3⟩ := l3 (i - ls1.length) hi2
            refine ⟨v, ?_, e2, by rw [List.getElem_append_right (by omega)]; exact e3⟩
            rw [← e1]; congr 1; omega
      obtain ⟨_, ls, l1, l2, l3⟩ := key fs.toList 0 hp2 (fun f hf => ⟨hp1 f hf, by
        obtain ⟨i, hi, rfl⟩ := List.mem_iff_getElem.1 hf
        have hi' : i < fs.size := by simpa using hi
        have := hall i fs[i] (by simp [hi'])
        rw [List.getElem?_eq_getElem (show i < xs.length by omega)] at this
        exact ⟨_, by simpa using this⟩⟩)
      refine ⟨ls, by omega, hcl, by simp only [TC, hu]; exact l2, fun i hi => ?_⟩
      obtain ⟨v, e1, e2, e3⟩ := l3 i hi
      exact ⟨v, by simpa using e1, e2, e3⟩
    · -- array
      rename_i m' e hu
      simp only [Bool.and_eq_true, beq_iff_eq] at hp
      obtain ⟨⟨hsz, hpos⟩, hpe⟩ := hp
      obtain ⟨xs, m, rfl, _, hcl, hxl, hall⟩ := DataW.trod_array hu h
      have key : ∀ (r k : Nat), k + r = m' → ∃ ls : List AV, ls.length = r * P.cellsOf e ∧ TCa (TC P n e) (P.cellsOf e) r ls ∧ ∀ i (h : i < ls.length), ∃ v, cs[k * P.cellsOf e + i]? = some v ∧ v.oneCell' = true ∧ VRel w (fun b => b < w.heap.size) Ghost.none v ls[i] := by
        intro r
        induction r with
        | zero => intro k _; exact ⟨[], by simp, rfl, fun i hi => by simp at hi⟩
        | succ r ihr =>
          intro k hk
          obtain ⟨ls2, l1, l2, l3⟩ := ihr (k + 1) (by omega)
          have hy := hall k (by omega)
          rw [List.getElem?_eq_getElem (show k < xs.length by omega)] at hy
          obtain ⟨ls1, q1, q2, q3, q4⟩ := ih m _ _ _ hpe hy
          refine ⟨ls1 ++ ls2, by simp [l1, q1, q2, Nat.add_mul]; omega, ⟨ls1, ls2, rfl, q3, by omega, l2⟩, fun i hi => ?_⟩
          by_cases h1 : i < ls1.length
          · obtain ⟨v, e1, e2, e3⟩ := q4 i h1
            refine ⟨v, ?_, e2, by rw [List.getElem_append_left h1]; exact e3⟩
            rw [List.getElem?_take_of_lt (by omega), List.getElem?_drop] at e1
            exact e1
          · have hi2 : i - ls1.length < ls2.length := by simp at hi; omega
            obtain ⟨v, e1, e2, e3⟩ := l3 (i - ls1.length) hi2
            refine ⟨v, ?_, e2, by rw [List.getElem_append_right (by omega)]; exact e3⟩
            rw [← e1]; congr 1; rw [Nat.add_mul]; omega
      obtain ⟨ls, l1, l2, l3⟩ := key m' 0 (by omega)
      refine ⟨ls, by omega, hcl, by simp only [TC, hu]; exact l2, fun i hi => ?_⟩
      obtain ⟨v, e1, e2, e3⟩ := l3 i hi
      exact ⟨v, by simpa using e1, e2, e3⟩
    · cases hp

theorem trod_TA {n : Nat} {t : TypeId} {v : Value} {d : DataW H} {ps : List MemPlace} (hp : plainT P n t = true) (hv : aggT P t = true → ∃ cs, v = .agg cs) (hv' : aggT P t = false → v.oneCell' = true) (h : DataW.Trod enc P w 0 (fun _ => true) held t v d ps) :
    ∃ a, TA P n t a ∧ VRel w (fun b => b < w.heap.size) Ghost.none v a := by
  obtain ⟨fuel, h⟩ := h
  obtain ⟨ls, h1, h2, h3, h4⟩ := trod_tree n fuel t _ _ hp h
  refine ⟨_, ⟨ls, h3, by omega, rfl⟩, ?_⟩
  unfold wholeA
  cases ha : aggT P t with
  | true =>
    obtain ⟨cs, rfl⟩ := hv ha
    rw [if_pos rfl]
    simp only [Value.cells] at h1 h4
    refine .agg _ _ _ (by simpa using h1.symm) (fun i => cs.getD i undef) (fun i hi => ?_) (fun i hi => ?_)
    · obtain ⟨v, e1, e2, _⟩ := h4 i hi
      have e1' : cs[i]? = some v := by simpa using e1
      simp [Array.getD_eq_getD_getElem?, e1', e2]
    · obtain ⟨v, e1, _, e3⟩ := h4 i hi
      have e1' : cs[i]? = some v := by simpa using e1
      simpa [Array.getD_eq_getD_getElem?, e1'] using e3
  | false =>
    have hone := hv' ha
    have hc : v.cells.toList = [v] := by cases v <;> simp [Value.oneCell'] at hone <;> rfl
    rw [hc] at h1 h4
    simp only [Bool.false_eq_true, if_false]
    match ls, h1, h4 with
    | [a], _, h4 =>
      obtain ⟨v', e1, _, e3⟩ := h4 0 (by simp)
      simp only [List.getElem?_cons_zero, Option.some.injEq] at e1
      subst e1
      exact e3
end
end Go.Proofs.Ytemklhljjaniaaa
/-
  The contract of a law that returns true, of trees. Program-independent.
-/
namespace Go.Proofs.Ytemklhljjaniaaa
open Go
open Go.ChangeShapes Go.WideShapes Go.RowKit

def LawArgs (P : Program) (n : Nat) : List TypeId → List AV → Prop
  | [], [] => True
  | t :: ts, a :: r => TA P n t a ∧ LawArgs P n ts r
  | _, _ => False

/-- nothing of the old world has turned -/
theorem keptX {W W' : World} {OK OK' : Nat → Prop} (h : Ext W OK Ghost.none W' OK' Ghost.none) (may : MemPlace → Prop) : W.keptBut W' may := by
  refine ⟨h.os, h.output, fun i hi => ?_⟩
  have e := h.blk i hi (fun _ _ (hx : _ ∈ []) => by cases hx)
  rw [e]
  cases W.heap[i]? with
  | none => rfl
  | some o => cases o <;> first | exact ⟨rfl, rfl, rfl, fun _ _ => rfl⟩ | exact .inr ⟨rfl, rfl⟩ | rfl

section
variable {H : Type} {enc : TypeId × Value → H} {P : Program}

theorem okWide_agg {w : World} {r : Reach} {b : Nat} {t : TypeId} {v : Value} (h : Value.okWide P w r b t v) (ha : aggT P t = true) : ∃ cs, v = .agg cs := by
  unfold aggT at ha
  unfold Value.okWide at h
  split at ha
  · rename_i hu; rw [hu] at h; obtain ⟨cs, h, _⟩ := h; exact ⟨cs, h⟩
  · rename_i hu; rw [hu] at h; obtain ⟨cs, h, _⟩ := h; exact ⟨cs, h⟩
  · cases ha
theorem okWide_one {w : World} {r : Reach} {b : Nat} {n : Nat} {t : TypeId} {v : Value} (h : Value.okWide P w r b t v) (hp : plainT P n t = true) (ha : aggT P t = false) : v.oneCell' = true := by
  cases n with
  | zero => cases hp
  | succ n =>
    unfold plainT at hp
    unfold aggT at ha
    unfold Value.okWide Cell.okWide Cell.ok at h
    cases hu : P.underlying t with
    | none => rw [hu] at hp; cases hp
    | some d =>
      rw [hu] at h hp ha
      cases d <;> simp only [reduceCtorEq, Bool.false_eq_true] at hp ha <;> cases v <;> simp_all [Value.oneCell']

theorem args_tree {W : World} {n : Nat} : ∀ (ts : List TypeId) (vs : List Value) (ds : List (DataW H)) (ps : List MemPlace), (∀ t ∈ ts, plainT P n t = true) → (∀ (j : Nat) t v, ts[j]? = some t → vs[j]? = some v → ∃ r b, Value.okWide P W r b t v) →
    DataW.TrodAll enc P W 0 (fun _ => true) true ts vs ds ps → ds.length = ts.length ∧ ∃ ls, LawArgs P n ts ls ∧ ListRel W (fun b => b < W.heap.size) Ghost.none vs ls
  | [], [], [], ps, _, _, _ => ⟨rfl, [], trivial, trivial⟩
  | t :: ts, v :: vs, d :: ds, ps, hp, hv, h => by
    obtain ⟨p, q, h1, h2, _⟩ := h
    obtain ⟨r, b, hv0⟩ := hv 0 t v rfl rfl
    obtain ⟨a, ha1, ha2⟩ := trod_TA (hp t (by simp)) (okWide_agg hv0) (okWide_one hv0 (hp t (by simp))) h1
    obtain ⟨hl, ls, h3, h4⟩ := args_tree ts vs ds q (fun u hu => hp u (by simp [hu])) (fun j t' v' e1 e2 => hv (j + 1) t' v' (by simpa using e1) (by simpa using e2)) h2
    exact ⟨by simp [hl], a :: ls, ⟨ha1, h3⟩, ⟨ha2, h4⟩⟩
  | [], [], _ :: _, _, _, _, h => h.elim
  | [], _ :: _, _, _, _, _, h => h.elim
  | _ :: _, [], _, _, _, _, h => h.elim
  | _ :: _, _ :: _, [], _, _, _, h => h.elim

/-- the arguments read as before -/
theorem args_stay {W W' : World} {sp : Nat → Bool} (hl : laidOutB P = true) : ∀ (ts : List TypeId) (vs : List Value) (ds : List (DataW H)) (ps : List MemPlace), (∀ t ∈ ts, P.readableRec t = true ∧ t < P.types.size) →
    (∀ p ∈ ps, W.sameAt W' p ∧ sp p.block = true) → DataW.TrodAll enc P W 0 (fun _ => true) true ts vs ds ps → DataW.TrodAll enc P W' 0 sp true ts vs ds ps
  | [], [], [], ps, _, _, h => h
  | t :: ts, v :: vs, d :: ds, ps, hp, hs, h => by
    obtain ⟨p, q, h1, h2, rfl⟩ := h
    exact ⟨p, q, WideElems.Trod_stays hl (hp t (by simp)).1 (hp t (by simp)).2 h1 (fun x hx => (hs x (by simp [hx])).1) (fun x hx => (hs x (by simp [hx])).2),
      args_stay hl ts vs ds q (fun u hu => hp u (by simp [hu])) (fun x hx => hs x (by simp [hx])) h2, rfl⟩
  | [], [], _ :: _, _, _, _, h => h.elim
  | [], _ :: _, _, _, _, _, h => h.elim
  | _ :: _, [], _, _, _, _, h => h.elim
  | _ :: _, _ :: _, [], _, _, _, h => h.elim

theorem sameAt_ext {W W' : World} {OK OK' : Nat → Prop} (h : Ext W OK Ghost.none W' OK' Ghost.none) (p : MemPlace) (hp : p.block < W.heap.size) : W.sameAt W' p := by
  cases p with
  | cell b off =>
    have e := h.blk b hp (fun _ _ (hx : _ ∈ []) => by cases hx)
    simp only [World.sameAt, World.cell?, e]
  | map b => exact h.blk b hp (fun _ _ (hx : _ ∈ []) => by cases hx)

/-- A law that returns true, of whatever trees its arguments are. -/
theorem law_contract {f : FuncId} {fn : Func} {G : Nat → Option (List AV)} {n : Nat} {M : PModel} (hs : PureSpec P G f M) (hM : ∀ args, LawArgs P n fn.params.toList args → M args = some (.bool true))
    {spec : ChangeSpec} (hspec : ∀ ds : List (DataW H), ds.length = fn.params.toList.length → spec.fn H ds = { results := [.lit (.bool true)], args := ds }) (hvars : spec.vars = [])
    (hp : fn.params.toList.all (fun t => plainT P n t && P.readableRec t && Nat.blt t P.types.size) = true) (hl : laidOutB P = true) {tb : TypeId} (hres : fn.resultTypes = #[tb]) (hb : P.underlying tb = some .bool)
    {W : World} {base : Nat} {args : Array Value} {ds gs : List (DataW H)} {before : List MemPlace} (hval : ∀ (j : Nat) t v, fn.params[j]? = some t → args[j]? = some v → Value.okWide P W .any base t v)
    (hW : DataW.Whole enc P fn.params.toList spec.vars false W args.toList ds gs before) (hG : GRel G W (fun b => b < W.heap.size)) :
    Calls P f args W fun e W' => ∃ v, e = .returned v ∧ spec.post enc P fn false true false false W args v W' := by
  have hW' := hW
  have hlt := hW.lt
  obtain ⟨p, q, hA, hV, rfl, hfz, hnd⟩ := hW
  rw [hvars] at hV
  obtain ⟨rfl, rfl⟩ := trodVars_none hV
  rw [List.all_eq_true] at hp
  have hp' : ∀ t ∈ fn.params.toList, plainT P n t = true ∧ P.readableRec t = true ∧ t < P.types.size := fun t ht => by
    have := hp t ht
    simp only [Bool.and_eq_true] at this
    exact ⟨this.1.1, this.1.2, by simpa [Nat.blt_eq] using this.2⟩
  obtain ⟨hdl, ls, h1, h2⟩ := args_tree (n := n) _ _ _ _ (fun t ht => (hp' t ht).1) (fun j t v e1 e2 => ⟨_, _, hval j t v (by simpa using e1) (by simpa using e2)⟩) hA
  have hc := hs.2 ls _ (hM ls h1) W (fun b => b < W.heap.size) args.toList (fun _ h => h) hG h2
  rw [Array.toArray_toList] at hc
  refine hc.mono ?_
  rintro e W1 ⟨v, OK', rfl, hv, _, hx⟩
  obtain rfl := hv.inv_bool
  refine ⟨_, rfl, ds, [], p ++ [], [], p, [], hW', ?_, ?_, ?_, keptX hx _, fun h => by cases h⟩
  · rw [List.append_nil, hspec ds hdl, hres]
    exact trodAll_cons_mk (shut_bool hb _) trodAll_mk0
  · rw [List.append_nil, hspec ds hdl]
    exact args_stay hl _ _ _ _ (fun t ht => (hp' t ht).2) (fun x hx' => ⟨sameAt_ext hx x (hlt x (by simp [hx'])), by simpa using hlt x (by simp [hx'])⟩) hA
  · rw [List.append_nil, hspec ds hdl, hvars]
    rfl

/-! ### arguments, opened -/

variable {n : Nat} {t e : TypeId} {a : AV}
theorem aggT_false {d : TypeDesc} (hu : P.underlying t = some d) (h : (match d with | .struct _ => true | .array _ _ => true | _ => false) = false) : aggT P t = false := by
  unfold aggT; rw [hu]
  cases d <;> simp_all
theorem TA.int {k : IntKind} (hu : P.underlying t = some (.int k)) (h : TA P n t a) : ∃ z, a = .int k z ∧ k.min ≤ z ∧ z ≤ k.max := by
  obtain ⟨xs, h1, _, rfl⟩ := h
  cases n with
  | zero => exact h1.elim
  | succ n =>
    simp only [TC, hu] at h1
    obtain ⟨z, rfl, h2⟩ := h1
    exact ⟨z, by simp [wholeA, aggT_false hu rfl], h2⟩
theorem TA.i64 (hu : P.underlying t = some (.int .i64)) (h : TA P n t a) : ∃ z, a = .int .i64 z ∧ inI z := by
  obtain ⟨z, h1, h2, h3⟩ := TA.int hu h
  exact ⟨z, h1, h2, h3⟩
theorem TA.str (hu : P.underlying t = some .string) (h : TA P n t a) : ∃ s, a = .str s ∧ s.length ≤ 9223372036854775807 := by
  obtain ⟨xs, h1, _, rfl⟩ := h
  cases n with
  | zero => exact h1.elim
  | succ n =>
    simp only [TC, hu] at h1
    obtain ⟨z, rfl, h2⟩ := h1
    exact ⟨z, by simp [wholeA, aggT_false hu rfl], h2⟩
theorem TA.bool (hu : P.underlying t = some .bool) (h : TA P n t a) : ∃ b, a = .bool b := by
  obtain ⟨xs, h1, _, rfl⟩ := h
  cases n with
  | zero => exact h1.elim
  | succ n =>
    simp only [TC, hu] at h1
    obtain ⟨z, rfl⟩ := h1
    exact ⟨z, by simp [wholeA, aggT_false hu rfl]⟩
theorem TA.slice (hu : P.underlying t = some (.slice e)) (h : TA P (n + 1) t a) : a = .nilS ∨ ∃ es, a = .fs (P.cellsOf e) es ∧ es.length ≤ 9223372036854775807 ∧ ∀ x ∈ es, TA P n e x := by
  obtain ⟨xs, h1, _, rfl⟩ := h
  simp only [TC, hu] at h1
  have hw : ∀ x, wholeA P t [x] = x := fun x => by simp [wholeA, aggT_false hu rfl]
  rcases h1 with rfl | ⟨es, rfl, h2, h3⟩
  · exact .inl (hw _)
  · exact .inr ⟨es, hw _, h2, h3⟩
theorem TA.agg (ha : aggT P t = true) (h : TA P n t a) : ∃ xs, a = .agg xs ∧ TC P n t xs ∧ xs.length = P.cellsOf t := by
  obtain ⟨xs, h1, h2, rfl⟩ := h
  exact ⟨xs, by simp [wholeA, ha], h1, h2⟩
theorem LawArgs.cons {ts : List TypeId} {args : List AV} (h : LawArgs P n (t :: ts) args) : ∃ a r, args = a :: r ∧ TA P n t a ∧ LawArgs P n ts r := by
  cases args with
  | nil => exact h.elim
  | cons a r => exact ⟨a, r, rfl, h.1, h.2⟩
theorem LawArgs.nil {args : List AV} (h : LawArgs P n [] args) : args = [] := by
  cases args with
  | nil => rfl
  | cons a r => exact h.elim
end
end Go.Proofs.Ytemklhljjaniaaa
/-
  Slices that are given: nil or of memory that nobody writes; lists of numbers and strings. Program-independent.
-/
namespace Go.Proofs.Ytemklhljjaniaaa
open Go

/-- a slice that holds xs and is not written -/
def SlA (esz : Nat) (xs : List AV) (a : AV) : Prop := (a = .nilS ∧ xs = []) ∨ a = .fs esz xs

section
variable {esz : Nat} {xs : List AV} {a : AV} {A : Arena}
theorem SlA.len (h : SlA esz xs a) : evLenSl a = some (.int .i64 (xs.length : Int)) := by
  rcases h with ⟨rfl, rfl⟩ | rfl <;> rfl
theorem SlA.src (h : SlA esz xs a) : srcElems esz A a = some xs := by
  rcases h with ⟨rfl, rfl⟩ | rfl <;> simp
theorem SlA.index (h : SlA esz xs a) {i : Nat} {x : AV} (hx : xs[i]? = some x) (hs : x.solid = true) (he : 0 < esz) (k : IntKind) : evIndexSl esz A a (.int k (i : Int)) = some (.fp (cellsOf x)) := by
  rcases h with ⟨rfl, rfl⟩ | rfl
  · simp at hx
  · simp [evIndexSl, hx, hs, he, -AV.solid]
theorem SlA.index1 (h : SlA 1 xs a) {i : Nat} {x : AV} (hx : xs[i]? = some x) (hs : x.solid = true) (hc : cellsOf x = [x]) (k : IntKind) : evIndexSl 1 A a (.int k (i : Int)) = some (.fp [x]) := by
  rw [h.index hx hs (by omega), hc]
theorem SlA.int (zs : List Int) (k : IntKind) (h : SlA 1 (zs.map (.int k)) a) {i : Nat} {z : Int} (hz : zs[i]? = some z) (k' : IntKind) : evIndexSl 1 A a (.int k' (i : Int)) = some (.fp [.int k z]) :=
  h.index1 (by simp [hz]) rfl rfl k'
theorem SlA.str (zs : List (List UInt8)) (h : SlA 1 (zs.map .str) a) {i : Nat} {z : List UInt8} (hz : zs[i]? = some z) (k' : IntKind) : evIndexSl 1 A a (.int k' (i : Int)) = some (.fp [.str z]) :=
  h.index1 (by simp [hz]) rfl rfl k'
theorem SlA.cut (h : SlA esz xs a) (lo hi : Nat) (h1 : lo ≤ hi) (h2 : hi ≤ xs.length) (k k' : IntKind) : ∃ b, evSliceSl esz A (some (.int k (lo : Int))) (some (.int k' (hi : Int))) a = some b ∧ SlA esz ((xs.drop lo).take (hi - lo)) b := by
  rcases h with ⟨rfl, rfl⟩ | rfl
  · obtain rfl : hi = 0 := by simpa using h2
    obtain rfl : lo = 0 := by omega
    exact ⟨.nilS, rfl, .inl ⟨rfl, rfl⟩⟩
  · exact ⟨_, by simp [evSliceSl, h1, h2], .inr rfl⟩
theorem SlA.cutHi (h : SlA esz xs a) (hi : Nat) (h2 : hi ≤ xs.length) (k' : IntKind) : ∃ b, evSliceSl esz A none (some (.int k' (hi : Int))) a = some b ∧ SlA esz (xs.take hi) b := by
  rcases h with ⟨rfl, rfl⟩ | rfl
  · obtain rfl : hi = 0 := by simpa using h2
    exact ⟨.nilS, rfl, .inl ⟨rfl, rfl⟩⟩
  · exact ⟨_, by simp [evSliceSl, h2], .inr rfl⟩
theorem SlA.frz (h : SlA esz xs a) (n : Nat) : frz A n a = a := by
  rcases h with ⟨rfl, rfl⟩ | rfl <;> cases n <;> rfl

theorem map_of_forall {α : Type} {f : α → AV} {p : α → Prop} : ∀ {l : List AV}, (∀ x ∈ l, ∃ z, x = f z ∧ p z) → ∃ zs : List α, l = zs.map f ∧ ∀ z ∈ zs, p z
  | [], _ => ⟨[], rfl, fun _ h => by cases h⟩
  | x :: l, h => by
    obtain ⟨z, rfl, hz⟩ := h x (by simp)
    obtain ⟨zs, rfl, hzs⟩ := map_of_forall (l := l) (fun y hy => h y (by simp [hy]))
    exact ⟨z :: zs, rfl, fun y hy => by
      rcases List.mem_cons.1 hy with rfl | hy
      · exact hz
      · exact hzs y hy⟩
variable {P : Program} {n : Nat} {t e : TypeId}
theorem TA.sl (hu : P.underlying t = some (.slice e)) (h : TA P (n + 1) t a) : ∃ es, SlA (P.cellsOf e) es a ∧ es.length ≤ 9223372036854775807 ∧ ∀ x ∈ es, TA P n e x := by
  rcases TA.slice hu h with rfl | ⟨es, h1, h2, h3⟩
  · exact ⟨[], .inl ⟨rfl, rfl⟩, by simp, fun _ h => by cases h⟩
  · exact ⟨es, .inr h1, h2, h3⟩
theorem TA.ints (hu : P.underlying t = some (.slice e)) (he : P.underlying e = some (.int .i64)) (hc : P.cellsOf e = 1) (h : TA P (n + 1) t a) : ∃ zs : List Int, SlA 1 (zs.map (.int .i64)) a ∧ zs.length ≤ 9223372036854775807 ∧ ∀ z ∈ zs, inI z := by
  obtain ⟨es, h1, h2, h3⟩ := TA.sl hu h
  obtain ⟨zs, rfl, h4⟩ := map_of_forall (f := AV.int .i64) (p := inI) (fun x hx => TA.i64 he (h3 x hx))
  rw [hc] at h1
  exact ⟨zs, h1, by simpa using h2, h4⟩
theorem TA.strs (hu : P.underlying t = some (.slice e)) (he : P.underlying e = some .string) (hc : P.cellsOf e = 1) (h : TA P (n + 1) t a) : ∃ zs : List (List UInt8), SlA 1 (zs.map .str) a ∧ zs.length ≤ 9223372036854775807 ∧ ∀ z ∈ zs, z.length ≤ 9223372036854775807 := by
  obtain ⟨es, h1, h2, h3⟩ := TA.sl hu h
  obtain ⟨zs, rfl, h4⟩ := map_of_forall (f := AV.str) (p := fun z => z.length ≤ 9223372036854775807) (fun x hx => TA.str he (h3 x hx))
  rw [hc] at h1
  exact ⟨zs, h1, by simpa using h2, h4⟩
end

theorem min2_nat (a b : Nat) (k k' : IntKind) : evMin2 false (.int k (a : Int)) (.int k' (b : Int)) = some (.int k ((min a b : Nat) : Int)) := by
  unfold evMin2
  simp only [Bool.false_eq_true, if_false]
  congr 2
  split <;> omega
theorem max2_nat (a b : Nat) (k k' : IntKind) : evMin2 true (.int k (a : Int)) (.int k' (b : Int)) = some (.int k ((max a b : Nat) : Int)) := by
  unfold evMin2
  simp only [if_true]
  congr 2
  split <;> omega
end Go.Proofs.Ytemklhljjaniaaa
/-
  Results of fresh memory: a function may be given lists that the caller still owns. Loops that count up, lists that are appended to. Program-independent.
-/
namespace Go.Proofs.Ytemklhljjaniaaa
open Go

theorem frz_noRef {A : Arena} : ∀ (n : Nat) (a : AV), noRefB n a = true → frz A n a = a
  | 0, a, h => by cases a <;> simp_all [noRefB, frz]
  | n + 1, a, h => by
    have ih := frz_noRef (A := A) n
    have hm : ∀ cs : List AV, (∀ x ∈ cs, noRefB n x = true) → cs.map (frz A n) = cs := fun cs hc => by
      conv => rhs; rw [← List.map_id cs]
      exact List.map_congr_left fun x hx => ih x (hc x hx)
    cases a <;> simp only [noRefB, Bool.false_eq_true, List.all_eq_true, Bool.and_eq_true] at h <;> simp only [frz]
    · rw [hm _ h]
    · rw [hm _ h]
    · rw [hm _ h.1, hm _ h.2]
    · rw [ih _ h]

theorem noRef_any {w : World} {OK OK2 : Nat → Prop} {g g2 : Ghost} {n : Nat} {a : AV} {v : Value} (hn : noRefB n a = true) (h : VRel w OK g v a) (hok : ∀ b, OK b → OK2 b) : VRel w OK2 g2 v a := by
  have := noRefB_none (A := []) n a v hn h
  rw [frz_noRef n a hn] at this
  exact this.mono hok (fun _ _ => rfl) _ g2.none_le

/-- an entry that names no other one, and is not let go -/
def entNoRef (n : Nat) : Ent → Bool
  | .row _ _ es => es.all (noRefB n)
  | .map kvs => kvs.all fun x => noRefB n x.1 && noRefB n x.2
  | .loop .. => true
  | .dead => false

theorem EntAt.noRef {w : World} {OK OK2 : Nat → Prop} {g g2 : Ghost} {n : Nat} {incs : List Inc} {e : Ent} (h : EntAt w OK g incs e) (hn : entNoRef n e = true) (hok : ∀ b, OK b → OK2 b) : EntAt w OK2 g2 incs e := by
  cases e with
  | row s gr es =>
    simp only [entNoRef, List.all_eq_true] at hn
    refine ⟨h.1, fun inc hi => ?_⟩
    obtain ⟨h1, h2, h3, c, T, fz, h4, h5, h6, h7⟩ := h.2 inc hi
    refine ⟨h1, h2, h3, c, T, fz, h4, h5, h6, fun i hi hn' => ?_⟩
    obtain ⟨v, k1, k2, k3⟩ := h7 i hi hn'
    exact ⟨v, noRef_any (hn _ (List.getElem_mem _)) k1 hok, k2, k3⟩
  | map kvs =>
    simp only [entNoRef, List.all_eq_true, Bool.and_eq_true] at hn
    obtain ⟨inc, rfl, es, clock, h1, h2, hst, h3⟩ := h
    refine ⟨inc, rfl, es, clock, h1, h2, hst, fun i hi => ?_⟩
    obtain ⟨e, e1, e2, e3⟩ := h3 i hi
    have := hn _ (List.getElem_mem hi)
    exact ⟨e, e1, noRef_any this.1 e2 hok, noRef_any this.2 e3 hok⟩
  | loop r k => exact h
  | dead => trivial

section
variable {P : Program} {G : Nat → Option (List AV)}

/-- the first rows let go -/
theorem ARel.killFirst {w : World} {OK : Nat → Prop} {g : Ghost} {A : Arena} (h : ARel w OK g A) (k : Nat) (hk : k ≤ A.length) : ARel w OK g (List.replicate k .dead ++ A.drop k) := by
  have hl : (List.replicate k Ent.dead ++ A.drop k).length = A.length := by simp; omega
  have hlt : ∀ id, id < k → (List.replicate k Ent.dead ++ A.drop k)[id]? = some .dead := fun id hid => by
    rw [List.getElem?_append_left (by simpa using hid)]; simp [hid]
  have hge : ∀ id, k ≤ id → (List.replicate k Ent.dead ++ A.drop k)[id]? = A[id]? := fun id hid => by
    rw [List.getElem?_append_right (by simpa using hid)]
    simp only [List.length_replicate, List.getElem?_drop]
    congr 1; omega
  have hlive : ∀ id, (List.replicate k Ent.dead ++ A.drop k)[id]? ≠ some Ent.dead → A[id]? ≠ some Ent.dead := fun id hd => by
    by_cases e : id < k
    · exact absurd (hlt id e) hd
    · rwa [hge id (by omega)] at hd
  refine ⟨fun id hid => ?_, fun id hid => h.out id (by omega), fun id id' i i' hd hd' => h.one id id' i i' (hlive _ hd) (hlive _ hd'), h.apart, h.low, h.ok⟩
  by_cases e : id < k
  · have := hlt id e
    rw [List.getElem?_eq_getElem hid] at this
    injection this with this
    rw [this]; trivial
  · have := hge id (by omega)
    rw [List.getElem?_eq_getElem hid, List.getElem?_eq_getElem (by omega)] at this
    injection this with this
    rw [this]; exact h.ent id (by omega)

open Classical in
/-- the model of a function whose result is of memory that it has made itself: it leaves the arena as it was -/
noncomputable def freshM (n : Nat) (M : Model) : Model := fun args A =>
  match M args A with
  | some (r, A') => if A'.take A.length = A ∧ A.all (entNoRef n) = true then some (frz (List.replicate A.length .dead ++ A'.drop A.length) n r, A) else none
  | none => none

theorem FnSpec.fresh {f : FuncId} {M : Model} (h : FnSpec P G f M) (n : Nat) : FnSpec P G f (freshM n M) := by
  refine ⟨h.1, fun args A r A1 he w OK g vs hA hG hl => ?_⟩
  unfold freshM at he
  split at he
  · rename_i r0 A' hM
    simp only [Option.ite_none_right_eq_some, Option.some.injEq, Prod.mk.injEq] at he
    obtain ⟨⟨htk, hall⟩, rfl, rfl⟩ := he
    refine (h.2 args A r0 A' hM w OK g vs hA hG hl).mono ?_
    rintro e w' ⟨v, OK', g', rfl, hv, hA', hx⟩
    rw [List.all_eq_true] at hall
    have hlen : A.length ≤ A'.length := by
      have := congrArg List.length htk
      simp at this; omega
    have hold : ∀ id, id < A.length → A'[id]? = A[id]? := fun id hid => by
      have := congrArg (fun l : Arena => l[id]?) htk
      simp only [List.getElem?_take_of_lt hid] at this
      exact this
    have hlive : ∀ id, id < A.length → A'[id]? ≠ some .dead := fun id hid e => by
      rw [hold id hid, List.getElem?_eq_getElem hid] at e
      injection e with e
      have := hall _ (List.getElem_mem hid)
      rw [e] at this; cases this
    have hge : ∀ id, A.length ≤ id → (List.replicate A.length Ent.dead ++ A'.drop A.length)[id]? = A'[id]? := fun id hid => by
      rw [List.getElem?_append_right (by simpa using hid)]
      simp only [List.length_replicate, List.getElem?_drop]
      congr 1; omega
    have hin : ∀ id, id < A.length → (List.replicate A.length Ent.dead ++ A'.drop A.length)[id]? = some .dead := fun id hid => by
      rw [List.getElem?_append_left (by simpa using hid)]; simp [hid]
    have hnew : ∀ id inc, A.length ≤ id → A'[id]? ≠ some .dead → inc ∈ g' id → w.heap.size ≤ inc.b := fun id inc hid hd hi => by
      rcases hx.fresh id inc hi with ⟨id0, inc0, h0, h1⟩ | h1
      · exfalso
        have hid0 : id0 < A.length := by
          rcases Nat.lt_or_ge id0 A.length with h | h
          · exact h
          · rw [hA.out id0 h] at h0; cases h0
        obtain ⟨n', _, hm⟩ := hx.gle id0 inc0 h0
        have := (hA'.one id id0 inc _ hd (hlive id0 hid0) hi hm h1.symm).1
        omega
      · exact h1
    obtain ⟨OK2, hOK2⟩ : ∃ OK2 : Nat → Prop, ∀ b, OK2 b ↔ (OK' b ∨ ∃ id inc, A.length ≤ id ∧ A'[id]? ≠ some Ent.dead ∧ inc ∈ g' id ∧ inc.b = b) := ⟨_, fun _ => Iff.rfl⟩
    obtain ⟨g2, hg2, hg2'⟩ : ∃ g2 : Ghost, (∀ id, id < A.length → g2 id = g' id) ∧ ∀ id, A.length ≤ id → g2 id = [] :=
      ⟨fun id => if id < A.length then g' id else [], fun id hid => by simp [hid], fun id hid => by simp [Nat.not_lt.2 hid]⟩
    have hlt2 : ∀ id inc, inc ∈ g2 id → id < A.length := fun id inc hi => by
      rcases Nat.lt_or_ge id A.length with h | h
      · exact h
      · rw [hg2' id h] at hi; cases hi
    refine ⟨v, OK2, g2, rfl, ?_, ⟨fun id hid => ?_, hg2', fun id id' i i' hd hd' hi hi' e => ?_, fun id inc hi ho => ?_, fun id inc hi => ?_, fun b hb => ?_⟩, ?_⟩
    · have := frz_sound (OK2 := OK2) (hA'.killFirst A.length hlen) (fun b hb => (hOK2 b).2 (.inl hb)) (fun id inc hd hi => (hOK2 _).2 (.inr (by
        rcases Nat.lt_or_ge id A.length with h | h
        · exact absurd (hin id h) hd
        · rw [hge id h] at hd
          exact ⟨id, inc, h, hd, hi, rfl⟩))) n r0 v hv
      exact this.mono (fun _ h => h) (fun _ _ => rfl) _ g2.none_le
    · have h1 := hA'.ent id (by omega)
      have h2 := hold id hid
      rw [List.getElem?_eq_getElem hid, List.getElem?_eq_getElem (by omega)] at h2
      injection h2 with h2
      rw [h2] at h1
      rw [hg2 id hid]
      exact h1.noRef (hall _ (List.getElem_mem hid)) (fun b hb => (hOK2 b).2 (.inl hb))
    · have k1 := hlt2 _ _ hi
      have k2 := hlt2 _ _ hi'
      rw [hg2 _ k1] at hi
      rw [hg2 _ k2] at hi'
      exact hA'.one id id' i i' (hlive _ k1) (hlive _ k2) hi hi' e
    · have k1 := hlt2 _ _ hi
      rw [hg2 _ k1] at hi
      rcases (hOK2 _).1 ho with h1 | ⟨id', inc', h1, h2, h3, h4⟩
      · exact hA'.apart _ _ hi h1
      · have := (hA'.one id' id inc' inc h2 (hlive _ k1) h3 hi h4).1
        omega
    · have k1 := hlt2 _ _ hi
      rw [hg2 _ k1] at hi
      exact hA'.low _ _ hi
    · rcases (hOK2 _).1 hb with h1 | ⟨id', inc', h1, h2, h3, rfl⟩
      · exact hA'.ok _ h1
      · exact hA'.low _ _ h3
    · refine { os := hx.os, tape := hx.tape, output := hx.output, size := hx.size, blk := hx.blk, gle := fun id inc hi => ?_, okle := fun b hb => (hOK2 b).2 (.inl (hx.okle b hb)), fresh := fun id inc hi => ?_, okf := fun b hb => ?_, loops := hx.loops, fix := fun id inc hi h0 => ?_ }
      · have k : id < A.length := by
          rcases Nat.lt_or_ge id A.length with h | h
          · exact h
          · rw [hA.out id h] at hi; cases hi
        rw [hg2 id k]
        exact hx.gle id inc hi
      · have k1 := hlt2 _ _ hi
        rw [hg2 _ k1] at hi
        exact hx.fresh _ _ hi
      · rcases (hOK2 _).1 hb with h1 | ⟨id', inc', h1, h2, h3, rfl⟩
        · exact hx.okf _ h1
        · exact .inr (hnew _ _ h1 h2 h3)
      · have k : id < A.length := by
          rcases Nat.lt_or_ge id A.length with h | h
          · exact h
          · rw [hA.out id h] at hi; cases hi
        rw [hg2 id k]
        exact hx.fix id inc hi h0
  · cases he

theorem FnSpec.of_all {f : FuncId} {M' : Nat → Model} {M : Model} (h : ∀ fuel, FnSpec P G f (M' fuel)) (hM : ∀ args A x, M args A = some x → ∃ fuel, M' fuel args A = some x) : FnSpec P G f M := by
  refine ⟨(h 0).1, fun args A r A' he => ?_⟩
  obtain ⟨fuel, h1⟩ := hM args A _ he
  exact (h fuel).2 args A r A' h1
end

/-! ### loops that count up -/
section
variable {E : Env} {fuel : Nat} {a : MC} {mask : List Nat}

/-- 'N' is the number of the round in which the loop ends. -/
theorem iter_up (S : Nat → List AV) (B : Nat → Arena) (N : Nat) {o : Out} (hc : ∀ i, clear mask (S i) = S i) (ho : ∀ σ A, o ≠ .normal σ A)
    (hs : ∀ i, i < N → run E fuel [.code a] (S i) (B i) = some (.normal (S (i + 1)) (B (i + 1)))) (he : run E fuel [.code a] (S N) (B N) = some o) {m : Nat} (hm : N < m) :
    iter (evC E fuel a) mask m (S 0) (B 0) = some o := by
  have key : ∀ k i m, i + k = N → k < m → iter (evC E fuel a) mask m (S i) (B i) = some o := by
    intro k
    induction k with
    | zero =>
      intro i m hi hm
      obtain ⟨m, rfl⟩ : ∃ j, m = j + 1 := ⟨m - 1, by omega⟩
      obtain rfl : i = N := by omega
      rw [iter_succ, hc, he]
      cases o with
      | normal σ A => exact absurd rfl (ho _ _)
      | exit _ _ _ => rfl
      | ret _ _ => rfl
    | succ k ih =>
      intro i m hi hm
      obtain ⟨m, rfl⟩ : ∃ j, m = j + 1 := ⟨m - 1, by omega⟩
      rw [iter_succ, hc, hs i (by omega)]
      exact ih (i + 1) m (by omega) (by omega)
  exact key N 0 m (by omega) hm

/-- a loop that looks for the first 'i' below 'n' of which 'p' holds -/
theorem iter_search (S : Nat → List AV) (B : Nat → Arena) (n : Nat) (p : Nat → Prop) {oF : Nat → Out} {oE : Out} (hc : ∀ i, clear mask (S i) = S i) (hF : ∀ i σ A, oF i ≠ .normal σ A) (hE : ∀ σ A, oE ≠ .normal σ A)
    (hs : ∀ i, i < n → ¬ p i → run E fuel [.code a] (S i) (B i) = some (.normal (S (i + 1)) (B (i + 1)))) (hf : ∀ i, i < n → p i → run E fuel [.code a] (S i) (B i) = some (oF i)) (he : run E fuel [.code a] (S n) (B n) = some oE) {m : Nat} (hm : n < m) :
    ((∃ i, i < n ∧ p i ∧ (∀ j, j < i → ¬ p j) ∧ iter (evC E fuel a) mask m (S 0) (B 0) = some (oF i)) ∨ ((∀ i, i < n → ¬ p i) ∧ iter (evC E fuel a) mask m (S 0) (B 0) = some oE)) := by
  by_cases h : ∃ i, i < n ∧ p i
  · obtain ⟨i, ⟨hi, hp⟩, hmin⟩ : ∃ i, (i < n ∧ p i) ∧ ∀ j, j < i → ¬ (j < n ∧ p j) := by
      obtain ⟨i, hi⟩ := h
      induction i using Nat.strongRecOn with
      | ind i ih =>
        by_cases hj : ∃ j, j < i ∧ (j < n ∧ p j)
        · obtain ⟨j, hj, hp⟩ := hj
          exact ih j hj hp
        · exact ⟨i, hi, fun j h hp => hj ⟨j, h, hp⟩⟩
    have hmin' : ∀ j, j < i → ¬ p j := fun j hj hp => hmin j hj ⟨by omega, hp⟩
    exact .inl ⟨i, hi, hp, hmin', iter_up S B i hc (hF i) (fun j hj => hs j (by omega) (hmin' j hj)) (hf i hi hp) (by omega)⟩
  · have h' : ∀ i, i < n → ¬ p i := fun i hi hp => h ⟨i, hi, hp⟩
    exact .inr ⟨h', iter_up S B n hc hE (fun j hj => hs j hj (h' j hj)) he hm⟩
end

/-! ### a list that is appended to -/

def oA (A : Arena) (es : List AV) : AV := match es with | [] => .nilS | _ :: _ => .sl A.length 0 es.length
def aA (A : Arena) (esz : Nat) (es : List AV) : Arena := match es with | [] => A | [x] => A ++ [.row esz false [x]] | _ :: _ :: _ => A ++ [.row esz true es]
/-- a slice of these elements that nobody writes -/
def slA (esz : Nat) (es : List AV) : AV := match es with | [] => .nilS | _ :: _ => .fs esz es

section
variable {A : Arena} {esz bytes : Nat} {es : List AV}
theorem slA_holds (esz : Nat) (es : List AV) : SlA esz es (slA esz es) := by
  cases es with
  | nil => exact .inl ⟨rfl, rfl⟩
  | cons x r => exact .inr rfl
theorem oA_src : srcElems esz (aA A esz es) (oA A es) = some es := by
  match es with
  | [] => rfl
  | [x] => simp [oA, aA, srcElems]
  | x :: y :: r =>
    simp only [oA, aA, srcElems, List.getElem?_concat_length]
    simp
theorem oA_len : evLenSl (oA A es) = some (.int .i64 (es.length : Int)) := by
  cases es <;> rfl
theorem append1 (x : AV) (he : 0 < esz) (hb : 0 < bytes) (hs : (es.length + 1) * bytes ≤ 140737488355328) : evAppend esz bytes (aA A esz es) (oA A es) (.fs esz [x]) = some (oA A (es ++ [x]), aA A esz (es ++ [x])) := by
  match es with
  | [] =>
    have : bytes ≤ 140737488355328 := by simpa using hs
    simp [oA, aA, evAppend, he, hb, this]
  | [y] =>
    have : 2 * bytes ≤ 140737488355328 := by simpa using hs
    simp [oA, aA, evAppend, he, hb, this]
  | y :: z :: r =>
    simp only [List.length_cons] at hs
    simp [oA, aA, evAppend, he, hb, hs]
theorem frz_oA (n : Nat) : frz (aA A esz es) (n + 1) (oA A es) = slA esz (es.map (frz (aA A esz es) n)) := by
  match es with
  | [] => rfl
  | [x] => simp [oA, aA, frz, slA]
  | x :: y :: r =>
    simp only [oA, aA, frz, slA, List.getElem?_concat_length]
    simp
end

/-! ### lists of integers -/

open Classical in
noncomputable def intOf : AV → Option Int
  | .int .i64 z => if inI z then some z else none
  | _ => none
noncomputable def allOf {α : Type} (f : AV → Option α) : List AV → Option (List α)
  | [] => some []
  | x :: r => match f x, allOf f r with
    | some y, some l => some (y :: l)
    | _, _ => none
noncomputable def listOf {α : Type} (f : AV → Option α) : AV → Option (List α)
  | .nilS => some []
  | .fs 1 es => if es.length ≤ 9223372036854775807 then allOf f es else none
  | _ => none
noncomputable def intsOf (a : AV) : Option (List Int) := listOf intOf a

theorem allOf_some {α : Type} {f : AV → Option α} : ∀ {es : List AV} {xs : List α}, allOf f es = some xs → es.length = xs.length ∧ ∀ i (h : i < es.length) (h' : i < xs.length), f es[i] = some xs[i]
  | [], xs, h => by injection h with h; subst h; exact ⟨rfl, fun i h => by cases h⟩
  | x :: r, xs, h => by
    unfold allOf at h
    split at h
    · rename_i y l h1 h2
      injection h with h; subst h
      obtain ⟨k1, k2⟩ := allOf_some (es := r) h2
      refine ⟨by simp [k1], fun i h h' => ?_⟩
      cases i with
      | zero => exact h1
      | succ i => exact k2 i (by simpa using h) (by simpa using h')
    · cases h
theorem allOf_map {α : Type} {f : AV → Option α} {c : α → AV} : ∀ {xs : List α}, (∀ x ∈ xs, f (c x) = some x) → allOf f (xs.map c) = some xs
  | [], _ => rfl
  | x :: r, h => by
    simp only [List.map_cons, allOf, h x (by simp), allOf_map (xs := r) (fun y hy => h y (by simp [hy]))]
theorem listOf_sl {α : Type} {f : AV → Option α} {a : AV} {xs : List α} (h : listOf f a = some xs) : ∃ es, SlA 1 es a ∧ es.length = xs.length ∧ (∀ i (h : i < es.length) (h' : i < xs.length), f es[i] = some xs[i]) ∧ xs.length ≤ 9223372036854775807 := by
  unfold listOf at h
  split at h
  · injection h with h; subst h
    exact ⟨[], .inl ⟨rfl, rfl⟩, rfl, fun i h => (by cases h), by simp⟩
  · rename_i es
    simp only [Option.ite_none_right_eq_some] at h
    obtain ⟨k1, k2⟩ := allOf_some h.2
    exact ⟨es, .inr rfl, k1, k2, by omega⟩
  · cases h
theorem listOf_of {α : Type} {f : AV → Option α} {c : α → AV} {a : AV} {xs : List α} (h : SlA 1 (xs.map c) a) (hl : xs.length ≤ 9223372036854775807) (hc : ∀ x ∈ xs, f (c x) = some x) : listOf f a = some xs := by
  rcases h with ⟨rfl, h2⟩ | rfl
  · have : xs = [] := by simpa using h2
    subst this; rfl
  · simp only [listOf, List.length_map]
    rw [if_pos hl]
    exact allOf_map hc
theorem intOf_some {a : AV} {z : Int} (h : intOf a = some z) : a = .int .i64 z ∧ inI z := by
  unfold intOf at h
  split at h
  · simp only [Option.ite_none_right_eq_some, Option.some.injEq] at h
    obtain ⟨h1, rfl⟩ := h
    exact ⟨rfl, h1⟩
  · cases h
theorem intOf_int {z : Int} (h : inI z) : intOf (.int .i64 z) = some z := if_pos h
theorem intsOf_some {a : AV} {xs : List Int} (h : intsOf a = some xs) : SlA 1 (xs.map (.int .i64)) a ∧ (∀ z ∈ xs, inI z) ∧ xs.length ≤ 9223372036854775807 := by
  obtain ⟨es, h1, h2, h3, h4⟩ := listOf_sl h
  have : es = xs.map (.int .i64) := List.ext_getElem (by simpa using h2) fun i k1 k2 => by
    rw [(intOf_some (h3 i k1 (by simpa using k2))).1]; simp
  refine ⟨this ▸ h1, fun z hz => ?_, h4⟩
  obtain ⟨i, hi, rfl⟩ := List.mem_iff_getElem.1 hz
  exact (intOf_some (h3 i (by omega) hi)).2
theorem intsOf_of {a : AV} {xs : List Int} (h : SlA 1 (xs.map (.int .i64)) a) (hl : xs.length ≤ 9223372036854775807) (hr : ∀ z ∈ xs, inI z) : intsOf a = some xs := listOf_of h hl fun x hx => intOf_int (hr x hx)

theorem least {p : Nat → Prop} (h : ∃ i, p i) : ∃ i, p i ∧ ∀ j, j < i → ¬ p j := by
  obtain ⟨i, hi⟩ := h
  induction i using Nat.strongRecOn with
  | ind i ih =>
    by_cases hj : ∃ j, j < i ∧ p j
    · obtain ⟨j, hj, hp⟩ := hj
      exact ih j hj hp
    · exact ⟨i, hi, fun j h hp => hj ⟨j, h, hp⟩⟩

/-! ### small facts on numbers, for 'simp' -/
theorem lt_nat (a b : Nat) (k : IntKind) : evBin .lss (.int k (a : Int)) (.int k (b : Int)) = some (.bool (decide (a < b))) := by
  simp [evBin]
theorem shr_nat (a b : Nat) (k k' : IntKind) (h : b ≤ k.bits) : evBin .shr (.int k (a : Int)) (.int k' (b : Int)) = some (.int k ((a / 2 ^ b : Nat) : Int)) := by
  have hm : min b k.bits = b := by omega
  have : (a : Int).fdiv (2 ^ b) = ((a / 2 ^ b : Nat) : Int) := by
    rw [Int.fdiv_eq_ediv_of_nonneg _ (Int.le_of_lt (Int.pow_pos (by decide)))]
    norm_cast
  simp only [evBin]
  rw [if_neg (by omega), Int.toNat_natCast, hm, this]
theorem rem2_nat (a : Nat) (k : IntKind) : evBin .rem (.int k (a : Int)) (.int k 2) = some (.int k ((a % 2 : Nat) : Int)) := by
  simp only [evBin]
  rw [if_pos trivial, if_neg (by omega), Int.tmod_eq_emod_of_nonneg (by omega)]
  norm_cast
theorem eq1_nat (a : Nat) (k : IntKind) : evBin .eql (.int k (a : Int)) (.int k 1) = some (.bool (decide (a = 1))) := by
  simp [evBin]; omega
theorem add1_nat (a : Nat) (h : a < 9223372036854775807) : evBin .add (.int .i64 (a : Int)) (.int .i64 1) = some (.int .i64 ((a + 1 : Nat) : Int)) := by
  have : IntKind.i64.wrap ((a : Int) + 1) = ((a + 1 : Nat) : Int) := by rw [wrapI (by unfold inI; omega)]; omega
  simp only [evBin]
  rw [if_pos trivial, this]
end Go.Proofs.Ytemklhljjaniaaa
/-
  A function's mark on the arena, in part let go. Program-independent.
-/
namespace Go.Proofs.Ytemklhljjaniaaa
open Go
section
variable {P : Program} {G : Nat → Option (List AV)}

/-- the first row that a function makes is let go behind it -/
theorem FnSpecY.kill {f : FuncId} {M : HModel} (h : FnSpecY P G f M) : FnSpecY P G f (fun hd args A => (M hd args A).map fun x => (x.1, x.2.set A.length .dead)) :=
  ⟨h.1, fun ys hd hs args A r A' he w OK g vs hA hI hl => by
    simp only [Option.map_eq_some_iff, Prod.mk.injEq] at he
    obtain ⟨⟨r0, A0⟩, h1, rfl, rfl⟩ := he
    refine (h.2 ys hd hs args A r0 A0 h1 w OK g vs hA hI hl).mono ?_
    rintro e w' ⟨v, OK', g', rfl, k1, k2, k3⟩
    exact ⟨v, OK', g', rfl, k1, k2.kill _, k3⟩⟩
theorem FnSpecY.of_all {f : FuncId} {M' : Nat → HModel} {M : HModel} (h : ∀ fuel, FnSpecY P G f (M' fuel)) (hM : ∀ hd args A x, M hd args A = some x → ∃ fuel, M' fuel hd args A = some x) : FnSpecY P G f M := by
  refine ⟨(h 0).1, fun ys hd hs args A r A' he => ?_⟩
  obtain ⟨fuel, h1⟩ := hM hd args A _ he
  exact (h fuel).2 ys hd hs args A r A' h1
end
end Go.Proofs.Ytemklhljjaniaaa
/-
  Functions whose result is of memory that they have made themselves. Program-independent.
-/
namespace Go.Proofs.Ytemklhljjaniaaa
open Go

/-- made of numbers and of rows of this arena -/
def freshB (A : Arena) : Nat → AV → Bool
  | _, .bool _ => true
  | _, .int .. => true
  | _, .str _ => true
  | _, .nilS => true
  | _, .nilP => true
  | _, .nilM => true
  | _, .nilF => true
  | _, .nilI => true
  | n + 1, .agg cs => cs.all (freshB A n)
  | n + 1, .tup cs => cs.all (freshB A n)
  | n + 1, .iface _ v => freshB A n v
  | n + 1, .sl id off len => match A[id]? with
    | some (.row _ _ es) => ((es.drop off).take len).all (freshB A n)
    | _ => false
  | n + 1, .ptr id i o => match A[id]? with
    | some (.row _ _ es) => match es[i]? with
      | some e => e.solid && decide (o < (cellsOf e).length) && (cellsOf e).all (freshB A n)
      | none => false
    | _ => false
  | _, _ => false

section
variable {P : Program} {G : Nat → Option (List AV)}

theorem fresh_sound {w : World} {OK OK2 : Nat → Prop} {g : Ghost} {A : Arena} (hA : ARel w OK g A) (h2 : ∀ id inc, A[id]? ≠ some .dead → inc ∈ g id → OK2 inc.b) : ∀ (n : Nat) (a : AV) (v : Value), freshB A n a = true → VRel w OK g v a → VRel w OK2 Ghost.none v (frz A n a) := by
  intro n
  induction n with
  | zero =>
    intro a v hs h
    cases a <;> simp only [freshB, Bool.false_eq_true] at hs <;> simp only [frz] <;> first
      | (have e := h.inv_bool; rw [e]; exact .bool _ _)
      | (have e := h.inv_int; rw [e]; exact .int _ _ _)
      | (obtain ⟨s, e, hs⟩ := h.inv_str; rw [e]; exact .str _ _ _ hs)
      | (obtain ⟨p, e⟩ := h.inv_nilS; rw [e]; exact .nilS _ _)
      | (have e := h.inv_nilP; rw [e]; exact .nilP _)
      | (have e := h.inv_nilM; rw [e]; exact .nilM _)
      | (cases h; exact .nilF _)
      | (cases h; exact .nilI _)
  | succ n ih =>
    intro a v hs h
    cases a <;> simp only [freshB, Bool.false_eq_true] at hs <;> simp only [frz] <;> try first
      | (have e := h.inv_bool; rw [e]; exact .bool _ _)
      | (have e := h.inv_int; rw [e]; exact .int _ _ _)
      | (obtain ⟨s, e, hs⟩ := h.inv_str; rw [e]; exact .str _ _ _ hs)
      | (obtain ⟨p, e⟩ := h.inv_nilS; rw [e]; exact .nilS _ _)
      | (have e := h.inv_nilP; rw [e]; exact .nilP _)
      | (have e := h.inv_nilM; rw [e]; exact .nilM _)
      | (cases h; exact .nilF _)
      | (cases h; exact .nilI _)
    case sl id off len =>
      split at hs
      · rename_i s gr es hid
        try simp only [hid]
        rw [List.all_eq_true] at hs
        obtain ⟨inc, cap, ao, hinc, rfl, hl, hn, hcap, ha⟩ := h.inv_sl
        obtain ⟨hlt', hrow⟩ := List.getElem?_eq_some_iff.1 hid
        have hent := hA.ent id hlt'
        rw [hrow] at hent
        obtain ⟨hesz, hne, hnc, c, T, fz, hh, hu, hcs, hel⟩ := hent.2 inc hinc
        have hlen : (((es.drop off).take len).map (frz A n)).length = len := by simp; omega
        obtain ⟨vals, hvals⟩ : ∃ vals : Nat → Value, ∀ i (hi : i < len), VRel w OK g (vals i) (es[off + i]'(by omega)) ∧ (vals i).cells.size = s ∧ okCells (vals i) ∧ ∀ j, j < s → c[inc.o + (off + i) * s + j]? = (vals i).cells[j]? :=
          ⟨fun i => if hi : i < len then (hel (off + i) (by omega) (by omega)).choose else undef, fun i hi => by simp only [hi, dif_pos]; exact (hel (off + i) (by omega) (by omega)).choose_spec⟩
        have hmem : ∀ i (hi : i < len), es[off + i]'(by omega) ∈ (es.drop off).take len := fun i hi => by
          refine List.mem_iff_getElem.2 ⟨i, by simp; omega, ?_⟩
          simp
        have := VRel.fs (w := w) (OK := OK2) Ghost.none inc.b ao cap s T c fz (((es.drop off).take len).map (frz A n)) vals (h2 id inc (by rw [hid]; simp) hinc) hh (by omega)
          (fun i hi => by simp only [List.getElem_map, List.getElem_take, List.getElem_drop]; exact ih _ _ (hs _ (hmem i (by omega))) (hvals i (by omega)).1)
          (fun i hi => ⟨(hvals i (by omega)).2.1, (hvals i (by omega)).2.2.1⟩)
          (fun i hi j hj => by
            rw [← (hvals i (by omega)).2.2.2 j hj, ha (by omega), hesz]
            congr 1; rw [Nat.add_mul]; omega)
        rwa [hlen] at this
      · cases hs
    case ptr id i o =>
      split at hs
      · rename_i s gr es hid
        split at hs
        · rename_i e he
          simp only [Bool.and_eq_true, decide_eq_true_eq] at hs
          obtain ⟨⟨hsol, ho⟩, hall⟩ := hs
          rw [List.all_eq_true] at hall
          try simp only [hid, he]
          rw [if_pos ⟨hsol, ho⟩]
          obtain ⟨inc, hinc, rfl, hn, ho'⟩ := h.inv_ptr
          obtain ⟨hlt', hrow⟩ := List.getElem?_eq_some_iff.1 hid
          obtain ⟨hi', rfl⟩ := List.getElem?_eq_some_iff.1 he
          have hent := hA.ent id hlt'
          rw [hrow] at hent
          obtain ⟨hesz, hne, hnc, c, T, fz, hh, hu, hcs, hel⟩ := hent.2 inc hinc
          obtain ⟨v, hv, hvs, hok, hc⟩ := hel i hi' hn
          obtain ⟨k1, k2, k3⟩ := hv.cells hsol
          obtain ⟨f, hf⟩ : ∃ f : Nat → Value, ∀ j (hj : j < (cellsOf es[i]).length), v.cells[j]? = some (f j) ∧ (f j).oneCell' = true ∧ VRel w OK g (f j) (cellsOf es[i])[j] :=
            ⟨fun j => (v.cells[j]?).getD undef, fun j hj => by
              obtain ⟨x, a1, a2, a3⟩ := k3 j hj
              simp only [a1, Option.getD_some]
              exact ⟨trivial, a2, a3⟩⟩
          refine .fp _ inc.b _ T c fz _ (fun j => f (o + j)) (h2 id inc (by rw [hid]; simp) hinc) hh (by rw [List.length_map, List.length_drop]; omega) (fun j hj => ?_) (fun j hj => ?_)
          · simp only [List.getElem_map, List.getElem_drop]
            have hj' : o + j < (cellsOf es[i]).length := by rw [List.length_map, List.length_drop] at hj; omega
            exact ih _ _ (hall _ (List.getElem_mem _)) (hf (o + j) hj').2.2
          · have hj' : o + j < (cellsOf es[i]).length := by rw [List.length_map, List.length_drop] at hj; omega
            refine ⟨?_, (hf (o + j) hj').2.1⟩
            rw [hesz, Nat.add_assoc, hc (o + j) (by omega)]
            exact (hf (o + j) hj').1
        · cases hs
      · cases hs
    case agg cs =>
      rw [List.all_eq_true] at hs
      obtain ⟨vs, vals, rfl, hl, hg, hv⟩ := h.inv_agg
      exact .agg _ vs _ (by simpa using hl) vals (fun i hi => hg i (by simpa using hi)) (fun i hi => by simp only [List.getElem_map]; exact ih _ _ (hs _ (List.getElem_mem _)) (hv i (by simpa using hi)))
    case tup cs =>
      rw [List.all_eq_true] at hs
      obtain ⟨vs, vals, rfl, hl, hg, hv⟩ := h.inv_tup
      exact .tup _ vs _ (by simpa using hl) vals (fun i hi => hg i (by simpa using hi)) (fun i hi => by simp only [List.getElem_map]; exact ih _ _ (hs _ (List.getElem_mem _)) (hv i (by simpa using hi)))
    case iface t x =>
      cases h with
      | iface _ t v a hv => exact .iface _ t v _ (ih _ _ hs hv)

/-- A function that leaves no mark, and whose result is of memory that it has made itself. -/
def PureSpecF (P : Program) (G : Nat → Option (List AV)) (f : FuncId) (M : PModel) : Prop :=
  Enters P f ∧ ∀ args r, M args = some r → ∀ (w : World) (OK : Nat → Prop) (vs : List Value), (∀ b, OK b → b < w.heap.size) → GRel G w OK → ListRel w OK Ghost.none vs args →
    Calls P f vs.toArray w fun e w' => ∃ v OK', e = .returned v ∧ VRel w' (fun b => OK' b ∧ w.heap.size ≤ b) Ghost.none v r ∧ (∀ b, OK' b → b < w'.heap.size) ∧ Ext w OK Ghost.none w' OK' Ghost.none

theorem PureSpecF.pure {f : FuncId} {M : PModel} (h : PureSpecF P G f M) : PureSpec P G f M := by
  refine ⟨h.1, fun args r he w OK vs hok hG hl => ?_⟩
  refine (h.2 args r he w OK vs hok hG hl).mono ?_
  rintro e w' ⟨v, OK', rfl, hv, hb, hx⟩
  exact ⟨v, OK', rfl, hv.mono (fun _ h => h.1) (fun _ _ => rfl) _ (Ghost.le_refl _), hb, hx⟩

/-- the model of such a function, of whatever arguments -/
def pureF (n : Nat) (M : PModel) : Model := fun args A => (M (args.map (frz A n))).map fun r => (r, A)
def pureFH (n : Nat) (M : PModel) : HModel := fun _ => pureF n M

theorem FnSpec.of_pureF {f : FuncId} {M : PModel} (h : PureSpecF P G f M) (n : Nat) : FnSpec P G f (pureF n M) := by
  refine ⟨h.1, ?_⟩
  intro args A r A' he w OK g vs hA hG hl
  unfold pureF at he
  rw [Option.map_eq_some_iff] at he
  obtain ⟨r0, hM, he⟩ := he
  injection he with e1 e2
  subst e1; subst e2
  have hok2 : ∀ b, (OK b ∨ ∃ id inc, inc ∈ g id ∧ inc.b = b) → b < w.heap.size := fun b hb => by
    rcases hb with hb | ⟨id, inc, hi, rfl⟩
    · exact hA.ok b hb
    · exact hA.low id inc hi
  have hl2 : ListRel w (fun b => OK b ∨ ∃ id inc, inc ∈ g id ∧ inc.b = b) Ghost.none vs (args.map (frz A n)) := hl.map fun v a _ hv => frz_sound hA (fun b hb => Or.inl hb) (fun id inc _ hi => Or.inr ⟨id, inc, hi, rfl⟩) n a v hv
  refine (h.2 _ _ hM w (fun b => OK b ∨ ∃ id inc, inc ∈ g id ∧ inc.b = b) vs hok2 (fun gl cs hg => (hG gl cs hg).mono (fun b hb => .inl hb) (fun _ _ => rfl) _ (Ghost.le_refl _)) hl2).mono ?_
  rintro e w' ⟨v, OK', rfl, hv, hok', hx⟩
  have hb : ∀ b, b < w.heap.size → w'.heap[b]? = w.heap[b]? := fun b hb => hx.blk b hb (fun _ _ (hi : _ ∈ []) => by cases hi)
  have hok3 : ∀ b, (OK b ∨ (OK' b ∧ w.heap.size ≤ b)) → b < w'.heap.size := fun b hb => by
    rcases hb with hb | hb
    · exact Nat.lt_of_lt_of_le (hA.ok b hb) hx.size
    · exact hok' b hb.1
  have hv2 : VRel w' (fun b => OK b ∨ (OK' b ∧ w.heap.size ≤ b)) Ghost.none v r0 := hv.mono (fun _ h => .inr h) (fun _ _ => rfl) _ (Ghost.le_refl _)
  exact ⟨v, fun b => OK b ∨ (OK' b ∧ w.heap.size ≤ b), g, rfl, hv2.none_to,
    hA.keep hx.size hb (fun b => OK b ∨ (OK' b ∧ w.heap.size ≤ b)) (fun _ h => .inl h) (fun _ h => h.elim .inl fun h => .inr h.2) hok3,
    hx.os, hx.tape, hx.output, hx.size, fun b hb' _ => hb b hb', g.le_refl, fun _ h => .inl h, fun id inc hi => .inl ⟨id, inc, hi, rfl⟩, fun _ h => h.elim .inl fun h => .inr h.2, hx.loops, fun _ _ _ _ => rfl⟩
theorem FnSpecY.of_pureF {f : FuncId} {M : PModel} (h : PureSpecF P G f M) (n : Nat) : FnSpecY P G f (pureFH n M) := (FnSpec.of_pureF h n).y

/-- a function, run in an arena of its own; its result is of memory that it has made itself -/
noncomputable def evF (E : Env) (fuel : Nat) (mf : MFun) (n : Nat) (args : List AV) : Option AV := (evFun E fuel mf args []).bind fun x => if freshB x.2 n x.1 = true then some (frz x.2 n x.1) else none
theorem evF_run {E : Env} {fuel : Nat} {n : Nat} (mf : MFun) (args : List AV) (h : args.length = mf.n) : evF E fuel mf n args = match run E fuel [.code mf.mc] (args ++ List.replicate (mf.len - mf.n) .undef) [] with
    | some (.normal σ A') => (evRes A' σ mf.res).bind fun l => if freshB A' n (pack l) = true then some (frz A' n (pack l)) else none
    | some (.ret σ A') => (evRes A' σ mf.res).bind fun l => if freshB A' n (pack l) = true then some (frz A' n (pack l)) else none
    | _ => none := by
  unfold evF
  rw [evFun_run mf args h]
  cases run E fuel [.code mf.mc] (args ++ List.replicate (mf.len - mf.n) .undef) [] with
  | none => rfl
  | some o => cases o with
    | normal σ A => cases h1 : evRes A σ mf.res with
      | none => simp [h1]
      | some l => simp only [h1, Option.map_some, Option.bind_some]
    | exit id σ A => rfl
    | ret σ A => cases h1 : evRes A σ mf.res with
      | none => simp [h1]
      | some l => simp only [h1, Option.map_some, Option.bind_some]
theorem PureSpecF.of_ev {E : Env} {f : FuncId} {fn : Func} {k : Nat} {vs : List Nat} {pu : List FuncId} {on : Bool} {hints : Hints} {mf : MFun} (hE : EnvSound P E) (hys : E.ys = []) (hf : P.funcs[f]? = some fn) (hc : compFun P fn k vs pu on hints = some mf) (n : Nat) {M : PModel}
    (hM : ∀ args r, M args = some r → ∃ fuel, evF E fuel mf n args = some r) (hpu : PureIn E pu := by first | exact PureIn.nil | (repeat (first | exact PureIn.nil | refine PureIn.cons (M := _) rfl ?_))) : PureSpecF P E.glob f M := by
  refine ⟨(evFun_sound (fuel := 0) hE hys hf hc hpu).1, ?_⟩
  intro args r he w OK vs hok hG hl
  obtain ⟨fuel, h⟩ := hM args r he
  unfold evF at h
  rw [Option.bind_eq_some_iff] at h
  obtain ⟨⟨r0, A'⟩, h1, h⟩ := h
  simp only [Option.ite_none_right_eq_some, Option.some.injEq] at h
  obtain ⟨hf2, rfl⟩ := h
  refine ((evFun_sound (fuel := fuel) hE hys hf hc hpu).2 _ _ _ _ h1 w OK Ghost.none vs (ARel.nil hok) hG hl).mono ?_
  rintro e w' ⟨v, OK', g', rfl, hv, hA, hx⟩
  have hfr : ∀ id inc, inc ∈ g' id → w.heap.size ≤ inc.b := fun id inc hi => by
    rcases hx.fresh id inc hi with ⟨_, _, h0, _⟩ | h1
    · cases h0
    · exact h1
  refine ⟨v, fun b => OK' b ∨ ∃ id inc, inc ∈ g' id ∧ inc.b = b, rfl, fresh_sound hA (fun id inc _ hi => ⟨.inr ⟨id, inc, hi, rfl⟩, hfr id inc hi⟩) n r0 v hf2 hv, ?_, ?_⟩
  · rintro b (hb | ⟨id, inc, hi, rfl⟩)
    · exact hA.ok b hb
    · exact hA.low id inc hi
  · refine ⟨hx.os, hx.tape, hx.output, hx.size, hx.blk, Ghost.le_refl _, fun b hb => .inl (hx.okle b hb), fun _ _ (hi : _ ∈ []) => (by cases hi), ?_, hx.loops, fun _ _ _ _ => rfl⟩
    rintro b (hb | ⟨id, inc, hi, rfl⟩)
    · exact hx.okf b hb
    · exact .inr (hfr id inc hi)
end

theorem fresh_oA {A : Arena} {esz : Nat} {es : List AV} (n : Nat) (h : ∀ B, es.all (freshB B n) = true) : freshB (aA A esz es) (n + 1) (oA A es) = true := by
  match es with
  | [] => rfl
  | [x] =>
    have := h (aA A esz [x])
    simpa [oA, aA, freshB] using this
  | x :: y :: r =>
    have := h (aA A esz (x :: y :: r))
    simp only [oA, aA, freshB]
    simp only [aA] at this
    rw [List.getElem?_append_right (Nat.le_refl _)]
    simpa using this
@[simp] theorem pureFH_eq (n : Nat) (M : PModel) (h : Handler) (args : List AV) (A : Arena) : pureFH n M h args A = (M (args.map (frz A n))).map fun r => (r, A) := rfl
end Go.Proofs.Ytemklhljjaniaaa
/-
  The functions, compiled; written by wip/gen.
-/
namespace Go.Proofs.Ytemklhljjaniaaa
namespace Cy
open Go
def mf12 : MFun := ⟨2, 4, .seq (.region [⟨some 2, .mv (.cst (.int .i64 0)), none⟩]) (.seq (.seq (.region [⟨none, .mv (.var 0), none⟩, ⟨some 3, .bin .lss (.tmp 0) (.cst (.int .i64 0)), none⟩]) (.cond (.var 3) (.region [⟨none, .mv (.var 0), none⟩, ⟨none, .bin .add (.tmp 0) (.cst (.int .i64 1)), none⟩, ⟨none, .un .neg (.tmp 1), none⟩, ⟨some 0, .mv (.tmp 2), none⟩]) .skip)) (.seq (.region [⟨none, .mv (.var 0), none⟩, ⟨none, .mv (.var 1), none⟩, ⟨none, .bin .rem (.tmp 0) (.tmp 1), none⟩, ⟨some 2, .mv (.tmp 2), none⟩]) .ret)), [.tmp 2]⟩
set_option maxHeartbeats 4000000 in
theorem comp12 : compFun Try.prog Try.f30 2 [0, 1, 4, 6] [] true ([], []) = some mf12 := by kernel_rfl
theorem at12 : Try.prog.funcs[30]? = some Try.f30 := by kernel_rfl
def mf14 : MFun := ⟨3, 12, .seq (.region [⟨some 3, .mv (.cst .nilS), none⟩, ⟨some 4, .mv (.cst .nilS), none⟩, ⟨some 5, .mv (.cst (.bool false)), none⟩]) (.seq (.region [⟨none, .mv (.var 0), none⟩, ⟨none, .mv (.var 1), none⟩, ⟨none, .mv (.var 2), none⟩, ⟨none, .call (.fn 55) [.tmp 0, .tmp 1, .tmp 2], none⟩, ⟨none, .mv (.tmp 3), none⟩, ⟨none, .extract (.tmp 4) 0, none⟩, ⟨none, .extract (.tmp 4) 1, none⟩, ⟨some 6, .mv (.tmp 5), none⟩, ⟨some 7, .mv (.tmp 6), none⟩]) (.seq (.seq (.region [⟨none, .mv (.var 7), none⟩, ⟨some 10, .un .not (.tmp 0), none⟩]) (.cond (.var 10) (.seq (.region [⟨some 3, .mv (.cst .nilS), none⟩, ⟨some 4, .mv (.cst .nilS), none⟩, ⟨some 5, .mv (.cst (.bool false)), none⟩]) .ret) .skip)) (.seq (.seq (.region [⟨none, .mv (.var 6), none⟩, ⟨none, .call (.fn 56) [.tmp 0], none⟩, ⟨none, .mv (.tmp 1), none⟩, ⟨none, .extract (.tmp 2) 0, none⟩, ⟨none, .extract (.tmp 2) 1, none⟩, ⟨some 8, .mv (.tmp 3), none⟩, ⟨some 9, .mv (.tmp 4), none⟩]) (.seq (.region [⟨some 11, .mv (.var 9), none⟩]) (.cond (.var 11) (.seq (.region [⟨none, .mv (.var 8), none⟩, ⟨some 3, .mv (.tmp 0), none⟩, ⟨some 4, .mv (.cst .nilS), none⟩, ⟨some 5, .mv (.cst (.bool true)), none⟩]) .ret) .skip))) (.seq (.region [⟨none, .mv (.var 6), none⟩, ⟨none, .call (.fn 58) [.tmp 0], none⟩, ⟨some 3, .mv (.cst .nilS), none⟩, ⟨some 4, .mv (.tmp 1), none⟩, ⟨some 5, .mv (.cst (.bool false)), none⟩]) .ret)))), [.tmp 3, .tmp 4, .tmp 5]⟩
set_option maxHeartbeats 4000000 in
theorem comp14 : compFun Try.prog Try.f31 3 [0, 1, 2, 6, 7, 8, 9, 10, 11, 12, 21, 27] [] true ([], []) = some mf14 := by kernel_rfl
theorem at14 : Try.prog.funcs[31]? = some Try.f31 := by kernel_rfl
def mf16 : MFun := ⟨2, 5, .seq (.region [⟨some 2, .box (.var 0), none⟩, ⟨some 3, .mv (.cst (.bool false)), none⟩]) (.seq (.region [⟨none, .makeFunc (.func 80) [] [.var 2], none⟩, ⟨some 4, .mv (.tmp 0), none⟩]) (.seq (.region [⟨none, .load false 1 (.var 2), none⟩, ⟨none, .call (.fn 60) [.tmp 0, .cst (.int .i64 1), .cst (.int .i64 32)], none⟩, ⟨none, .mv (.tmp 1), none⟩, ⟨none, .mv (.var 1), some (.tmp 2, true)⟩, ⟨none, .lenSl (.tmp 3), some (.tmp 2, true)⟩, ⟨none, .bin .leq (.tmp 4) (.cst (.int .i64 200)), some (.tmp 2, true)⟩, ⟨none, .pick (.tmp 2) (.tmp 5) (.cst (.bool false)), none⟩, ⟨none, .mv (.tmp 6), none⟩, ⟨none, .mv (.var 1), some (.tmp 7, true)⟩, ⟨none, .mv (.var 4), some (.tmp 7, true)⟩, ⟨none, .call (.fn 81) [.tmp 8, .tmp 9], some (.tmp 7, true)⟩, ⟨none, .un .not (.tmp 10), some (.tmp 7, true)⟩, ⟨none, .pick (.tmp 7) (.tmp 11) (.cst (.bool false)), none⟩, ⟨some 3, .mv (.tmp 12), none⟩]) .ret)), [.tmp 3]⟩
set_option maxHeartbeats 4000000 in
theorem comp16 : compFun Try.prog Try.f74 2 [0, 1, 2, 4, 5] [] true ([], []) = some mf16 := by kernel_rfl
theorem at16 : Try.prog.funcs[74]? = some Try.f74 := by kernel_rfl
def lp17x0 : MC := .seq (.seq (.region [⟨none, .mv (.var 3), none⟩, ⟨none, .mv (.var 1), none⟩, ⟨none, .lenSl (.tmp 1), none⟩, ⟨some 5, .bin .lss (.tmp 0) (.tmp 2), none⟩]) (.cond (.var 5) .skip (.exit 0))) (.seq (.seq (.block 1 (.seq (.region [⟨none, .mv (.var 1), none⟩, ⟨none, .mv (.var 3), none⟩, ⟨none, .indexSl 4 (.tmp 0) (.tmp 1), none⟩, ⟨none, .fieldAddr 0 (.tmp 2), none⟩, ⟨none, .load false 1 (.tmp 3), none⟩, ⟨none, .mv (.var 0), none⟩, ⟨none, .bin .sub (.tmp 5) (.cst (.int .i64 1)), none⟩, ⟨none, .call (.fn 73) [.tmp 4, .cst (.int .i64 0), .tmp 6], none⟩, ⟨none, .un .not (.tmp 7), none⟩, ⟨none, .mv (.tmp 8), none⟩, ⟨none, .mv (.var 1), some (.tmp 9, false)⟩, ⟨none, .mv (.var 3), some (.tmp 9, false)⟩, ⟨none, .indexSl 4 (.tmp 10) (.tmp 11), some (.tmp 9, false)⟩, ⟨none, .fieldAddr 1 (.tmp 12), some (.tmp 9, false)⟩, ⟨none, .load false 1 (.tmp 13), some (.tmp 9, false)⟩, ⟨none, .mv (.var 0), some (.tmp 9, false)⟩, ⟨none, .bin .sub (.tmp 15) (.cst (.int .i64 1)), some (.tmp 9, false)⟩, ⟨none, .call (.fn 73) [.tmp 14, .cst (.int .i64 0), .tmp 16], some (.tmp 9, false)⟩, ⟨none, .un .not (.tmp 17), some (.tmp 9, false)⟩, ⟨none, .pick (.tmp 9) (.cst (.bool true)) (.tmp 18), none⟩, ⟨none, .mv (.tmp 19), none⟩, ⟨none, .mv (.var 1), some (.tmp 20, false)⟩, ⟨none, .mv (.var 3), some (.tmp 20, false)⟩, ⟨none, .indexSl 4 (.tmp 21) (.tmp 22), some (.tmp 20, false)⟩, ⟨none, .fieldAddr 2 (.tmp 23), some (.tmp 20, false)⟩, ⟨none, .load false 1 (.tmp 24), some (.tmp 20, false)⟩, ⟨none, .call (.fn 73) [.tmp 25, .cst (.int .i64 (-1000000)), .cst (.int .i64 1000000)], some (.tmp 20, false)⟩, ⟨none, .un .not (.tmp 26), some (.tmp 20, false)⟩, ⟨none, .pick (.tmp 20) (.cst (.bool true)) (.tmp 27), none⟩, ⟨none, .mv (.tmp 28), none⟩, ⟨none, .mv (.var 1), some (.tmp 29, false)⟩, ⟨none, .mv (.var 3), some (.tmp 29, false)⟩, ⟨none, .indexSl 4 (.tmp 30) (.tmp 31), some (.tmp 29, false)⟩, ⟨none, .fieldAddr 3 (.tmp 32), some (.tmp 29, false)⟩, ⟨none, .load false 1 (.tmp 33), some (.tmp 29, false)⟩, ⟨none, .call (.fn 73) [.tmp 34, .cst (.int .i64 (-2)), .cst (.int .i64 2)], some (.tmp 29, false)⟩, ⟨none, .un .not (.tmp 35), some (.tmp 29, false)⟩, ⟨some 6, .pick (.tmp 29) (.cst (.bool true)) (.tmp 36), none⟩]) (.cond (.var 6) (.seq (.region [⟨some 2, .mv (.cst (.bool false)), none⟩]) .ret) .skip))) (.kill [2, 4, 5, 6])) (.region [⟨none, .mv (.var 3), none⟩, ⟨none, .bin .add (.tmp 0) (.cst (.int .i64 1)), none⟩, ⟨some 3, .mv (.tmp 1), none⟩]))
def mf17 : MFun := ⟨2, 7, .seq (.region [⟨some 2, .mv (.cst (.bool false)), none⟩]) (.seq (.seq (.region [⟨none, .mv (.var 0), none⟩, ⟨none, .call (.fn 73) [.tmp 0, .cst (.int .i64 1), .cst (.int .i64 32)], none⟩, ⟨none, .un .not (.tmp 1), none⟩, ⟨none, .mv (.tmp 2), none⟩, ⟨none, .mv (.var 1), some (.tmp 3, false)⟩, ⟨none, .lenSl (.tmp 4), some (.tmp 3, false)⟩, ⟨none, .bin .gtr (.tmp 5) (.cst (.int .i64 200)), some (.tmp 3, false)⟩, ⟨some 4, .pick (.tmp 3) (.cst (.bool true)) (.tmp 6), none⟩]) (.cond (.var 4) (.seq (.region [⟨some 2, .mv (.cst (.bool false)), none⟩]) .ret) .skip)) (.seq (.seq (.region [⟨some 3, .mv (.cst (.int .i64 0)), none⟩]) (.seq (.block 0 (.loop [2, 4, 5, 6] lp17x0)) (.kill [0, 1, 2, 3, 4, 5, 6]))) (.seq (.region [⟨some 2, .mv (.cst (.bool true)), none⟩]) .ret))), [.tmp 2]⟩
def mask17x0 : List Nat := [2, 4, 5, 6]
abbrev st17x0 (v0 v1 v3 : AV) : List AV := [v0, v1, .undef, v3, .undef, .undef, .undef]
theorem cl17x0 {v0 v1 d2 v3 d4 d5 d6 : AV} : clear mask17x0 [v0, v1, d2, v3, d4, d5, d6] = st17x0 v0 v1 v3 := by simp only [mask17x0, clear, List.foldl_cons, List.foldl_nil, List.set_cons_zero, List.set_cons_succ]
theorem go17x0 {E : Env} {fuel : Nat} {A : Arena} {o : Out} {k : List KC} {v0 v1 d2 v3 d4 d5 d6 : AV} (h : iter (evC E fuel lp17x0) mask17x0 fuel (st17x0 v0 v1 v3) A = some o) :
    run E fuel (.code (.loop [2, 4, 5, 6] lp17x0) :: k) [v0, v1, d2, v3, d4, d5, d6] A = after E fuel k o := run_loopC mask17x0 _ _ (by rw [cl17x0]; exact h)
set_option maxHeartbeats 4000000 in
theorem comp17 : compFun Try.prog Try.f79 2 [0, 1, 4, 5, 13, 17, 57] [] true ([[2, 4, 5, 6]], [[2, 4, 5, 6], [0, 1, 2, 3, 4, 5, 6]]) = some mf17 := by kernel_rfl
theorem at17 : Try.prog.funcs[79]? = some Try.f79 := by kernel_rfl
def lp18x0 : MC := .seq (.seq (.region [⟨none, .mv (.var 3), none⟩, ⟨none, .mv (.var 0), none⟩, ⟨none, .lenSl (.tmp 1), none⟩, ⟨some 5, .bin .lss (.tmp 0) (.tmp 2), none⟩]) (.cond (.var 5) .skip (.exit 0))) (.seq (.seq (.block 1 (.seq (.region [⟨none, .mv (.var 0), none⟩, ⟨none, .mv (.var 3), none⟩, ⟨none, .indexSl 1 (.tmp 0) (.tmp 1), none⟩, ⟨none, .load false 1 (.tmp 2), none⟩, ⟨none, .mv (.var 1), none⟩, ⟨none, .mv (.var 3), none⟩, ⟨none, .indexSl 1 (.tmp 4) (.tmp 5), none⟩, ⟨none, .load false 1 (.tmp 6), none⟩, ⟨some 6, .bin .neq (.tmp 3) (.tmp 7), none⟩]) (.cond (.var 6) (.seq (.region [⟨some 2, .mv (.cst (.bool false)), none⟩]) .ret) .skip))) (.kill [2, 4, 5, 6])) (.region [⟨none, .mv (.var 3), none⟩, ⟨none, .bin .add (.tmp 0) (.cst (.int .i64 1)), none⟩, ⟨some 3, .mv (.tmp 1), none⟩]))
def mf18 : MFun := ⟨2, 7, .seq (.region [⟨some 2, .mv (.cst (.bool false)), none⟩]) (.seq (.seq (.region [⟨none, .mv (.var 0), none⟩, ⟨none, .lenSl (.tmp 0), none⟩, ⟨none, .mv (.var 1), none⟩, ⟨none, .lenSl (.tmp 2), none⟩, ⟨some 4, .bin .neq (.tmp 1) (.tmp 3), none⟩]) (.cond (.var 4) (.seq (.region [⟨some 2, .mv (.cst (.bool false)), none⟩]) .ret) .skip)) (.seq (.seq (.region [⟨some 3, .mv (.cst (.int .i64 0)), none⟩]) (.seq (.block 0 (.loop [2, 4, 5, 6] lp18x0)) (.kill [0, 1, 2, 3, 4, 5, 6]))) (.seq (.region [⟨some 2, .mv (.cst (.bool true)), none⟩]) .ret))), [.tmp 2]⟩
def mask18x0 : List Nat := [2, 4, 5, 6]
abbrev st18x0 (v0 v1 v3 : AV) : List AV := [v0, v1, .undef, v3, .undef, .undef, .undef]
theorem cl18x0 {v0 v1 d2 v3 d4 d5 d6 : AV} : clear mask18x0 [v0, v1, d2, v3, d4, d5, d6] = st18x0 v0 v1 v3 := by simp only [mask18x0, clear, List.foldl_cons, List.foldl_nil, List.set_cons_zero, List.set_cons_succ]
theorem go18x0 {E : Env} {fuel : Nat} {A : Arena} {o : Out} {k : List KC} {v0 v1 d2 v3 d4 d5 d6 : AV} (h : iter (evC E fuel lp18x0) mask18x0 fuel (st18x0 v0 v1 v3) A = some o) :
    run E fuel (.code (.loop [2, 4, 5, 6] lp18x0) :: k) [v0, v1, d2, v3, d4, d5, d6] A = after E fuel k o := run_loopC mask18x0 _ _ (by rw [cl18x0]; exact h)
set_option maxHeartbeats 4000000 in
theorem comp18 : compFun Try.prog Try.f18 2 [0, 1, 4, 5, 10, 14, 25] [] true ([[2, 4, 5, 6]], [[2, 4, 5, 6], [0, 1, 2, 3, 4, 5, 6]]) = some mf18 := by kernel_rfl
theorem at18 : Try.prog.funcs[18]? = some Try.f18 := by kernel_rfl
def mf19 : MFun := ⟨4, 8, .seq (.region [⟨some 4, .mv (.cst (.bool false)), none⟩]) (.seq (.region [⟨none, .mv (.var 0), none⟩, ⟨none, .mv (.var 1), none⟩, ⟨none, .mv (.var 2), none⟩, ⟨none, .call (.fn 55) [.tmp 0, .tmp 1, .tmp 2], none⟩, ⟨none, .mv (.tmp 3), none⟩, ⟨none, .extract (.tmp 4) 0, none⟩, ⟨none, .extract (.tmp 4) 1, none⟩, ⟨some 5, .mv (.tmp 5), none⟩, ⟨some 6, .mv (.tmp 6), none⟩]) (.seq (.region [⟨some 7, .mv (.fn 59), none⟩]) (.seq (.region [⟨none, .mv (.var 6), none⟩, ⟨none, .mv (.tmp 0), none⟩, ⟨none, .mv (.var 3), some (.tmp 1, true)⟩, ⟨none, .lenSl (.tmp 2), some (.tmp 1, true)⟩, ⟨none, .mv (.var 0), some (.tmp 1, true)⟩, ⟨none, .bin .eql (.tmp 3) (.tmp 4), some (.tmp 1, true)⟩, ⟨none, .pick (.tmp 1) (.tmp 5) (.cst (.bool false)), none⟩, ⟨none, .mv (.tmp 6), none⟩, ⟨none, .mv (.var 3), some (.tmp 7, true)⟩, ⟨none, .mv (.var 7), some (.tmp 7, true)⟩, ⟨none, .call (.fn 61) [.tmp 8, .tmp 9], some (.tmp 7, true)⟩, ⟨none, .un .not (.tmp 10), some (.tmp 7, true)⟩, ⟨none, .pick (.tmp 7) (.tmp 11) (.cst (.bool false)), none⟩, ⟨none, .mv (.tmp 12), none⟩, ⟨none, .mv (.var 5), some (.tmp 13, true)⟩, ⟨none, .mv (.var 3), some (.tmp 13, true)⟩, ⟨none, .call (.fn 63) [.tmp 15], some (.tmp 13, true)⟩, ⟨none, .call (.fn 62) [.tmp 14, .tmp 16], some (.tmp 13, true)⟩, ⟨none, .un .not (.tmp 17), some (.tmp 13, true)⟩, ⟨none, .pick (.tmp 13) (.tmp 18) (.cst (.bool false)), none⟩, ⟨some 4, .mv (.tmp 19), none⟩]) .ret))), [.tmp 4]⟩
set_option maxHeartbeats 4000000 in
theorem comp19 : compFun Try.prog Try.f32 4 [0, 1, 2, 3, 8, 9, 10, 11] [] true ([], []) = some mf19 := by kernel_rfl
theorem at19 : Try.prog.funcs[32]? = some Try.f32 := by kernel_rfl
def mf21 : MFun := ⟨4, 9, .seq (.region [⟨some 4, .mv (.cst (.bool false)), none⟩]) (.seq (.region [⟨none, .mv (.var 0), none⟩, ⟨none, .mv (.var 1), none⟩, ⟨none, .mv (.var 2), none⟩, ⟨none, .call (.fn 55) [.tmp 0, .tmp 1, .tmp 2], none⟩, ⟨none, .mv (.tmp 3), none⟩, ⟨none, .extract (.tmp 4) 0, none⟩, ⟨none, .extract (.tmp 4) 1, none⟩, ⟨some 5, .mv (.tmp 5), none⟩, ⟨some 6, .mv (.tmp 6), none⟩]) (.seq (.seq (.region [⟨none, .mv (.var 6), none⟩, ⟨some 8, .un .not (.tmp 0), none⟩]) (.cond (.var 8) (.seq (.region [⟨some 4, .mv (.cst (.bool false)), none⟩]) .ret) .skip)) (.seq (.region [⟨none, .mv (.var 5), none⟩, ⟨none, .mv (.var 3), none⟩, ⟨none, .call (.fn 57) [.tmp 0, .tmp 1], none⟩, ⟨none, .mv (.tmp 2), none⟩, ⟨none, .extract (.tmp 3) 0, none⟩, ⟨none, .extract (.tmp 3) 1, none⟩, ⟨none, .extract (.tmp 3) 2, none⟩, ⟨some 7, .mv (.tmp 4), none⟩, ⟨none, .mv (.tmp 5), none⟩, ⟨some 6, .mv (.tmp 6), none⟩]) (.seq (.region [⟨none, .mv (.var 6), none⟩, ⟨none, .mv (.tmp 0), none⟩, ⟨none, .mv (.var 7), some (.tmp 1, true)⟩, ⟨none, .bin .gtr (.tmp 2) (.cst (.int .i64 0)), some (.tmp 1, true)⟩, ⟨none, .pick (.tmp 1) (.tmp 3) (.cst (.bool false)), none⟩, ⟨some 4, .mv (.tmp 4), none⟩]) .ret)))), [.tmp 4]⟩
set_option maxHeartbeats 4000000 in
theorem comp21 : compFun Try.prog Try.f51 4 [0, 1, 2, 3, 8, 9, 10, 11, 21] [] true ([], []) = some mf21 := by kernel_rfl
theorem at21 : Try.prog.funcs[51]? = some Try.f51 := by kernel_rfl
def lp23x0 : MC := .seq (.seq (.region [⟨none, .mv (.var 6), none⟩, ⟨none, .mv (.var 3), none⟩, ⟨some 13, .bin .leq (.tmp 0) (.tmp 1), none⟩]) (.cond (.var 13) .skip (.exit 0))) (.seq (.block 1 (.seq (.region [⟨none, .mv (.var 0), none⟩, ⟨none, .mv (.var 1), none⟩, ⟨none, .mv (.var 6), none⟩, ⟨none, .call (.fn 55) [.tmp 0, .tmp 1, .tmp 2], none⟩, ⟨none, .mv (.tmp 3), none⟩, ⟨none, .extract (.tmp 4) 0, none⟩, ⟨none, .extract (.tmp 4) 1, none⟩, ⟨some 7, .mv (.tmp 5), none⟩, ⟨some 8, .mv (.tmp 6), none⟩]) (.seq (.seq (.region [⟨none, .mv (.var 8), none⟩, ⟨some 14, .un .not (.tmp 0), none⟩]) (.cond (.var 14) (.exit 0) .skip)) (.seq (.seq (.region [⟨none, .mv (.var 7), none⟩, ⟨none, .call (.fn 56) [.tmp 0], none⟩, ⟨none, .mv (.tmp 1), none⟩, ⟨none, .extract (.tmp 2) 0, none⟩, ⟨none, .extract (.tmp 2) 1, none⟩, ⟨none, .mv (.tmp 3), none⟩, ⟨some 9, .mv (.tmp 4), none⟩]) (.seq (.region [⟨some 15, .mv (.var 9), none⟩]) (.cond (.var 15) (.seq (.region [⟨none, .mv (.var 6), none⟩, ⟨some 4, .mv (.tmp 0), none⟩, ⟨some 5, .mv (.cst (.bool true)), none⟩]) .ret) .skip))) (.seq (.region [⟨none, .mv (.var 7), none⟩, ⟨none, .mv (.var 7), none⟩, ⟨none, .call (.fn 58) [.tmp 1], none⟩, ⟨none, .call (.fn 57) [.tmp 0, .tmp 2], none⟩, ⟨none, .mv (.tmp 3), none⟩, ⟨none, .extract (.tmp 4) 0, none⟩, ⟨none, .extract (.tmp 4) 1, none⟩, ⟨none, .extract (.tmp 4) 2, none⟩, ⟨some 10, .mv (.tmp 5), none⟩, ⟨some 11, .mv (.tmp 6), none⟩, ⟨none, .mv (.tmp 7), none⟩]) (.seq (.seq (.region [⟨none, .mv (.var 11), none⟩, ⟨some 16, .bin .leq (.tmp 0) (.cst (.int .i64 0)), none⟩]) (.cond (.var 16) (.exit 0) .skip)) (.region [⟨none, .mv (.var 6), none⟩, ⟨none, .mv (.var 10), none⟩, ⟨none, .mv (.var 11), none⟩, ⟨none, .bin .add (.tmp 1) (.tmp 2), none⟩, ⟨none, .bin .sub (.tmp 3) (.cst (.int .i64 1)), none⟩, ⟨none, .mv (.var 11), none⟩, ⟨none, .bin .quo (.tmp 4) (.tmp 5), none⟩, ⟨none, .bin .add (.tmp 0) (.tmp 6), none⟩, ⟨some 6, .mv (.tmp 7), none⟩]))))))) (.kill [2, 4, 5, 7, 8, 9, 10, 11, 12, 13, 14, 15, 16]))
def mf23 : MFun := ⟨4, 17, .seq (.region [⟨some 4, .mv (.cst (.int .i64 0)), none⟩, ⟨some 5, .mv (.cst (.bool false)), none⟩]) (.scope (.seq (.seq (.region [⟨none, .mv (.var 3), none⟩, ⟨none, .call (.fn 54) [.tmp 0], none⟩, ⟨some 12, .un .not (.tmp 1), none⟩]) (.cond (.var 12) (.seq (.region [⟨some 4, .mv (.cst (.int .i64 0)), none⟩, ⟨some 5, .mv (.cst (.bool false)), none⟩]) .ret) .skip)) (.seq (.region [⟨none, .mv (.var 2), none⟩, ⟨some 6, .mv (.tmp 0), none⟩]) (.seq .skip (.seq (.seq (.block 0 (.loop [2, 4, 5, 7, 8, 9, 10, 11, 12, 13, 14, 15, 16] lp23x0)) (.kill [0, 1, 2, 3, 4, 5, 6, 7, 8, 9, 10, 11, 12, 13, 14, 15, 16])) (.seq (.region [⟨some 4, .mv (.cst (.int .i64 0)), none⟩, ⟨some 5, .mv (.cst (.bool false)), none⟩]) .ret)))))), [.tmp 4, .tmp 5]⟩
def mask23x0 : List Nat := [2, 4, 5, 7, 8, 9, 10, 11, 12, 13, 14, 15, 16]
abbrev st23x0 (v0 v1 v3 v6 : AV) : List AV := [v0, v1, .undef, v3, .undef, .undef, v6, .undef, .undef, .undef, .undef, .undef, .undef, .undef, .undef, .undef, .undef]
theorem cl23x0 {v0 v1 d2 v3 d4 d5 v6 d7 d8 d9 d10 d11 d12 d13 d14 d15 d16 : AV} : clear mask23x0 [v0, v1, d2, v3, d4, d5, v6, d7, d8, d9, d10, d11, d12, d13, d14, d15, d16] = st23x0 v0 v1 v3 v6 := by simp only [mask23x0, clear, List.foldl_cons, List.foldl_nil, List.set_cons_zero, List.set_cons_succ]
theorem go23x0 {E : Env} {fuel : Nat} {A : Arena} {o : Out} {k : List KC} {v0 v1 d2 v3 d4 d5 v6 d7 d8 d9 d10 d11 d12 d13 d14 d15 d16 : AV} (h : iter (evC E fuel lp23x0) mask23x0 fuel (st23x0 v0 v1 v3 v6) A = some o) :
    run E fuel (.code (.loop [2, 4, 5, 7, 8, 9, 10, 11, 12, 13, 14, 15, 16] lp23x0) :: k) [v0, v1, d2, v3, d4, d5, v6, d7, d8, d9, d10, d11, d12, d13, d14, d15, d16] A = after E fuel k o := run_loopC mask23x0 _ _ (by rw [cl23x0]; exact h)
set_option maxHeartbeats 4000000 in
theorem comp23 : compFun Try.prog Try.f28 4 [0, 1, 2, 3, 8, 9, 10, 11, 12, 14, 15, 16, 20, 24, 33, 39, 50] [] true ([[2, 4, 5, 7, 8, 9, 10, 11, 12, 13, 14, 15, 16]], [[2, 4, 5, 7, 8, 9, 10, 11, 12, 13, 14, 15, 16], [0, 1, 2, 3, 4, 5, 6, 7, 8, 9, 10, 11, 12, 13, 14, 15, 16]]) = some mf23 := by kernel_rfl
theorem at23 : Try.prog.funcs[28]? = some Try.f28 := by kernel_rfl
def lp25x0 : MC := .seq (.region [⟨some 13, .bin .lss (.var 12) (.var 11), none⟩]) (.seq (.cond (.var 13) .skip (.exit 0)) (.seq (.seq (.block 1 (.seq (.region [⟨none, .mv (.var 12), none⟩, ⟨none, .indexSl 4 (.var 10) (.var 12), none⟩, ⟨none, .load true 4 (.tmp 1), none⟩, ⟨some 7, .alloc 4 (.agg [.int .i64 0, .int .i64 0, .int .i64 0, .int .i64 0]), none⟩, ⟨some 6, .mv (.tmp 0), none⟩, ⟨none, .store 4 (.var 7) (.tmp 2), none⟩]) (.seq (.region [⟨none, .load true 4 (.var 7), none⟩, ⟨none, .mv (.var 6), none⟩, ⟨none, .fieldAddr 2 (.var 7), none⟩, ⟨none, .load false 1 (.tmp 2), none⟩, ⟨none, .mv (.var 2), none⟩, ⟨none, .fieldAddr 3 (.var 7), none⟩, ⟨none, .load false 1 (.tmp 5), none⟩, ⟨none, .bin .mul (.tmp 4) (.tmp 6), none⟩, ⟨none, .bin .sub (.tmp 3) (.tmp 7), none⟩, ⟨none, .build [.int .i64 0, .int .i64 0, .int .i64 0, .int .i64 0, .int .i64 0, .int .i64 0] [(0, (4, .tmp 0)), (4, (1, .tmp 1)), (5, (1, .tmp 8))], none⟩, ⟨some 8, .alloc 6 (.agg [.int .i64 0, .int .i64 0, .int .i64 0, .int .i64 0, .int .i64 0, .int .i64 0]), none⟩, ⟨none, .store 6 (.var 8) (.tmp 9), none⟩]) (.seq (.region [⟨none, .mv (.var 5), none⟩, ⟨none, .mv (.var 5), none⟩, ⟨none, .nilCheck (.tmp 1), none⟩, ⟨none, .fieldAddr 1 (.tmp 2), none⟩, ⟨none, .load false 1 (.tmp 3), none⟩, ⟨none, .load true 6 (.var 8), none⟩, ⟨none, .buildF 6 [.tmp 5], none⟩, ⟨none, .append 6 48 (.tmp 4) (.tmp 6), none⟩, ⟨none, .nilCheck (.tmp 0), none⟩, ⟨none, .fieldAddr 1 (.tmp 8), none⟩, ⟨none, .store 1 (.tmp 9) (.tmp 7), none⟩]) (.regionD [] [⟨none, .mv (.var 5), none⟩, ⟨none, .nilCheck (.tmp 0), none⟩, ⟨none, .fieldAddr 2 (.tmp 1), none⟩, ⟨none, .load false 1 (.tmp 2), none⟩, ⟨none, .fieldAddr 0 (.var 7), none⟩, ⟨none, .load false 1 (.tmp 4), none⟩, ⟨none, .mv (.var 5), none⟩, ⟨none, .nilCheck (.tmp 6), none⟩, ⟨none, .fieldAddr 2 (.tmp 7), none⟩, ⟨none, .load false 1 (.tmp 8), none⟩, ⟨none, .fieldAddr 0 (.var 7), none⟩, ⟨none, .load false 1 (.tmp 10), none⟩, ⟨none, .indexSl 1 (.tmp 9) (.tmp 11), none⟩, ⟨none, .load false 1 (.tmp 12), none⟩, ⟨none, .load true 6 (.var 8), none⟩, ⟨none, .buildF 6 [.tmp 14], none⟩, ⟨none, .append 6 48 (.tmp 13) (.tmp 15), none⟩, ⟨none, .indexSl 1 (.tmp 3) (.tmp 5), none⟩, ⟨none, .store 1 (.tmp 17) (.tmp 16), none⟩] [(2, 16), (3, 16), (4, 16), (5, 16)]))))) (.kill [0, 1, 3, 4, 6, 7, 8, 9, 13])) (.region [⟨none, .bin .add (.var 12) (.cst (.int .i64 1)), none⟩, ⟨some 12, .mv (.tmp 0), none⟩])))
def mf25 : MFun := ⟨3, 14, .seq (.region [⟨some 3, .mv (.cst .nilP), none⟩, ⟨some 4, .mv (.cst (.bool false)), none⟩]) (.seq (.seq (.region [⟨none, .mv (.var 0), none⟩, ⟨none, .mv (.var 1), none⟩, ⟨none, .call (.fn 74) [.tmp 0, .tmp 1], none⟩, ⟨none, .un .not (.tmp 2), none⟩, ⟨none, .mv (.tmp 3), none⟩, ⟨none, .mv (.var 2), some (.tmp 4, false)⟩, ⟨none, .call (.fn 54) [.tmp 5], some (.tmp 4, false)⟩, ⟨none, .un .not (.tmp 6), some (.tmp 4, false)⟩, ⟨some 9, .pick (.tmp 4) (.cst (.bool true)) (.tmp 7), none⟩]) (.cond (.var 9) (.seq (.region [⟨some 3, .mv (.cst .nilP), none⟩, ⟨some 4, .mv (.cst (.bool false)), none⟩]) .ret) .skip)) (.seq (.region [⟨none, .mv (.var 0), none⟩, ⟨none, .mv (.var 0), none⟩, ⟨none, .makeSlice 1 24 .nilS (.tmp 1) (.tmp 1), none⟩, ⟨none, .build [.int .i64 0, .nilS, .nilS] [(0, (1, .tmp 0)), (2, (1, .tmp 2))], none⟩, ⟨none, .box (.tmp 3), none⟩, ⟨some 5, .mv (.tmp 4), none⟩]) (.seq (.seq (.region [⟨some 10, .mv (.var 1), none⟩, ⟨some 11, .lenSl (.var 10), none⟩, ⟨some 12, .mv (.cst (.int .i64 0)), none⟩]) (.seq (.block 0 (.loop [0, 1, 3, 4, 6, 7, 8, 9, 13] lp25x0)) (.kill [0, 1, 2, 3, 4, 6, 7, 8, 9, 10, 11, 12, 13]))) (.seq (.region [⟨none, .mv (.var 5), none⟩, ⟨some 3, .mv (.tmp 0), none⟩, ⟨some 4, .mv (.cst (.bool true)), none⟩]) .ret)))), [.tmp 3, .tmp 4]⟩
def mask25x0 : List Nat := [0, 1, 3, 4, 6, 7, 8, 9, 13]
abbrev st25x0 (v2 v5 v10 v11 v12 : AV) : List AV := [.undef, .undef, v2, .undef, .undef, v5, .undef, .undef, .undef, .undef, v10, v11, v12, .undef]
theorem cl25x0 {d0 d1 v2 d3 d4 v5 d6 d7 d8 d9 v10 v11 v12 d13 : AV} : clear mask25x0 [d0, d1, v2, d3, d4, v5, d6, d7, d8, d9, v10, v11, v12, d13] = st25x0 v2 v5 v10 v11 v12 := by simp only [mask25x0, clear, List.foldl_cons, List.foldl_nil, List.set_cons_zero, List.set_cons_succ]
theorem go25x0 {E : Env} {fuel : Nat} {A : Arena} {o : Out} {k : List KC} {d0 d1 v2 d3 d4 v5 d6 d7 d8 d9 v10 v11 v12 d13 : AV} (h : iter (evC E fuel lp25x0) mask25x0 fuel (st25x0 v2 v5 v10 v11 v12) A = some o) :
    run E fuel (.code (.loop [0, 1, 3, 4, 6, 7, 8, 9, 13] lp25x0) :: k) [d0, d1, v2, d3, d4, v5, d6, d7, d8, d9, v10, v11, v12, d13] A = after E fuel k o := run_loopC mask25x0 _ _ (by rw [cl25x0]; exact h)
set_option maxHeartbeats 4000000 in
theorem comp25 : compFun Try.prog Try.f55 3 [0, 1, 2, 6, 7, 8, 9, 10, 11, 20, 26, 27, 28, 29] [] true ([[0, 1, 3, 4, 6, 7, 8, 9, 13]], [[0, 1, 3, 4, 6, 7, 8, 9, 13], [0, 1, 2, 3, 4, 6, 7, 8, 9, 10, 11, 12, 13]]) = some mf25 := by kernel_rfl
theorem at25 : Try.prog.funcs[55]? = some Try.f55 := by kernel_rfl
def lp26x0 : MC := .seq (.region [⟨some 6, .bin .lss (.var 5) (.var 4), none⟩]) (.seq (.cond (.var 6) .skip (.exit 0)) (.seq (.seq (.block 1 (.seq (.region [⟨none, .mv (.var 0), none⟩, ⟨none, .mv (.var 3), none⟩, ⟨none, .call (.fn 62) [.tmp 0, .tmp 1], none⟩, ⟨some 7, .un .not (.tmp 2), none⟩]) (.cond (.var 7) (.seq (.region [⟨none, .mv (.var 3), none⟩, ⟨some 1, .mv (.tmp 0), none⟩, ⟨some 2, .mv (.cst (.bool true)), none⟩]) .ret) .skip))) (.kill [1, 2, 6, 7])) (.region [⟨none, .bin .add (.var 5) (.cst (.int .i64 1)), none⟩, ⟨some 5, .mv (.tmp 0), none⟩])))
def mf26 : MFun := ⟨1, 8, .seq (.region [⟨some 1, .mv (.cst .nilS), none⟩, ⟨some 2, .mv (.cst (.bool false)), none⟩]) (.seq (.region [⟨none, .mv (.var 0), none⟩, ⟨none, .nilCheck (.tmp 0), none⟩, ⟨none, .fieldAddr 0 (.tmp 1), none⟩, ⟨none, .load false 1 (.tmp 2), none⟩, ⟨none, .makeSlice 1 8 (.int .i64 0) (.tmp 3) (.tmp 3), none⟩, ⟨some 3, .mv (.tmp 4), none⟩]) (.seq (.seq (.region [⟨none, .mv (.var 0), none⟩, ⟨none, .nilCheck (.tmp 0), none⟩, ⟨none, .fieldAddr 0 (.tmp 1), none⟩, ⟨some 4, .load false 1 (.tmp 2), none⟩, ⟨some 5, .mv (.cst (.int .i64 0)), none⟩]) (.seq (.block 0 (.loop [1, 2, 6, 7] lp26x0)) (.kill [1, 2, 4, 5, 6, 7]))) (.seq (.region [⟨none, .mv (.var 3), none⟩, ⟨none, .mv (.var 0), none⟩, ⟨none, .mv (.var 3), none⟩, ⟨none, .call (.fn 63) [.tmp 2], none⟩, ⟨none, .call (.fn 62) [.tmp 1, .tmp 3], none⟩, ⟨none, .un .not (.tmp 4), none⟩, ⟨some 1, .mv (.tmp 0), none⟩, ⟨some 2, .mv (.tmp 5), none⟩]) .ret))), [.tmp 1, .tmp 2]⟩
def mask26x0 : List Nat := [1, 2, 6, 7]
abbrev st26x0 (v0 v3 v4 v5 : AV) : List AV := [v0, .undef, .undef, v3, v4, v5, .undef, .undef]
theorem cl26x0 {v0 d1 d2 v3 v4 v5 d6 d7 : AV} : clear mask26x0 [v0, d1, d2, v3, v4, v5, d6, d7] = st26x0 v0 v3 v4 v5 := by simp only [mask26x0, clear, List.foldl_cons, List.foldl_nil, List.set_cons_zero, List.set_cons_succ]
theorem go26x0 {E : Env} {fuel : Nat} {A : Arena} {o : Out} {k : List KC} {v0 d1 d2 v3 v4 v5 d6 d7 : AV} (h : iter (evC E fuel lp26x0) mask26x0 fuel (st26x0 v0 v3 v4 v5) A = some o) :
    run E fuel (.code (.loop [1, 2, 6, 7] lp26x0) :: k) [v0, d1, d2, v3, v4, v5, d6, d7] A = after E fuel k o := run_loopC mask26x0 _ _ (by rw [cl26x0]; exact h)
set_option maxHeartbeats 4000000 in
theorem comp26 : compFun Try.prog Try.f56 1 [0, 2, 3, 4, 13, 14, 15, 19] [] true ([[1, 2, 6, 7]], [[1, 2, 6, 7], [1, 2, 4, 5, 6, 7]]) = some mf26 := by kernel_rfl
theorem at26 : Try.prog.funcs[56]? = some Try.f56 := by kernel_rfl
def lp27x0 : MC := .seq (.region [⟨some 4, .alloc 6 (.agg [.int .i64 0, .int .i64 0, .int .i64 0, .int .i64 0, .int .i64 0, .int .i64 0]), none⟩, ⟨none, .store 6 (.var 4) (.var 10), none⟩]) (.region [⟨some 5, .mv (.var 11), none⟩])
def lp27x1 : MC := .seq (.block 3 (.seq (.region [⟨none, .load false 1 (.var 1), none⟩, ⟨none, .load true 6 (.var 4), none⟩, ⟨none, .mv (.var 5), none⟩, ⟨none, .load false 1 (.var 3), none⟩, ⟨none, .call (.fn 77) [.tmp 0, .tmp 1, .tmp 2, .tmp 3], none⟩, ⟨none, .mv (.tmp 4), none⟩, ⟨none, .extract (.tmp 5) 0, none⟩, ⟨none, .extract (.tmp 5) 1, none⟩, ⟨some 6, .mv (.tmp 6), none⟩, ⟨some 7, .mv (.tmp 7), none⟩]) (.seq (.region [⟨some 12, .mv (.var 7), none⟩]) (.cond (.var 12) (.seq (.region [⟨none, .mv (.var 6), none⟩, ⟨none, .store 1 (.var 2) (.tmp 0), none⟩]) .ret) .skip)))) (.kill [0, 1, 2, 3, 4, 5, 6, 7, 8, 9, 10, 11, 12, 13])
def lp27x2 : MC := .seq (.seq (.region [⟨none, .load false 1 (.var 3), none⟩, ⟨none, .load false 1 (.var 1), none⟩, ⟨none, .nilCheck (.tmp 1), none⟩, ⟨none, .fieldAddr 0 (.tmp 2), none⟩, ⟨none, .load false 1 (.tmp 3), none⟩, ⟨some 8, .bin .leq (.tmp 0) (.tmp 4), none⟩]) (.cond (.var 8) .skip (.exit 0))) (.seq (.seq (.block 1 (.seq (.region [⟨none, .load false 1 (.var 1), none⟩, ⟨none, .load false 1 (.var 3), none⟩, ⟨some 9, .call (.fn 76) [.tmp 0, .tmp 1], none⟩]) (.seq (.block 2 (.rangeFunc (.var 9) [10, 11] lp27x0 lp27x1)) (.kill [0, 4, 5, 6, 7, 8, 9, 10, 11, 12, 13])))) (.kill [0, 4, 5, 6, 7, 8, 9, 10, 11, 12, 13])) (.seq (.seq (.region [⟨some 13, .load false 1 (.var 3), none⟩]) (.region [⟨some 3, .alloc 1 (.int .i64 0), none⟩, ⟨none, .store 1 (.var 3) (.var 13), none⟩])) (.region [⟨none, .load false 1 (.var 3), none⟩, ⟨none, .bin .add (.tmp 0) (.cst (.int .i64 1)), none⟩, ⟨none, .store 1 (.var 3) (.tmp 1), none⟩])))
def mf27 : MFun := ⟨1, 14, .seq (.region [⟨some 1, .box (.var 0), none⟩, ⟨some 2, .alloc 1 .nilS, none⟩]) (.seq (.seq (.region [⟨some 3, .alloc 1 (.int .i64 0), none⟩, ⟨none, .store 1 (.var 3) (.cst (.int .i64 1)), none⟩]) (.seq (.block 0 (.loop [0, 4, 5, 6, 7, 8, 9, 10, 11, 12, 13] lp27x2)) (.kill [0, 1, 3, 4, 5, 6, 7, 8, 9, 10, 11, 12, 13]))) (.seq (.region [⟨none, .store 1 (.var 2) (.cst .nilS), none⟩]) .ret)), [.cell 2 false 1]⟩
def mask27x2 : List Nat := [0, 4, 5, 6, 7, 8, 9, 10, 11, 12, 13]
abbrev st27x2 (v1 v2 v3 : AV) : List AV := [.undef, v1, v2, v3, .undef, .undef, .undef, .undef, .undef, .undef, .undef, .undef, .undef, .undef]
theorem cl27x2 {d0 v1 v2 v3 d4 d5 d6 d7 d8 d9 d10 d11 d12 d13 : AV} : clear mask27x2 [d0, v1, v2, v3, d4, d5, d6, d7, d8, d9, d10, d11, d12, d13] = st27x2 v1 v2 v3 := by simp only [mask27x2, clear, List.foldl_cons, List.foldl_nil, List.set_cons_zero, List.set_cons_succ]
theorem go27x2 {E : Env} {fuel : Nat} {A : Arena} {o : Out} {k : List KC} {d0 v1 v2 v3 d4 d5 d6 d7 d8 d9 d10 d11 d12 d13 : AV} (h : iter (evC E fuel lp27x2) mask27x2 fuel (st27x2 v1 v2 v3) A = some o) :
    run E fuel (.code (.loop [0, 4, 5, 6, 7, 8, 9, 10, 11, 12, 13] lp27x2) :: k) [d0, v1, v2, v3, d4, d5, d6, d7, d8, d9, d10, d11, d12, d13] A = after E fuel k o := run_loopC mask27x2 _ _ (by rw [cl27x2]; exact h)
set_option maxHeartbeats 4000000 in
theorem comp27 : compFun Try.prog Try.f58 1 [0, 1, 2, 3, 4, 5, 6, 7, 13, 18, 19, 20, 29, 31] [] true ([[0, 4, 5, 6, 7, 8, 9, 10, 11, 12, 13]], [[0, 1, 2, 3, 4, 5, 6, 7, 8, 9, 10, 11, 12, 13], [0, 4, 5, 6, 7, 8, 9, 10, 11, 12, 13], [0, 4, 5, 6, 7, 8, 9, 10, 11, 12, 13], [0, 1, 3, 4, 5, 6, 7, 8, 9, 10, 11, 12, 13]]) = some mf27 := by kernel_rfl
theorem at27 : Try.prog.funcs[58]? = some Try.f58 := by kernel_rfl
def mf28 : MFun := ⟨3, 5, .seq (.region [⟨some 3, .mv (.cst (.bool false)), none⟩]) (.seq (.region [⟨none, .mv (.var 0), none⟩, ⟨none, .mv (.var 1), none⟩, ⟨none, .call (.fn 79) [.tmp 0, .tmp 1], none⟩, ⟨some 4, .mv (.tmp 2), none⟩]) (.seq (.region [⟨none, .mv (.var 4), none⟩, ⟨none, .mv (.tmp 0), none⟩, ⟨none, .mv (.var 2), some (.tmp 1, true)⟩, ⟨none, .call (.fn 73) [.tmp 2, .cst (.int .i64 (-1000000)), .cst (.int .i64 1000000)], some (.tmp 1, true)⟩, ⟨none, .pick (.tmp 1) (.tmp 3) (.cst (.bool false)), none⟩, ⟨some 3, .mv (.tmp 4), none⟩]) .ret)), [.tmp 3]⟩
set_option maxHeartbeats 4000000 in
theorem comp28 : compFun Try.prog Try.f69 3 [0, 1, 2, 6, 7] [] true ([], []) = some mf28 := by kernel_rfl
theorem at28 : Try.prog.funcs[69]? = some Try.f69 := by kernel_rfl
def mf31 : MFun := ⟨2, 4, .seq (.region [⟨some 2, .box (.var 0), none⟩, ⟨some 3, .mv (.cst (.bool false)), none⟩]) (.seq (.region [⟨none, .fieldAddr 0 (.var 2), none⟩, ⟨none, .load false 1 (.tmp 0), none⟩, ⟨none, .load false 1 (.var 1), none⟩, ⟨none, .bin .sub (.tmp 2) (.cst (.int .i64 1)), none⟩, ⟨none, .call (.fn 60) [.tmp 1, .cst (.int .i64 0), .tmp 3], none⟩, ⟨none, .un .not (.tmp 4), none⟩, ⟨none, .mv (.tmp 5), none⟩, ⟨none, .fieldAddr 1 (.var 2), some (.tmp 6, false)⟩, ⟨none, .load false 1 (.tmp 7), some (.tmp 6, false)⟩, ⟨none, .load false 1 (.var 1), some (.tmp 6, false)⟩, ⟨none, .bin .sub (.tmp 9) (.cst (.int .i64 1)), some (.tmp 6, false)⟩, ⟨none, .call (.fn 60) [.tmp 8, .cst (.int .i64 0), .tmp 10], some (.tmp 6, false)⟩, ⟨none, .un .not (.tmp 11), some (.tmp 6, false)⟩, ⟨none, .pick (.tmp 6) (.cst (.bool true)) (.tmp 12), none⟩, ⟨none, .mv (.tmp 13), none⟩, ⟨none, .fieldAddr 2 (.var 2), some (.tmp 14, false)⟩, ⟨none, .load false 1 (.tmp 15), some (.tmp 14, false)⟩, ⟨none, .call (.fn 60) [.tmp 16, .cst (.int .i64 (-1000000)), .cst (.int .i64 1000000)], some (.tmp 14, false)⟩, ⟨none, .un .not (.tmp 17), some (.tmp 14, false)⟩, ⟨none, .pick (.tmp 14) (.cst (.bool true)) (.tmp 18), none⟩, ⟨none, .mv (.tmp 19), none⟩, ⟨none, .fieldAddr 3 (.var 2), some (.tmp 20, false)⟩, ⟨none, .load false 1 (.tmp 21), some (.tmp 20, false)⟩, ⟨none, .call (.fn 60) [.tmp 22, .cst (.int .i64 (-2)), .cst (.int .i64 2)], some (.tmp 20, false)⟩, ⟨none, .un .not (.tmp 23), some (.tmp 20, false)⟩, ⟨none, .pick (.tmp 20) (.cst (.bool true)) (.tmp 24), none⟩, ⟨some 3, .mv (.tmp 25), none⟩]) .ret), [.tmp 3]⟩
set_option maxHeartbeats 4000000 in
theorem comp31 : compFun Try.prog Try.f80 2 [0, 1, 2, 3] [] true ([], []) = some mf31 := by kernel_rfl
theorem at31 : Try.prog.funcs[80]? = some Try.f80 := by kernel_rfl
def mf32 : MFun := ⟨3, 4, .seq (.region [⟨some 3, .mv (.cst (.bool false)), none⟩]) (.seq (.region [⟨none, .mv (.var 0), none⟩, ⟨none, .mv (.var 1), none⟩, ⟨none, .bin .geq (.tmp 0) (.tmp 1), none⟩, ⟨none, .mv (.tmp 2), none⟩, ⟨none, .mv (.var 0), some (.tmp 3, true)⟩, ⟨none, .mv (.var 2), some (.tmp 3, true)⟩, ⟨none, .bin .leq (.tmp 4) (.tmp 5), some (.tmp 3, true)⟩, ⟨none, .pick (.tmp 3) (.tmp 6) (.cst (.bool false)), none⟩, ⟨some 3, .mv (.tmp 7), none⟩]) .ret), [.tmp 3]⟩
set_option maxHeartbeats 4000000 in
theorem comp32 : compFun Try.prog Try.f60 3 [0, 1, 2, 6] [] true ([], []) = some mf32 := by kernel_rfl
theorem at32 : Try.prog.funcs[60]? = some Try.f60 := by kernel_rfl
def mf33 : MFun := ⟨2, 3, .seq (.region [⟨some 2, .mv (.cst (.bool false)), none⟩]) (.seq (.region [⟨none, .mv (.var 0), none⟩, ⟨none, .mv (.var 1), none⟩, ⟨none, .call (.fn 87) [.tmp 0, .tmp 1], none⟩, ⟨none, .bin .geq (.tmp 2) (.cst (.int .i64 0)), none⟩, ⟨some 2, .mv (.tmp 3), none⟩]) .ret), [.tmp 2]⟩
set_option maxHeartbeats 4000000 in
theorem comp33 : compFun Try.prog Try.f81 2 [0, 1, 4] [] true ([], []) = some mf33 := by kernel_rfl
theorem at33 : Try.prog.funcs[81]? = some Try.f81 := by kernel_rfl
def mf34 : MFun := ⟨3, 4, .seq (.region [⟨some 3, .mv (.cst (.bool false)), none⟩]) (.seq (.region [⟨none, .mv (.var 0), none⟩, ⟨none, .mv (.var 1), none⟩, ⟨none, .bin .geq (.tmp 0) (.tmp 1), none⟩, ⟨none, .mv (.tmp 2), none⟩, ⟨none, .mv (.var 0), some (.tmp 3, true)⟩, ⟨none, .mv (.var 2), some (.tmp 3, true)⟩, ⟨none, .bin .leq (.tmp 4) (.tmp 5), some (.tmp 3, true)⟩, ⟨none, .pick (.tmp 3) (.tmp 6) (.cst (.bool false)), none⟩, ⟨some 3, .mv (.tmp 7), none⟩]) .ret), [.tmp 3]⟩
set_option maxHeartbeats 4000000 in
theorem comp34 : compFun Try.prog Try.f73 3 [0, 1, 2, 6] [] true ([], []) = some mf34 := by kernel_rfl
theorem at34 : Try.prog.funcs[73]? = some Try.f73 := by kernel_rfl
def mf35 : MFun := ⟨1, 2, .seq (.region [⟨some 1, .mv (.cst (.bool false)), none⟩]) (.seq (.region [⟨none, .mv (.var 0), none⟩, ⟨none, .call (.fn 60) [.tmp 0, .cst (.int .i64 0), .cst (.int .i64 1000000000)], none⟩, ⟨none, .un .not (.tmp 1), none⟩, ⟨some 1, .mv (.tmp 2), none⟩]) .ret), [.tmp 1]⟩
set_option maxHeartbeats 4000000 in
theorem comp35 : compFun Try.prog Try.f59 1 [0, 2] [] true ([], []) = some mf35 := by kernel_rfl
theorem at35 : Try.prog.funcs[59]? = some Try.f59 := by kernel_rfl
def mf36 : MFun := ⟨2, 3, .seq (.region [⟨some 2, .mv (.cst (.bool false)), none⟩]) (.seq (.region [⟨none, .mv (.var 0), none⟩, ⟨none, .mv (.var 1), none⟩, ⟨none, .call (.fn 78) [.tmp 0, .tmp 1], none⟩, ⟨none, .bin .geq (.tmp 2) (.cst (.int .i64 0)), none⟩, ⟨some 2, .mv (.tmp 3), none⟩]) .ret), [.tmp 2]⟩
set_option maxHeartbeats 4000000 in
theorem comp36 : compFun Try.prog Try.f61 2 [0, 1, 4] [] true ([], []) = some mf36 := by kernel_rfl
theorem at36 : Try.prog.funcs[61]? = some Try.f61 := by kernel_rfl
def lp37x0 : MC := .seq (.region [⟨some 8, .bin .lss (.var 7) (.var 6), none⟩]) (.seq (.cond (.var 8) .skip (.exit 0)) (.seq (.seq (.block 1 (.seq (.region [⟨none, .indexSl 6 (.var 5) (.var 7), none⟩, ⟨none, .load true 6 (.tmp 0), none⟩, ⟨some 3, .alloc 6 (.agg [.int .i64 0, .int .i64 0, .int .i64 0, .int .i64 0, .int .i64 0, .int .i64 0]), none⟩, ⟨none, .store 6 (.var 3) (.tmp 1), none⟩]) (.seq (.region [⟨none, .mv (.var 1), none⟩, ⟨none, .fieldAddr 0 (.var 3), none⟩, ⟨none, .fieldAddr 0 (.tmp 1), none⟩, ⟨none, .load false 1 (.tmp 2), none⟩, ⟨none, .indexSl 1 (.tmp 0) (.tmp 3), none⟩, ⟨none, .load false 1 (.tmp 4), none⟩, ⟨none, .fieldAddr 5 (.var 3), none⟩, ⟨none, .load false 1 (.tmp 6), none⟩, ⟨none, .bin .add (.tmp 5) (.tmp 7), none⟩, ⟨some 4, .mv (.tmp 8), none⟩]) (.seq (.region [⟨none, .mv (.var 4), none⟩, ⟨none, .mv (.var 1), none⟩, ⟨none, .fieldAddr 0 (.var 3), none⟩, ⟨none, .fieldAddr 1 (.tmp 2), none⟩, ⟨none, .load false 1 (.tmp 3), none⟩, ⟨none, .indexSl 1 (.tmp 1) (.tmp 4), none⟩, ⟨none, .load false 1 (.tmp 5), none⟩, ⟨some 9, .bin .gtr (.tmp 0) (.tmp 6), none⟩]) (.cond (.var 9) (.region [⟨none, .mv (.var 1), none⟩, ⟨none, .fieldAddr 0 (.var 3), none⟩, ⟨none, .fieldAddr 1 (.tmp 1), none⟩, ⟨none, .load false 1 (.tmp 2), none⟩, ⟨none, .mv (.var 4), none⟩, ⟨none, .indexSl 1 (.tmp 0) (.tmp 3), none⟩, ⟨none, .store 1 (.tmp 5) (.tmp 4), none⟩, ⟨some 2, .mv (.cst (.bool true)), none⟩]) .skip))))) (.kill [0, 3, 4, 8, 9])) (.region [⟨none, .bin .add (.var 7) (.cst (.int .i64 1)), none⟩, ⟨some 7, .mv (.tmp 0), none⟩])))
def mf37 : MFun := ⟨2, 10, .seq (.region [⟨some 2, .mv (.cst (.bool false)), none⟩]) (.seq (.seq (.region [⟨none, .mv (.var 0), none⟩, ⟨none, .nilCheck (.tmp 0), none⟩, ⟨none, .fieldAddr 1 (.tmp 1), none⟩, ⟨some 5, .load false 1 (.tmp 2), none⟩, ⟨some 6, .lenSl (.var 5), none⟩, ⟨some 7, .mv (.cst (.int .i64 0)), none⟩]) (.seq (.block 0 (.loop [0, 3, 4, 8, 9] lp37x0)) (.kill [0, 1, 3, 4, 5, 6, 7, 8, 9]))) (.seq (.region [⟨none, .mv (.var 2), none⟩, ⟨some 2, .mv (.tmp 0), none⟩]) .ret)), [.tmp 2]⟩
def mask37x0 : List Nat := [0, 3, 4, 8, 9]
abbrev st37x0 (v1 v2 v5 v6 v7 : AV) : List AV := [.undef, v1, v2, .undef, .undef, v5, v6, v7, .undef, .undef]
theorem cl37x0 {d0 v1 v2 d3 d4 v5 v6 v7 d8 d9 : AV} : clear mask37x0 [d0, v1, v2, d3, d4, v5, v6, v7, d8, d9] = st37x0 v1 v2 v5 v6 v7 := by simp only [mask37x0, clear, List.foldl_cons, List.foldl_nil, List.set_cons_zero, List.set_cons_succ]
theorem go37x0 {E : Env} {fuel : Nat} {A : Arena} {o : Out} {k : List KC} {d0 v1 v2 d3 d4 v5 v6 v7 d8 d9 : AV} (h : iter (evC E fuel lp37x0) mask37x0 fuel (st37x0 v1 v2 v5 v6 v7) A = some o) :
    run E fuel (.code (.loop [0, 3, 4, 8, 9] lp37x0) :: k) [d0, v1, v2, d3, d4, v5, v6, v7, d8, d9] A = after E fuel k o := run_loopC mask37x0 _ _ (by rw [cl37x0]; exact h)
set_option maxHeartbeats 4000000 in
theorem comp37 : compFun Try.prog Try.f62 2 [0, 1, 4, 6, 7, 11, 12, 13, 14, 33] [] true ([[0, 3, 4, 8, 9]], [[0, 3, 4, 8, 9], [0, 1, 3, 4, 5, 6, 7, 8, 9]]) = some mf37 := by kernel_rfl
theorem at37 : Try.prog.funcs[62]? = some Try.f62 := by kernel_rfl
def mf38 : MFun := ⟨1, 3, .seq (.region [⟨some 1, .mv (.cst .nilS), none⟩]) (.seq (.seq (.region [⟨none, .mv (.var 0), none⟩, ⟨some 2, .eqNil 1 false (.tmp 0), none⟩]) (.cond (.var 2) (.seq (.region [⟨some 1, .mv (.cst .nilS), none⟩]) .ret) .skip)) (.seq (.region [⟨none, .buildSlice 1 [], none⟩, ⟨none, .mv (.var 0), none⟩, ⟨none, .append 1 8 (.tmp 0) (.tmp 1), none⟩, ⟨some 1, .mv (.tmp 2), none⟩]) .ret)), [.tmp 1]⟩
set_option maxHeartbeats 4000000 in
theorem comp38 : compFun Try.prog Try.f63 1 [0, 2, 4] [] true ([], []) = some mf38 := by kernel_rfl
theorem at38 : Try.prog.funcs[63]? = some Try.f63 := by kernel_rfl
def mf39 : MFun := ⟨2, 4, .seq (.region [⟨some 2, .box (.var 0), none⟩, ⟨some 3, .mv (.cst (.int .i64 0)), none⟩]) (.seq (.region [⟨none, .fieldAddr 2 (.var 2), none⟩, ⟨none, .load false 1 (.tmp 0), none⟩, ⟨none, .mv (.var 1), none⟩, ⟨none, .fieldAddr 3 (.var 2), none⟩, ⟨none, .load false 1 (.tmp 3), none⟩, ⟨none, .bin .mul (.tmp 2) (.tmp 4), none⟩, ⟨none, .bin .sub (.tmp 1) (.tmp 5), none⟩, ⟨some 3, .mv (.tmp 6), none⟩]) .ret), [.tmp 3]⟩
set_option maxHeartbeats 4000000 in
theorem comp39 : compFun Try.prog Try.f70 2 [0, 1, 2, 4] [] true ([], []) = some mf39 := by kernel_rfl
theorem at39 : Try.prog.funcs[70]? = some Try.f70 := by kernel_rfl
def lp40x0 : MC := .seq (.region [⟨some 15, .bin .lss (.var 14) (.var 13), none⟩]) (.seq (.cond (.var 15) .skip (.exit 0)) (.seq (.seq (.block 1 (.seq (.region [⟨none, .indexSl 1 (.var 12) (.var 14), none⟩, ⟨none, .load false 1 (.tmp 0), none⟩, ⟨some 8, .mv (.tmp 1), none⟩]) (.seq (.region [⟨none, .load false 1 (.var 2), none⟩, ⟨none, .nilCheck (.tmp 0), none⟩, ⟨none, .fieldAddr 1 (.tmp 1), none⟩, ⟨none, .load false 1 (.tmp 2), none⟩, ⟨none, .mv (.var 8), none⟩, ⟨none, .indexSl 6 (.tmp 3) (.tmp 4), none⟩, ⟨none, .load true 6 (.tmp 5), none⟩, ⟨some 9, .alloc 6 (.agg [.int .i64 0, .int .i64 0, .int .i64 0, .int .i64 0, .int .i64 0, .int .i64 0]), none⟩, ⟨none, .store 6 (.var 9) (.tmp 6), none⟩]) (.seq (.seq (.region [⟨none, .fieldAddr 0 (.var 9), none⟩, ⟨none, .fieldAddr 0 (.tmp 0), none⟩, ⟨none, .load false 1 (.tmp 1), none⟩, ⟨none, .mv (.var 7), none⟩, ⟨some 16, .bin .neq (.tmp 2) (.tmp 3), none⟩]) (.cond (.var 16) (.seq (.region [⟨some 3, .mv (.cst (.int .i64 0)), none⟩, ⟨some 4, .mv (.cst (.int .i64 0)), none⟩, ⟨some 5, .mv (.cst (.bool false)), none⟩]) .ret) .skip)) (.region [⟨none, .mv (.var 3), none⟩, ⟨none, .fieldAddr 5 (.var 9), none⟩, ⟨none, .load false 1 (.tmp 1), none⟩, ⟨none, .bin .add (.tmp 0) (.tmp 2), none⟩, ⟨none, .mv (.var 4), none⟩, ⟨none, .fieldAddr 0 (.var 9), none⟩, ⟨none, .fieldAddr 3 (.tmp 5), none⟩, ⟨none, .load false 1 (.tmp 6), none⟩, ⟨none, .bin .add (.tmp 4) (.tmp 7), none⟩, ⟨none, .fieldAddr 0 (.var 9), none⟩, ⟨none, .fieldAddr 1 (.tmp 9), none⟩, ⟨none, .load false 1 (.tmp 10), none⟩, ⟨some 3, .mv (.tmp 3), none⟩, ⟨some 4, .mv (.tmp 8), none⟩, ⟨some 7, .mv (.tmp 11), none⟩]))))) (.kill [0, 1, 5, 6, 8, 9, 10, 11, 15, 16])) (.region [⟨none, .bin .add (.var 14) (.cst (.int .i64 1)), none⟩, ⟨some 14, .mv (.tmp 0), none⟩])))
def mf40 : MFun := ⟨2, 17, .seq (.region [⟨some 2, .box (.var 0), none⟩, ⟨some 3, .mv (.cst (.int .i64 0)), none⟩, ⟨some 4, .mv (.cst (.int .i64 0)), none⟩, ⟨some 5, .mv (.cst (.bool false)), none⟩]) (.seq (.seq (.region [⟨none, .mv (.var 1), none⟩, ⟨none, .lenSl (.tmp 0), none⟩, ⟨none, .call (.fn 60) [.tmp 1, .cst (.int .i64 1), .cst (.int .i64 200)], none⟩, ⟨some 10, .un .not (.tmp 2), none⟩]) (.cond (.var 10) (.seq (.region [⟨some 3, .mv (.cst (.int .i64 0)), none⟩, ⟨some 4, .mv (.cst (.int .i64 0)), none⟩, ⟨some 5, .mv (.cst (.bool false)), none⟩]) .ret) .skip)) (.seq (.region [⟨none, .makeFunc (.func 75) [] [.var 2], none⟩, ⟨some 6, .mv (.tmp 0), none⟩]) (.seq (.seq (.region [⟨none, .mv (.var 1), none⟩, ⟨none, .mv (.var 6), none⟩, ⟨some 11, .call (.fn 61) [.tmp 0, .tmp 1], none⟩]) (.cond (.var 11) (.seq (.region [⟨some 3, .mv (.cst (.int .i64 0)), none⟩, ⟨some 4, .mv (.cst (.int .i64 0)), none⟩, ⟨some 5, .mv (.cst (.bool false)), none⟩]) .ret) .skip)) (.seq (.region [⟨none, .load false 1 (.var 2), none⟩, ⟨none, .nilCheck (.tmp 0), none⟩, ⟨none, .fieldAddr 1 (.tmp 1), none⟩, ⟨none, .load false 1 (.tmp 2), none⟩, ⟨none, .mv (.var 1), none⟩, ⟨none, .mv (.var 1), none⟩, ⟨none, .lenSl (.tmp 5), none⟩, ⟨none, .bin .sub (.tmp 6) (.cst (.int .i64 1)), none⟩, ⟨none, .indexSl 1 (.tmp 4) (.tmp 7), none⟩, ⟨none, .load false 1 (.tmp 8), none⟩, ⟨none, .indexSl 6 (.tmp 3) (.tmp 9), none⟩, ⟨none, .fieldAddr 0 (.tmp 10), none⟩, ⟨none, .fieldAddr 1 (.tmp 11), none⟩, ⟨none, .load false 1 (.tmp 12), none⟩, ⟨some 7, .mv (.tmp 13), none⟩]) (.seq (.seq (.region [⟨some 12, .mv (.var 1), none⟩, ⟨some 13, .lenSl (.var 12), none⟩, ⟨some 14, .mv (.cst (.int .i64 0)), none⟩]) (.seq (.block 0 (.loop [0, 1, 5, 6, 8, 9, 10, 11, 15, 16] lp40x0)) (.kill [0, 1, 2, 5, 6, 7, 8, 9, 10, 11, 12, 13, 14, 15, 16]))) (.seq (.region [⟨none, .mv (.var 3), none⟩, ⟨none, .mv (.var 4), none⟩, ⟨some 3, .mv (.tmp 0), none⟩, ⟨some 4, .mv (.tmp 1), none⟩, ⟨some 5, .mv (.cst (.bool true)), none⟩]) .ret)))))), [.tmp 3, .tmp 4, .tmp 5]⟩
def mask40x0 : List Nat := [0, 1, 5, 6, 8, 9, 10, 11, 15, 16]
abbrev st40x0 (v2 v3 v4 v7 v12 v13 v14 : AV) : List AV := [.undef, .undef, v2, v3, v4, .undef, .undef, v7, .undef, .undef, .undef, .undef, v12, v13, v14, .undef, .undef]
theorem cl40x0 {d0 d1 v2 v3 v4 d5 d6 v7 d8 d9 d10 d11 v12 v13 v14 d15 d16 : AV} : clear mask40x0 [d0, d1, v2, v3, v4, d5, d6, v7, d8, d9, d10, d11, v12, v13, v14, d15, d16] = st40x0 v2 v3 v4 v7 v12 v13 v14 := by simp only [mask40x0, clear, List.foldl_cons, List.foldl_nil, List.set_cons_zero, List.set_cons_succ]
theorem go40x0 {E : Env} {fuel : Nat} {A : Arena} {o : Out} {k : List KC} {d0 d1 v2 v3 v4 d5 d6 v7 d8 d9 d10 d11 v12 v13 v14 d15 d16 : AV} (h : iter (evC E fuel lp40x0) mask40x0 fuel (st40x0 v2 v3 v4 v7 v12 v13 v14) A = some o) :
    run E fuel (.code (.loop [0, 1, 5, 6, 8, 9, 10, 11, 15, 16] lp40x0) :: k) [d0, d1, v2, v3, v4, d5, d6, v7, d8, d9, d10, d11, v12, v13, v14, d15, d16] A = after E fuel k o := run_loopC mask40x0 _ _ (by rw [cl40x0]; exact h)
set_option maxHeartbeats 4000000 in
theorem comp40 : compFun Try.prog Try.f57 2 [0, 1, 2, 4, 5, 6, 7, 8, 10, 11, 15, 19, 34, 35, 36, 37, 51] [] true ([[0, 1, 5, 6, 8, 9, 10, 11, 15, 16]], [[0, 1, 5, 6, 8, 9, 10, 11, 15, 16], [0, 1, 2, 5, 6, 7, 8, 9, 10, 11, 12, 13, 14, 15, 16]]) = some mf40 := by kernel_rfl
theorem at40 : Try.prog.funcs[57]? = some Try.f57 := by kernel_rfl
def mf41 : MFun := ⟨1, 2, .seq (.region [⟨some 1, .mv (.cst (.bool false)), none⟩]) (.seq (.region [⟨none, .mv (.var 0), none⟩, ⟨none, .call (.fn 60) [.tmp 0, .cst (.int .i64 (-1000000)), .cst (.int .i64 1000000)], none⟩, ⟨some 1, .mv (.tmp 1), none⟩]) .ret), [.tmp 1]⟩
set_option maxHeartbeats 4000000 in
theorem comp41 : compFun Try.prog Try.f54 1 [0, 2] [] true ([], []) = some mf41 := by kernel_rfl
theorem at41 : Try.prog.funcs[54]? = some Try.f54 := by kernel_rfl
def mf42 : MFun := ⟨2, 5, .seq (.region [⟨some 2, .box (.var 0), none⟩, ⟨some 3, .box (.var 1), none⟩, ⟨some 4, .mv (.cst .nilF), none⟩]) (.seq (.region [⟨none, .makeFunc (.func 82) [] [.var 2, .var 3], none⟩, ⟨some 4, .mv (.tmp 0), none⟩]) .ret), [.tmp 4]⟩
set_option maxHeartbeats 4000000 in
theorem comp42 : compFun Try.prog Try.f76 2 [0, 1, 2, 3, 4] [] true ([], []) = some mf42 := by kernel_rfl
theorem at42 : Try.prog.funcs[76]? = some Try.f76 := by kernel_rfl
def lp43x0 : MC := .seq (.seq (.region [⟨none, .load false 1 (.var 11), none⟩, ⟨some 14, .bin .geq (.tmp 0) (.cst (.int .i64 0)), none⟩]) (.cond (.var 14) .skip (.exit 0))) (.seq (.seq (.block 1 (.seq (.region [⟨none, .mv (.var 10), none⟩, ⟨none, .makeFunc (.func 85) [] [.var 5, .var 11, .var 9], none⟩, ⟨none, .call (.fn 84) [.tmp 0, .tmp 1], none⟩, ⟨some 12, .mv (.tmp 2), none⟩]) (.seq (.seq (.region [⟨none, .mv (.var 12), none⟩, ⟨some 15, .bin .lss (.tmp 0) (.cst (.int .i64 0)), none⟩]) (.cond (.var 15) (.seq (.region [⟨some 6, .mv (.cst .nilS), none⟩, ⟨some 7, .mv (.cst (.bool false)), none⟩]) .ret) .skip)) (.seq (.region [⟨none, .mv (.var 10), none⟩, ⟨none, .mv (.var 12), none⟩, ⟨none, .indexSl 6 (.tmp 0) (.tmp 1), none⟩, ⟨none, .load true 6 (.tmp 2), none⟩, ⟨some 13, .alloc 6 (.agg [.int .i64 0, .int .i64 0, .int .i64 0, .int .i64 0, .int .i64 0, .int .i64 0]), none⟩, ⟨none, .store 6 (.var 13) (.tmp 3), none⟩]) (.regionD [] [⟨none, .mv (.var 8), none⟩, ⟨none, .fieldAddr 4 (.var 13), none⟩, ⟨none, .load false 1 (.tmp 1), none⟩, ⟨none, .buildF 1 [.tmp 2], none⟩, ⟨none, .append 1 8 (.tmp 0) (.tmp 3), none⟩, ⟨none, .load false 1 (.var 9), none⟩, ⟨none, .fieldAddr 5 (.var 13), none⟩, ⟨none, .load false 1 (.tmp 6), none⟩, ⟨none, .bin .add (.tmp 5) (.tmp 7), none⟩, ⟨none, .mv (.var 0), none⟩, ⟨none, .nilCheck (.tmp 9), none⟩, ⟨none, .fieldAddr 2 (.tmp 10), none⟩, ⟨none, .load false 1 (.tmp 11), none⟩, ⟨none, .fieldAddr 0 (.var 13), none⟩, ⟨none, .fieldAddr 1 (.tmp 13), none⟩, ⟨none, .load false 1 (.tmp 14), none⟩, ⟨none, .indexSl 1 (.tmp 12) (.tmp 15), none⟩, ⟨none, .load false 1 (.tmp 16), none⟩, ⟨some 8, .mv (.tmp 4), none⟩, ⟨none, .store 1 (.var 9) (.tmp 8), none⟩, ⟨some 10, .mv (.tmp 17), none⟩] [(4, 5), (4, 6), (4, 7), (4, 11), (4, 12), (4, 13), (4, 14), (4, 15), (4, 16), (4, 17), (11, 19), (12, 19), (13, 19), (14, 19), (15, 19), (16, 19), (17, 19)]))))) (.kill [1, 2, 3, 4, 6, 7, 12, 13, 14, 15, 16])) (.seq (.seq (.region [⟨some 16, .load false 1 (.var 11), none⟩]) (.region [⟨some 11, .alloc 1 (.int .i64 0), none⟩, ⟨none, .store 1 (.var 11) (.var 16), none⟩])) (.region [⟨none, .load false 1 (.var 11), none⟩, ⟨none, .bin .sub (.tmp 0) (.cst (.int .i64 1)), none⟩, ⟨none, .store 1 (.var 11) (.tmp 1), none⟩])))
def mf43 : MFun := ⟨4, 17, .seq (.region [⟨some 4, .box (.var 1), none⟩, ⟨some 5, .box (.var 2), none⟩, ⟨some 6, .mv (.cst .nilS), none⟩, ⟨some 7, .mv (.cst (.bool false)), none⟩]) (.seq (.region [⟨some 8, .mv (.cst .nilS), none⟩]) (.seq (.region [⟨some 9, .alloc 1 (.int .i64 0), none⟩, ⟨none, .store 1 (.var 9) (.cst (.int .i64 0)), none⟩]) (.seq (.region [⟨none, .load true 6 (.var 4), none⟩, ⟨none, .buildSlice 6 [.tmp 0], none⟩, ⟨some 10, .mv (.tmp 1), none⟩]) (.seq (.seq (.region [⟨none, .mv (.var 3), none⟩, ⟨none, .bin .sub (.tmp 0) (.cst (.int .i64 1)), none⟩, ⟨some 11, .alloc 1 (.int .i64 0), none⟩, ⟨none, .store 1 (.var 11) (.tmp 1), none⟩]) (.seq (.block 0 (.loop [1, 2, 3, 4, 6, 7, 12, 13, 14, 15, 16] lp43x0)) (.kill [0, 1, 2, 3, 4, 5, 6, 7, 9, 10, 11, 12, 13, 14, 15, 16]))) (.seq (.region [⟨none, .mv (.var 8), none⟩, ⟨some 6, .mv (.tmp 0), none⟩, ⟨some 7, .mv (.cst (.bool true)), none⟩]) .ret))))), [.tmp 6, .tmp 7]⟩
def mask43x0 : List Nat := [1, 2, 3, 4, 6, 7, 12, 13, 14, 15, 16]
abbrev st43x0 (v0 v5 v8 v9 v10 v11 : AV) : List AV := [v0, .undef, .undef, .undef, .undef, v5, .undef, .undef, v8, v9, v10, v11, .undef, .undef, .undef, .undef, .undef]
theorem cl43x0 {v0 d1 d2 d3 d4 v5 d6 d7 v8 v9 v10 v11 d12 d13 d14 d15 d16 : AV} : clear mask43x0 [v0, d1, d2, d3, d4, v5, d6, d7, v8, v9, v10, v11, d12, d13, d14, d15, d16] = st43x0 v0 v5 v8 v9 v10 v11 := by simp only [mask43x0, clear, List.foldl_cons, List.foldl_nil, List.set_cons_zero, List.set_cons_succ]
theorem go43x0 {E : Env} {fuel : Nat} {A : Arena} {o : Out} {k : List KC} {v0 d1 d2 d3 d4 v5 d6 d7 v8 v9 v10 v11 d12 d13 d14 d15 d16 : AV} (h : iter (evC E fuel lp43x0) mask43x0 fuel (st43x0 v0 v5 v8 v9 v10 v11) A = some o) :
    run E fuel (.code (.loop [1, 2, 3, 4, 6, 7, 12, 13, 14, 15, 16] lp43x0) :: k) [v0, d1, d2, d3, d4, v5, d6, d7, v8, v9, v10, v11, d12, d13, d14, d15, d16] A = after E fuel k o := run_loopC mask43x0 _ _ (by rw [cl43x0]; exact h)
set_option maxHeartbeats 4000000 in
theorem comp43 : compFun Try.prog Try.f77 4 [0, 1, 2, 3, 5, 6, 8, 9, 10, 11, 12, 13, 14, 15, 21, 28, 51] [] true ([[1, 2, 3, 4, 6, 7, 12, 13, 14, 15, 16]], [[1, 2, 3, 4, 6, 7, 12, 13, 14, 15, 16], [0, 1, 2, 3, 4, 5, 6, 7, 9, 10, 11, 12, 13, 14, 15, 16]]) = some mf43 := by kernel_rfl
theorem at43 : Try.prog.funcs[77]? = some Try.f77 := by kernel_rfl
def lp44x0 : MC := .seq (.region [⟨some 6, .bin .lss (.var 5) (.var 4), none⟩]) (.seq (.cond (.var 6) .skip (.exit 0)) (.seq (.seq (.block 1 (.seq (.region [⟨none, .mv (.var 5), none⟩, ⟨some 3, .mv (.tmp 0), none⟩]) (.seq (.region [⟨none, .mv (.var 1), none⟩, ⟨none, .mv (.var 0), none⟩, ⟨none, .mv (.var 3), none⟩, ⟨none, .indexSl 4 (.tmp 1) (.tmp 2), none⟩, ⟨none, .load true 4 (.tmp 3), none⟩, ⟨some 7, .call (.tmp 0) [.tmp 4], none⟩]) (.cond (.var 7) (.seq (.region [⟨none, .mv (.var 3), none⟩, ⟨some 2, .mv (.tmp 0), none⟩]) .ret) .skip)))) (.kill [2, 3, 6, 7])) (.region [⟨none, .bin .add (.var 5) (.cst (.int .i64 1)), none⟩, ⟨some 5, .mv (.tmp 0), none⟩])))
def mf44 : MFun := ⟨2, 8, .seq (.region [⟨some 2, .mv (.cst (.int .i64 0)), none⟩]) (.seq (.seq (.region [⟨none, .mv (.var 0), none⟩, ⟨some 4, .lenSl (.tmp 0), none⟩, ⟨some 5, .mv (.cst (.int .i64 0)), none⟩]) (.seq (.block 0 (.loop [2, 3, 6, 7] lp44x0)) (.kill [0, 1, 2, 3, 4, 5, 6, 7]))) (.seq (.region [⟨some 2, .mv (.cst (.int .i64 (-1))), none⟩]) .ret)), [.tmp 2]⟩
def mask44x0 : List Nat := [2, 3, 6, 7]
abbrev st44x0 (v0 v1 v4 v5 : AV) : List AV := [v0, v1, .undef, .undef, v4, v5, .undef, .undef]
theorem cl44x0 {v0 v1 d2 d3 v4 v5 d6 d7 : AV} : clear mask44x0 [v0, v1, d2, d3, v4, v5, d6, d7] = st44x0 v0 v1 v4 v5 := by simp only [mask44x0, clear, List.foldl_cons, List.foldl_nil, List.set_cons_zero, List.set_cons_succ]
theorem go44x0 {E : Env} {fuel : Nat} {A : Arena} {o : Out} {k : List KC} {v0 v1 d2 d3 v4 v5 d6 d7 : AV} (h : iter (evC E fuel lp44x0) mask44x0 fuel (st44x0 v0 v1 v4 v5) A = some o) :
    run E fuel (.code (.loop [2, 3, 6, 7] lp44x0) :: k) [v0, v1, d2, d3, v4, v5, d6, d7] A = after E fuel k o := run_loopC mask44x0 _ _ (by rw [cl44x0]; exact h)
set_option maxHeartbeats 4000000 in
theorem comp44 : compFun Try.prog Try.f87 2 [0, 1, 4, 5, 7, 8, 9, 16] [] true ([[2, 3, 6, 7]], [[2, 3, 6, 7], [0, 1, 2, 3, 4, 5, 6, 7]]) = some mf44 := by kernel_rfl
theorem at44 : Try.prog.funcs[87]? = some Try.f87 := by kernel_rfl
def lp45x0 : MC := .seq (.region [⟨some 6, .bin .lss (.var 5) (.var 4), none⟩]) (.seq (.cond (.var 6) .skip (.exit 0)) (.seq (.seq (.block 1 (.seq (.region [⟨none, .mv (.var 5), none⟩, ⟨some 3, .mv (.tmp 0), none⟩]) (.seq (.region [⟨none, .mv (.var 1), none⟩, ⟨none, .mv (.var 0), none⟩, ⟨none, .mv (.var 3), none⟩, ⟨none, .indexSl 1 (.tmp 1) (.tmp 2), none⟩, ⟨none, .load false 1 (.tmp 3), none⟩, ⟨some 7, .call (.tmp 0) [.tmp 4], none⟩]) (.cond (.var 7) (.seq (.region [⟨none, .mv (.var 3), none⟩, ⟨some 2, .mv (.tmp 0), none⟩]) .ret) .skip)))) (.kill [2, 3, 6, 7])) (.region [⟨none, .bin .add (.var 5) (.cst (.int .i64 1)), none⟩, ⟨some 5, .mv (.tmp 0), none⟩])))
def mf45 : MFun := ⟨2, 8, .seq (.region [⟨some 2, .mv (.cst (.int .i64 0)), none⟩]) (.seq (.seq (.region [⟨none, .mv (.var 0), none⟩, ⟨some 4, .lenSl (.tmp 0), none⟩, ⟨some 5, .mv (.cst (.int .i64 0)), none⟩]) (.seq (.block 0 (.loop [2, 3, 6, 7] lp45x0)) (.kill [0, 1, 2, 3, 4, 5, 6, 7]))) (.seq (.region [⟨some 2, .mv (.cst (.int .i64 (-1))), none⟩]) .ret)), [.tmp 2]⟩
def mask45x0 : List Nat := [2, 3, 6, 7]
abbrev st45x0 (v0 v1 v4 v5 : AV) : List AV := [v0, v1, .undef, .undef, v4, v5, .undef, .undef]
theorem cl45x0 {v0 v1 d2 d3 v4 v5 d6 d7 : AV} : clear mask45x0 [v0, v1, d2, d3, v4, v5, d6, d7] = st45x0 v0 v1 v4 v5 := by simp only [mask45x0, clear, List.foldl_cons, List.foldl_nil, List.set_cons_zero, List.set_cons_succ]
theorem go45x0 {E : Env} {fuel : Nat} {A : Arena} {o : Out} {k : List KC} {v0 v1 d2 d3 v4 v5 d6 d7 : AV} (h : iter (evC E fuel lp45x0) mask45x0 fuel (st45x0 v0 v1 v4 v5) A = some o) :
    run E fuel (.code (.loop [2, 3, 6, 7] lp45x0) :: k) [v0, v1, d2, d3, v4, v5, d6, d7] A = after E fuel k o := run_loopC mask45x0 _ _ (by rw [cl45x0]; exact h)
set_option maxHeartbeats 4000000 in
theorem comp45 : compFun Try.prog Try.f78 2 [0, 1, 4, 5, 7, 8, 9, 16] [] true ([[2, 3, 6, 7]], [[2, 3, 6, 7], [0, 1, 2, 3, 4, 5, 6, 7]]) = some mf45 := by kernel_rfl
theorem at45 : Try.prog.funcs[78]? = some Try.f78 := by kernel_rfl
def mf46 : MFun := ⟨2, 3, .seq (.region [⟨some 2, .mv (.cst (.bool false)), none⟩]) (.seq (.region [⟨none, .mv (.var 0), none⟩, ⟨none, .load false 1 (.var 1), none⟩, ⟨none, .nilCheck (.tmp 1), none⟩, ⟨none, .fieldAddr 1 (.tmp 2), none⟩, ⟨none, .load false 1 (.tmp 3), none⟩, ⟨none, .lenSl (.tmp 4), none⟩, ⟨none, .bin .sub (.tmp 5) (.cst (.int .i64 1)), none⟩, ⟨none, .call (.fn 60) [.tmp 0, .cst (.int .i64 0), .tmp 6], none⟩, ⟨none, .un .not (.tmp 7), none⟩, ⟨some 2, .mv (.tmp 8), none⟩]) .ret), [.tmp 2]⟩
set_option maxHeartbeats 4000000 in
theorem comp46 : compFun Try.prog Try.f75 2 [0, 1, 3] [] true ([], []) = some mf46 := by kernel_rfl
theorem at46 : Try.prog.funcs[75]? = some Try.f75 := by kernel_rfl
def lp47x0 : MC := .seq (.region [⟨some 9, .bin .lss (.var 8) (.var 7), none⟩]) (.seq (.cond (.var 9) .skip (.exit 0)) (.seq (.seq (.block 1 (.seq (.region [⟨none, .indexSl 6 (.var 6) (.var 8), none⟩, ⟨none, .load true 6 (.tmp 0), none⟩, ⟨some 4, .alloc 6 (.agg [.int .i64 0, .int .i64 0, .int .i64 0, .int .i64 0, .int .i64 0, .int .i64 0]), none⟩, ⟨none, .store 6 (.var 4) (.tmp 1), none⟩]) (.seq (.seq (.region [⟨none, .mv (.var 3), none⟩, ⟨none, .fieldAddr 0 (.var 4), none⟩, ⟨none, .fieldAddr 0 (.tmp 1), none⟩, ⟨none, .load false 1 (.tmp 2), none⟩, ⟨none, .lookup 1 true .nilS (.tmp 0) (.tmp 3), none⟩, ⟨none, .mv (.tmp 4), none⟩, ⟨none, .extract (.tmp 5) 0, none⟩, ⟨none, .extract (.tmp 5) 1, none⟩, ⟨none, .mv (.tmp 6), none⟩, ⟨some 5, .mv (.tmp 7), none⟩]) (.seq (.region [⟨none, .mv (.var 5), none⟩, ⟨some 10, .un .not (.tmp 0), none⟩]) (.cond (.var 10) (.region [⟨none, .mv (.var 3), none⟩, ⟨none, .fieldAddr 0 (.var 4), none⟩, ⟨none, .fieldAddr 0 (.tmp 1), none⟩, ⟨none, .load false 1 (.tmp 2), none⟩, ⟨none, .load false 1 (.var 1), none⟩, ⟨none, .fieldAddr 0 (.var 4), none⟩, ⟨none, .fieldAddr 0 (.tmp 5), none⟩, ⟨none, .load false 1 (.tmp 6), none⟩, ⟨none, .load false 1 (.var 2), none⟩, ⟨none, .call (.fn 83) [.tmp 4, .tmp 7, .tmp 8], none⟩, ⟨none, .mapUpdate 1 (.tmp 0) (.tmp 3) (.tmp 9), none⟩]) .skip))) (.seq (.region [⟨none, .mv (.var 0), none⟩, ⟨none, .load true 6 (.var 4), none⟩, ⟨none, .mv (.var 3), none⟩, ⟨none, .fieldAddr 0 (.var 4), none⟩, ⟨none, .fieldAddr 0 (.tmp 3), none⟩, ⟨none, .load false 1 (.tmp 4), none⟩, ⟨none, .lookup 1 false .nilS (.tmp 2) (.tmp 5), none⟩, ⟨none, .call (.tmp 0) [.tmp 1, .tmp 6], none⟩, ⟨some 11, .un .not (.tmp 7), none⟩]) (.cond (.var 11) .ret .skip))))) (.kill [4, 5, 9, 10, 11])) (.region [⟨none, .bin .add (.var 8) (.cst (.int .i64 1)), none⟩, ⟨some 8, .mv (.tmp 0), none⟩])))
def mf47 : MFun := ⟨3, 12, .seq (.region [⟨none, .makeMap, none⟩, ⟨some 3, .mv (.tmp 0), none⟩]) (.seq (.region [⟨none, .load false 1 (.var 1), none⟩, ⟨none, .nilCheck (.tmp 0), none⟩, ⟨none, .fieldAddr 1 (.tmp 1), none⟩, ⟨some 6, .load false 1 (.tmp 2), none⟩, ⟨some 7, .lenSl (.var 6), none⟩, ⟨some 8, .mv (.cst (.int .i64 0)), none⟩]) (.seq (.block 0 (.loop [4, 5, 9, 10, 11] lp47x0)) (.kill [0, 1, 2, 3, 4, 5, 6, 7, 8, 9, 10, 11]))), []⟩
def mask47x0 : List Nat := [4, 5, 9, 10, 11]
abbrev st47x0 (v0 v1 v2 v3 v6 v7 v8 : AV) : List AV := [v0, v1, v2, v3, .undef, .undef, v6, v7, v8, .undef, .undef, .undef]
theorem cl47x0 {v0 v1 v2 v3 d4 d5 v6 v7 v8 d9 d10 d11 : AV} : clear mask47x0 [v0, v1, v2, v3, d4, d5, v6, v7, v8, d9, d10, d11] = st47x0 v0 v1 v2 v3 v6 v7 v8 := by simp only [mask47x0, clear, List.foldl_cons, List.foldl_nil, List.set_cons_zero, List.set_cons_succ]
theorem go47x0 {E : Env} {fuel : Nat} {A : Arena} {o : Out} {k : List KC} {v0 v1 v2 v3 d4 d5 v6 v7 v8 d9 d10 d11 : AV} (h : iter (evC E fuel lp47x0) mask47x0 fuel (st47x0 v0 v1 v2 v3 v6 v7 v8) A = some o) :
    run E fuel (.code (.loop [4, 5, 9, 10, 11] lp47x0) :: k) [v0, v1, v2, v3, d4, d5, v6, v7, v8, d9, d10, d11] A = after E fuel k o := run_loopC mask47x0 _ _ (by rw [cl47x0]; exact h)
set_option maxHeartbeats 4000000 in
theorem comp47 : compFun Try.prog Try.f82 3 [0, 1, 2, 4, 6, 8, 13, 14, 15, 16, 28, 47] [83] true ([[4, 5, 9, 10, 11]], [[4, 5, 9, 10, 11], [0, 1, 2, 3, 4, 5, 6, 7, 8, 9, 10, 11]]) = some mf47 := by kernel_rfl
theorem at47 : Try.prog.funcs[82]? = some Try.f82 := by kernel_rfl
def lp48x0 : MC := .seq (.region [⟨some 14, .bin .lss (.var 13) (.var 12), none⟩]) (.seq (.cond (.var 14) .skip (.exit 2)) (.seq (.seq (.block 3 (.seq (.region [⟨none, .indexSl 6 (.var 11) (.var 13), none⟩, ⟨none, .load true 6 (.tmp 0), none⟩, ⟨some 7, .alloc 6 (.agg [.int .i64 0, .int .i64 0, .int .i64 0, .int .i64 0, .int .i64 0, .int .i64 0]), none⟩, ⟨none, .store 6 (.var 7) (.tmp 1), none⟩]) (.region [⟨none, .mv (.var 6), none⟩, ⟨none, .fieldAddr 0 (.var 7), none⟩, ⟨none, .fieldAddr 0 (.tmp 1), none⟩, ⟨none, .load false 1 (.tmp 2), none⟩, ⟨none, .mv (.var 6), none⟩, ⟨none, .fieldAddr 0 (.var 7), none⟩, ⟨none, .fieldAddr 0 (.tmp 5), none⟩, ⟨none, .load false 1 (.tmp 6), none⟩, ⟨none, .indexSl 2 (.tmp 4) (.tmp 7), none⟩, ⟨none, .load true 2 (.tmp 8), none⟩, ⟨none, .mv (.var 5), none⟩, ⟨none, .fieldAddr 0 (.var 7), none⟩, ⟨none, .fieldAddr 1 (.tmp 11), none⟩, ⟨none, .load false 1 (.tmp 12), none⟩, ⟨none, .indexSl 2 (.tmp 10) (.tmp 13), none⟩, ⟨none, .load true 2 (.tmp 14), none⟩, ⟨none, .fieldAddr 5 (.var 7), none⟩, ⟨none, .load false 1 (.tmp 16), none⟩, ⟨none, .call (.fn 86) [.tmp 15, .tmp 17], none⟩, ⟨none, .call (.fn 88) [.tmp 9, .tmp 18], none⟩, ⟨none, .indexSl 2 (.tmp 0) (.tmp 3), none⟩, ⟨none, .store 2 (.tmp 20) (.tmp 19), none⟩]))) (.kill [1, 2, 3, 7, 10, 14])) (.region [⟨none, .bin .add (.var 13) (.cst (.int .i64 1)), none⟩, ⟨some 13, .mv (.tmp 0), none⟩])))
def lp48x1 : MC := .seq (.region [⟨some 10, .bin .lss (.var 9) (.var 8), none⟩]) (.seq (.cond (.var 10) .skip (.exit 0)) (.seq (.seq (.block 1 (.seq (.regionD [86, 88] [⟨none, .mv (.var 4), none⟩, ⟨none, .mv (.var 4), none⟩, ⟨none, .lenSl (.tmp 1), none⟩, ⟨none, .bin .sub (.tmp 2) (.cst (.int .i64 1)), none⟩, ⟨none, .indexSl 1 (.tmp 0) (.tmp 3), none⟩, ⟨none, .load false 1 (.tmp 4), none⟩, ⟨none, .mv (.var 0), none⟩, ⟨none, .nilCheck (.tmp 6), none⟩, ⟨none, .fieldAddr 0 (.tmp 7), none⟩, ⟨none, .load false 1 (.tmp 8), none⟩, ⟨none, .makeSlice 2 16 (.agg [.int .i64 0, .bool false]) (.tmp 9) (.tmp 9), none⟩, ⟨some 5, .mv (.tmp 5), none⟩, ⟨some 6, .mv (.tmp 10), none⟩] [(4, 10), (5, 10)]) (.seq (.seq (.region [⟨none, .mv (.var 0), none⟩, ⟨none, .nilCheck (.tmp 0), none⟩, ⟨none, .fieldAddr 1 (.tmp 1), none⟩, ⟨some 11, .load false 1 (.tmp 2), none⟩, ⟨some 12, .lenSl (.var 11), none⟩, ⟨some 13, .mv (.cst (.int .i64 0)), none⟩]) (.seq (.block 2 (.loop [1, 2, 3, 7, 10, 14] lp48x0)) (.kill [1, 2, 3, 5, 7, 10, 11, 12, 13, 14]))) (.region [⟨none, .mv (.var 4), none⟩, ⟨none, .mv (.var 6), none⟩, ⟨none, .buildSlice 1 [.tmp 1], none⟩, ⟨none, .append 1 24 (.tmp 0) (.tmp 2), none⟩, ⟨some 4, .mv (.tmp 3), none⟩])))) (.kill [1, 2, 3, 5, 6, 7, 10, 11, 12, 13, 14])) (.region [⟨none, .bin .add (.var 9) (.cst (.int .i64 1)), none⟩, ⟨some 9, .mv (.tmp 0), none⟩])))
def mf48 : MFun := ⟨3, 15, .seq (.region [⟨some 3, .mv (.cst .nilS), none⟩]) (.seq (.region [⟨none, .mv (.var 0), none⟩, ⟨none, .nilCheck (.tmp 0), none⟩, ⟨none, .fieldAddr 0 (.tmp 1), none⟩, ⟨none, .load false 1 (.tmp 2), none⟩, ⟨none, .makeSlice 2 16 (.agg [.int .i64 0, .bool false]) (.tmp 3) (.tmp 3), none⟩, ⟨none, .buildSlice 1 [.tmp 4], none⟩, ⟨some 4, .mv (.tmp 5), none⟩]) (.seq (.region [⟨none, .mv (.var 4), none⟩, ⟨none, .indexSl 1 (.tmp 0) (.cst (.int .i64 0)), none⟩, ⟨none, .load false 1 (.tmp 1), none⟩, ⟨none, .mv (.var 1), none⟩, ⟨none, .build [.int .i64 0, .bool false] [(0, (1, .cst (.int .i64 0))), (1, (1, .cst (.bool true)))], none⟩, ⟨none, .indexSl 2 (.tmp 2) (.tmp 3), none⟩, ⟨none, .store 2 (.tmp 5) (.tmp 4), none⟩]) (.seq (.seq (.region [⟨some 8, .mv (.var 2), none⟩, ⟨some 9, .mv (.cst (.int .i64 0)), none⟩]) (.seq (.block 0 (.loop [1, 2, 3, 5, 6, 7, 10, 11, 12, 13, 14] lp48x1)) (.kill [0, 1, 2, 3, 5, 6, 7, 8, 9, 10, 11, 12, 13, 14]))) (.seq (.region [⟨none, .mv (.var 4), none⟩, ⟨some 3, .mv (.tmp 0), none⟩]) .ret)))), [.tmp 3]⟩
def mask48x0 : List Nat := [1, 2, 3, 7, 10, 14]
abbrev st48x0 (v0 v4 v5 v6 v8 v9 v11 v12 v13 : AV) : List AV := [v0, .undef, .undef, .undef, v4, v5, v6, .undef, v8, v9, .undef, v11, v12, v13, .undef]
theorem cl48x0 {v0 d1 d2 d3 v4 v5 v6 d7 v8 v9 d10 v11 v12 v13 d14 : AV} : clear mask48x0 [v0, d1, d2, d3, v4, v5, v6, d7, v8, v9, d10, v11, v12, v13, d14] = st48x0 v0 v4 v5 v6 v8 v9 v11 v12 v13 := by simp only [mask48x0, clear, List.foldl_cons, List.foldl_nil, List.set_cons_zero, List.set_cons_succ]
theorem go48x0 {E : Env} {fuel : Nat} {A : Arena} {o : Out} {k : List KC} {v0 d1 d2 d3 v4 v5 v6 d7 v8 v9 d10 v11 v12 v13 d14 : AV} (h : iter (evC E fuel lp48x0) mask48x0 fuel (st48x0 v0 v4 v5 v6 v8 v9 v11 v12 v13) A = some o) :
    run E fuel (.code (.loop [1, 2, 3, 7, 10, 14] lp48x0) :: k) [v0, d1, d2, d3, v4, v5, v6, d7, v8, v9, d10, v11, v12, v13, d14] A = after E fuel k o := run_loopC mask48x0 _ _ (by rw [cl48x0]; exact h)
def mask48x1 : List Nat := [1, 2, 3, 5, 6, 7, 10, 11, 12, 13, 14]
abbrev st48x1 (v0 v4 v8 v9 : AV) : List AV := [v0, .undef, .undef, .undef, v4, .undef, .undef, .undef, v8, v9, .undef, .undef, .undef, .undef, .undef]
theorem cl48x1 {v0 d1 d2 d3 v4 d5 d6 d7 v8 v9 d10 d11 d12 d13 d14 : AV} : clear mask48x1 [v0, d1, d2, d3, v4, d5, d6, d7, v8, v9, d10, d11, d12, d13, d14] = st48x1 v0 v4 v8 v9 := by simp only [mask48x1, clear, List.foldl_cons, List.foldl_nil, List.set_cons_zero, List.set_cons_succ]
theorem go48x1 {E : Env} {fuel : Nat} {A : Arena} {o : Out} {k : List KC} {v0 d1 d2 d3 v4 d5 d6 d7 v8 v9 d10 d11 d12 d13 d14 : AV} (h : iter (evC E fuel lp48x1) mask48x1 fuel (st48x1 v0 v4 v8 v9) A = some o) :
    run E fuel (.code (.loop [1, 2, 3, 5, 6, 7, 10, 11, 12, 13, 14] lp48x1) :: k) [v0, d1, d2, d3, v4, d5, d6, d7, v8, v9, d10, d11, d12, d13, d14] A = after E fuel k o := run_loopC mask48x1 _ _ (by rw [cl48x1]; exact h)
set_option maxHeartbeats 4000000 in
theorem comp48 : compFun Try.prog Try.f83 3 [0, 1, 2, 6, 7, 8, 9, 11, 24, 25, 26, 41, 42, 43, 44] [86, 88] false ([[1, 2, 3, 5, 6, 7, 10, 11, 12, 13, 14], [1, 2, 3, 7, 10, 14]], [[1, 2, 3, 7, 10, 14], [1, 2, 3, 5, 7, 10, 11, 12, 13, 14], [1, 2, 3, 5, 6, 7, 10, 11, 12, 13, 14], [0, 1, 2, 3, 5, 6, 7, 8, 9, 10, 11, 12, 13, 14]]) = some mf48 := by kernel_rfl
theorem at48 : Try.prog.funcs[83]? = some Try.f83 := by kernel_rfl
def lp49x0 : MC := .seq (.region [⟨some 6, .bin .lss (.var 5) (.var 4), none⟩]) (.seq (.cond (.var 6) .skip (.exit 0)) (.seq (.seq (.block 1 (.seq (.region [⟨none, .mv (.var 5), none⟩, ⟨some 3, .mv (.tmp 0), none⟩]) (.seq (.region [⟨none, .mv (.var 1), none⟩, ⟨none, .mv (.var 0), none⟩, ⟨none, .mv (.var 3), none⟩, ⟨none, .indexSl 6 (.tmp 1) (.tmp 2), none⟩, ⟨none, .load true 6 (.tmp 3), none⟩, ⟨some 7, .call (.tmp 0) [.tmp 4], none⟩]) (.cond (.var 7) (.seq (.region [⟨none, .mv (.var 3), none⟩, ⟨some 2, .mv (.tmp 0), none⟩]) .ret) .skip)))) (.kill [2, 3, 6, 7])) (.region [⟨none, .bin .add (.var 5) (.cst (.int .i64 1)), none⟩, ⟨some 5, .mv (.tmp 0), none⟩])))
def mf49 : MFun := ⟨2, 8, .seq (.region [⟨some 2, .mv (.cst (.int .i64 0)), none⟩]) (.seq (.seq (.region [⟨none, .mv (.var 0), none⟩, ⟨some 4, .lenSl (.tmp 0), none⟩, ⟨some 5, .mv (.cst (.int .i64 0)), none⟩]) (.seq (.block 0 (.loop [2, 3, 6, 7] lp49x0)) (.kill [0, 1, 2, 3, 4, 5, 6, 7]))) (.seq (.region [⟨some 2, .mv (.cst (.int .i64 (-1))), none⟩]) .ret)), [.tmp 2]⟩
def mask49x0 : List Nat := [2, 3, 6, 7]
abbrev st49x0 (v0 v1 v4 v5 : AV) : List AV := [v0, v1, .undef, .undef, v4, v5, .undef, .undef]
theorem cl49x0 {v0 v1 d2 d3 v4 v5 d6 d7 : AV} : clear mask49x0 [v0, v1, d2, d3, v4, v5, d6, d7] = st49x0 v0 v1 v4 v5 := by simp only [mask49x0, clear, List.foldl_cons, List.foldl_nil, List.set_cons_zero, List.set_cons_succ]
theorem go49x0 {E : Env} {fuel : Nat} {A : Arena} {o : Out} {k : List KC} {v0 v1 d2 d3 v4 v5 d6 d7 : AV} (h : iter (evC E fuel lp49x0) mask49x0 fuel (st49x0 v0 v1 v4 v5) A = some o) :
    run E fuel (.code (.loop [2, 3, 6, 7] lp49x0) :: k) [v0, v1, d2, d3, v4, v5, d6, d7] A = after E fuel k o := run_loopC mask49x0 _ _ (by rw [cl49x0]; exact h)
set_option maxHeartbeats 4000000 in
theorem comp49 : compFun Try.prog Try.f84 2 [0, 1, 4, 5, 7, 8, 9, 16] [] true ([[2, 3, 6, 7]], [[2, 3, 6, 7], [0, 1, 2, 3, 4, 5, 6, 7]]) = some mf49 := by kernel_rfl
theorem at49 : Try.prog.funcs[84]? = some Try.f84 := by kernel_rfl
def mf50 : MFun := ⟨4, 7, .seq (.region [⟨some 4, .box (.var 0), none⟩, ⟨some 5, .mv (.cst (.bool false)), none⟩]) (.seq (.regionD [86] [⟨none, .load false 1 (.var 1), none⟩, ⟨none, .load false 1 (.var 2), none⟩, ⟨none, .indexSl 1 (.tmp 0) (.tmp 1), none⟩, ⟨none, .load false 1 (.tmp 2), none⟩, ⟨none, .fieldAddr 0 (.var 4), none⟩, ⟨none, .fieldAddr 1 (.tmp 4), none⟩, ⟨none, .load false 1 (.tmp 5), none⟩, ⟨none, .indexSl 2 (.tmp 3) (.tmp 6), none⟩, ⟨none, .load true 2 (.tmp 7), none⟩, ⟨none, .load false 1 (.var 3), none⟩, ⟨none, .fieldAddr 5 (.var 4), none⟩, ⟨none, .load false 1 (.tmp 10), none⟩, ⟨none, .bin .add (.tmp 9) (.tmp 11), none⟩, ⟨none, .call (.fn 86) [.tmp 8, .tmp 12], none⟩, ⟨some 6, .alloc 2 (.agg [.int .i64 0, .bool false]), none⟩, ⟨none, .store 2 (.var 6) (.tmp 13), none⟩] [(0, 14), (1, 14), (2, 14), (3, 14), (4, 14), (5, 14), (6, 14), (7, 14), (8, 14), (9, 14), (10, 14), (11, 14), (13, 14)]) (.seq (.region [⟨none, .fieldAddr 1 (.var 6), none⟩, ⟨none, .load false 1 (.tmp 0), none⟩, ⟨none, .mv (.tmp 1), none⟩, ⟨none, .fieldAddr 0 (.var 6), some (.tmp 2, true)⟩, ⟨none, .load false 1 (.tmp 3), some (.tmp 2, true)⟩, ⟨none, .bin .gtr (.tmp 4) (.cst (.int .i64 0)), some (.tmp 2, true)⟩, ⟨none, .pick (.tmp 2) (.tmp 5) (.cst (.bool false)), none⟩, ⟨some 5, .mv (.tmp 6), none⟩]) .ret)), [.tmp 5]⟩
set_option maxHeartbeats 4000000 in
theorem comp50 : compFun Try.prog Try.f85 4 [0, 1, 2, 3, 4, 5, 6] [86] true ([], []) = some mf50 := by kernel_rfl
theorem at50 : Try.prog.funcs[85]? = some Try.f85 := by kernel_rfl
def mf51 : MFun := ⟨2, 5, .seq (.region [⟨some 2, .box (.var 0), none⟩, ⟨some 3, .alloc 2 (.agg [.int .i64 0, .bool false]), none⟩]) (.seq (.seq (.region [⟨none, .load true 2 (.var 2), none⟩, ⟨none, .build [.int .i64 0, .bool false] [], none⟩, ⟨some 4, .eqAgg false [(0, 1), (1, 0)] (.tmp 0) (.tmp 1), none⟩]) (.cond (.var 4) (.seq (.region [⟨none, .load true 2 (.var 2), none⟩, ⟨none, .store 2 (.var 3) (.tmp 0), none⟩]) .ret) .skip)) (.seq (.region [⟨none, .fieldAddr 0 (.var 2), none⟩, ⟨none, .load false 1 (.tmp 0), none⟩, ⟨none, .mv (.var 1), none⟩, ⟨none, .bin .add (.tmp 1) (.tmp 2), none⟩, ⟨none, .fieldAddr 1 (.var 2), none⟩, ⟨none, .load false 1 (.tmp 4), none⟩, ⟨none, .build [.int .i64 0, .bool false] [(0, (1, .tmp 3)), (1, (1, .tmp 5))], none⟩, ⟨none, .store 2 (.var 3) (.tmp 6), none⟩]) .ret)), [.cell 3 true 2]⟩
set_option maxHeartbeats 4000000 in
theorem comp51 : compFun Try.prog Try.f86 2 [0, 1, 2, 4, 7] [] true ([], []) = some mf51 := by kernel_rfl
theorem at51 : Try.prog.funcs[86]? = some Try.f86 := by kernel_rfl
def mf52 : MFun := ⟨2, 6, .seq (.region [⟨some 2, .box (.var 0), none⟩, ⟨some 3, .box (.var 1), none⟩, ⟨some 4, .alloc 2 (.agg [.int .i64 0, .bool false]), none⟩]) (.seq (.seq (.region [⟨none, .fieldAddr 1 (.var 2), none⟩, ⟨none, .load false 1 (.tmp 0), none⟩, ⟨none, .un .not (.tmp 1), none⟩, ⟨none, .mv (.tmp 2), none⟩, ⟨none, .fieldAddr 1 (.var 3), some (.tmp 3, false)⟩, ⟨none, .load false 1 (.tmp 4), some (.tmp 3, false)⟩, ⟨none, .mv (.tmp 5), some (.tmp 3, false)⟩, ⟨none, .fieldAddr 0 (.var 3), some (.tmp 6, true)⟩, ⟨none, .load false 1 (.tmp 7), some (.tmp 6, true)⟩, ⟨none, .fieldAddr 0 (.var 2), some (.tmp 6, true)⟩, ⟨none, .load false 1 (.tmp 9), some (.tmp 6, true)⟩, ⟨none, .bin .gtr (.tmp 8) (.tmp 10), some (.tmp 6, true)⟩, ⟨none, .pick (.tmp 6) (.tmp 11) (.cst (.bool false)), some (.tmp 3, false)⟩, ⟨some 5, .pick (.tmp 3) (.cst (.bool true)) (.tmp 12), none⟩]) (.cond (.var 5) (.seq (.region [⟨none, .load true 2 (.var 3), none⟩, ⟨none, .store 2 (.var 4) (.tmp 0), none⟩]) .ret) .skip)) (.seq (.region [⟨none, .load true 2 (.var 2), none⟩, ⟨none, .store 2 (.var 4) (.tmp 0), none⟩]) .ret)), [.cell 4 true 2]⟩
set_option maxHeartbeats 4000000 in
theorem comp52 : compFun Try.prog Try.f88 2 [0, 1, 2, 3, 4, 18] [] true ([], []) = some mf52 := by kernel_rfl
theorem at52 : Try.prog.funcs[88]? = some Try.f88 := by kernel_rfl
end Cy
end Go.Proofs.Ytemklhljjaniaaa
