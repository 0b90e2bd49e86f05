/-
  Loops over functions: what a yield does; the loop itself. Program-independent.
-/
import Derived.Test.YtnpmfpcppkdniaaDoorEv17
namespace Go.Proofs.YtnpmfpcppkdniaaDoor
open Go
section
variable {P : Program} {E : Env} {N : Nat} {vs : List Nat} {base : Nat} {rd : Option Nat} {n : Nat}

/-- the world, and what is related in it, after the record's turn -/
theorem Ext.putLoop {w w3 : World} {OK OK3 : Nat → Prop} {g g3 : Ghost} (h : Ext w OK g w3 OK3 g3) {n0 : Nat} {inc : Inc} (hg : g n0 = [inc]) {r0 : Loop} (hr : w.heap[inc.b]? = some (.loop r0)) (h0 : r0.state ≠ .busy) (o : Obj) :
    Ext w OK g (w3.putObj inc.b o) OK3 g3 where
  os := h.os
  tape := h.tape
  output := h.output
  size := by simpa using h.size
  blk b hb hu := (World.putObj_heap_other (fun e => hu n0 inc (by rw [hg]; simp) e.symm)).trans (h.blk b hb hu)
  gle := h.gle
  okle := h.okle
  fresh := h.fresh
  okf := h.okf
  loops b r hb hbusy := (World.putObj_heap_other (fun e => by
    rw [e, hr] at hb; injection hb with hb; injection hb with hb; rw [hb] at h0; exact h0 hbusy)).trans (h.loops b r hb hbusy)
  fix := h.fix

theorem yieldH_sound (hvn : vs.Nodup) (hvl : ∀ t ∈ vs, t < N) {n0 l : Nat} {r0 : Loop} {σ : List AV} {is : List Nat} {asg bdy : List AV → Arena → Option Out} {tm : Array Value}
    (hr0 : r0.state = .ready ∧ r0.pending = none) (htm : r0.tmps = tm) (hN : tm.size = N) (hlen : σ.length = vs.length) (his : idxAll vs r0.params.toList = some is) (hh : HSound P E.glob E.ys E.hand)
    (ha : ∀ (m : Nat) (σ : List AV) (A : Arena) (out : Out) (a : Act) (w : World) (OK : Nat → Prop) (g : Ghost), SRel E N vs 0 w OK g σ A a → asg σ A = some out → r0.assign.wpIn (FW (some l)) m P (OutOk E N vs 0 w OK g out) a w)
    (hb : ∀ (m : Nat) (σ : List AV) (A : Arena) (out : Out) (a : Act) (w : World) (OK : Nat → Prop) (g : Ghost), SRel E N vs 0 w OK g σ A a → bdy σ A = some out → r0.body.wpIn (FW (some l)) m P (OutOk E N vs 0 w OK g out) a w) :
    HSound P E.glob (⟨n0, l, vs.map (tm.getD · undef), σ⟩ :: E.ys) (yieldH n0 l r0 σ is asg bdy E.hand) := by
  intro fv args A r A' he w OK g v us hA hI hv hl
  have hsub : ∀ y ∈ E.ys, y ∈ (⟨n0, l, vs.map (tm.getD · undef), σ⟩ :: E.ys) := fun y hy => List.mem_cons_of_mem _ hy
  have other : E.hand fv args A = some (r, A') → CallOk P w OK g ((do let d ← Deferred.ofValue v us.toArray; invoke d.target d.args : Sem Next).run P w) r A' := fun he => hh.sub hsub _ _ _ _ _ he w OK g v us hA hI hv hl
  unfold yieldH at he
  split at he
  · rename_i l'
    split at he
    · rename_i hll
      subst hll
      split at he
      · rename_i r' k hAn
        split at he
        · rename_i hrk
          obtain ⟨rfl, rfl⟩ := hrk
          split at he
          · rename_i σ1 hset
            split at he
            · rename_i σ2 A2 hasg
              split at he
              · rename_i hA2
                obtain ⟨⟨inc, hg1, hg2, hg3⟩, hvals⟩ := hI.2 _ (List.mem_cons_self ..)
                simp only at hg1 hg2 hvals
                subst hg2
                have hn0 : n0 < A.length := (List.getElem?_eq_some_iff.1 hAn).1
                have hent := hA.ent n0 hn0
                rw [(List.getElem?_eq_some_iff.1 hAn).2] at hent
                obtain ⟨inc', e1, _, hheap⟩ := hent
                rw [hg1] at e1
                simp at e1; subst e1
                have hrec : recOf r' 0 = r' := by
                  obtain ⟨h1, h2⟩ := hr0
                  cases r'; simp only at h1 h2; subst h1; subst h2; rfl
                rw [hrec] at hheap
                -- the call
                obtain ⟨vs1, vs2, vals1, vals2, rfl, hl1, hl2, -, -, -, -⟩ := hv.inv_func
                simp at hl1 hl2
                subst hl1; subst hl2
                obtain ⟨t1, t2, t3, t4⟩ := setAll_sound hvn hvl r'.params.toList is us args σ σ1 tm his hset hl hN hlen (fun i hi => by
                  have := hvals.get i (by simpa using hi) (by rw [hlen]; exact hi)
                  simpa [List.getD_eq_getElem?_getD, List.getElem?_eq_getElem (show i < σ.length by rw [hlen]; exact hi)] using this)
                have hy := run_yield (P := P) (args := us.toArray) (hheap) (by simpa using t1)
                refine .inr (.inr ⟨inc.b, r'.fn, (r'.params.zip us.toArray).foldl (fun tmps (t, a) => tmps.setIfInBounds t a) r'.tmps, r'.assign, r'.body, ?_, ?_⟩)
                · simp only [Deferred.ofValue, Sem.run_bind, Sem.run_pure, Result.andThen_ok, invoke]
                  simpa using hy
                intro rd m
                have hs0 : SRel E N vs 0 w OK g σ1 A { tmps := (r'.params.zip us.toArray).foldl (fun tmps x => tmps.setIfInBounds x.1 x.2) r'.tmps, defers := [] } := by
                  have hf : (r'.params.zip us.toArray).foldl (fun tmps x => tmps.setIfInBounds x.1 x.2) r'.tmps = (r'.params.toList.zip us).foldl (fun tmps x => tmps.setIfInBounds x.1 x.2) tm := by
                    rw [← Array.foldl_toList, htm]; simp
                  rw [hf]
                  exact ⟨t2, trivial, Nat.zero_le _, t3, t4, hA, hI.sub hsub⟩
                refine roundIn_of_wpIn (F := FW rd) trivial (wpIn_mono (ha m σ1 A _ _ w OK g hs0 hasg) ?_)
                intro e a1 w1 hq
                cases e <;> simp only [OutOk] at hq
                obtain ⟨OK1, g1, hs1, hx1⟩ := hq
                have hg1' : g1 n0 = [inc] := (hx1.fix n0 inc (by rw [hg1]; simp) hg3).trans hg1
                have hn1 : n0 < A2.length := (List.getElem?_eq_some_iff.1 hA2).1
                have hent1 := hs1.arena.ent n0 hn1
                rw [(List.getElem?_eq_some_iff.1 hA2).2] at hent1
                obtain ⟨inc', e1, _, hheap1⟩ := hent1
                rw [hg1'] at e1
                simp at e1; subst e1
                rw [hrec] at hheap1
                have hlt1 : inc.b < w1.heap.size := (Array.getElem?_eq_some_iff.1 hheap1).1
                refine ⟨w1.putObj inc.b (.loop { r' with state := .busy }), run_beginRound hheap1 hr0.1, ?_⟩
                obtain ⟨u1, u2⟩ := hs1.arena.turn (w' := w1.putObj inc.b (.loop { r' with state := .busy })) (g' := g1) n0 hn1 (by rw [hA2]; simp) inc (by rw [hg1']; simp) (by simp) rfl rfl rfl (fun b hne => World.putObj_heap_other hne)
                  (fun r2 hr2 hbusy => by rw [hheap1] at hr2; injection hr2 with hr2; injection hr2 with hr2; rw [← hr2, hr0.1] at hbusy; cases hbusy) g1.le_refl (fun _ _ => rfl) (fun i hi => ⟨i, hi, rfl⟩)
                  (fun i i' hi hi' _ => by rw [hg1'] at hi hi'; simp at hi hi'; rw [hi, hi']) .dead (fun _ => trivial) (fun _ => rfl)
                have hs2 := hs1.ext u2 u1
                have hbusy2 : (w1.putObj inc.b (.loop { r' with state := .busy })).heap[inc.b]? = some (.loop { r' with state := .busy }) := World.putObj_heap_same hlt1
                -- behind the body
                have fin : ∀ (k : Nat) (jump : Option Code) (σ3 : List AV) (A3 : Arena) (a3 : Act) (w3 : World) (OK3 : Nat → Prop) (g3 : Ghost), SRel E N vs 0 w3 OK3 g3 σ3 A3 a3 → Ext (w1.putObj inc.b (.loop { r' with state := .busy })) OK1 g1 w3 OK3 g3 →
                    recOf r' k = { r' with state := if jump.isNone then .ready else .done, pending := jump } →
                    ∃ v w', (Instr.endRound inc.b jump).run P w3 = .ok v w' ∧ ∃ v' OK' g', Ending.returned v = .returned v' ∧ VRel w' OK' g' v' (.bool jump.isNone) ∧ ARel w' OK' g' (A3.set n0 (.loop r' k)) ∧ Ext w OK g w' OK' g' := by
                  intro k jump σ3 A3 a3 w3 OK3 g3 hs3 hx3 hrk
                  have hb3 := hx3.loops _ _ hbusy2 rfl
                  have hg3' : g3 n0 = [inc] := (hx3.fix n0 inc (by rw [hg1']; simp) hg3).trans hg1'
                  have := run_endRound (P := P) jump hb3
                  refine ⟨_, _, this, .bool jump.isNone, OK3, g3, rfl, .bool _ _, ?_, ?_⟩
                  · have hrv := hs3.arena.revive hg3' hg3 hb3 rfl r' k
                    rw [hrk] at hrv
                    exact hrv
                  · exact ((hx1.trans u2).trans hx3).putLoop hg1 hheap (by rw [hr0.1]; simp) _
                split at he
                · rename_i σ3 A3 hbd
                  injection he with he; injection he with he1 he2; subst he1; subst he2
                  refine wpIn_mono (hb m σ2 (A2.set n0 .dead) _ a1 _ OK1 g1 hs2 hbd) ?_
                  intro e a3 w3 hq
                  cases e <;> simp only [OutOk] at hq
                  obtain ⟨OK3, g3, hs3, hx3⟩ := hq
                  exact fin 0 none σ3 A3 a3 w3 OK3 g3 hs3 hx3 rfl
                · rename_i σ3 A3 hbd
                  injection he with he; injection he with he1 he2; subst he1; subst he2
                  refine wpIn_mono (hb m σ2 (A2.set n0 .dead) _ a1 _ OK1 g1 hs2 hbd) ?_
                  intro e a3 w3 hq
                  cases e <;> simp only [OutOk] at hq
                  obtain ⟨OK3, g3, hs3, hx3⟩ := hq
                  exact fin 1 (some .ret) σ3 A3 a3 w3 OK3 g3 hs3 hx3 rfl
                · rename_i id σ3 A3 hbd
                  injection he with he; injection he with he1 he2; subst he1; subst he2
                  refine wpIn_mono (hb m σ2 (A2.set n0 .dead) _ a1 _ OK1 g1 hs2 hbd) ?_
                  intro e a3 w3 hq
                  cases e <;> simp only [OutOk] at hq
                  obtain ⟨hid, OK3, g3, hs3, hx3⟩ := hq
                  subst hid
                  exact fin (id + 2) (some (.exit id)) σ3 A3 a3 w3 OK3 g3 hs3 hx3 (by unfold recOf; rw [if_neg (by omega), if_neg (by omega)]; simp)
                · cases he
              · cases he
            · cases he
          · cases he
        · cases he
      · cases he
    · exact other he
  · exact other he
end
end Go.Proofs.YtnpmfpcppkdniaaDoor
