/-
  Functions: what is compiled, evaluation, contracts. Program-independent.
-/
import Derived.Test.YtnpmfpcppkdniaaDoorEv18
namespace Go.Proofs.YtnpmfpcppkdniaaDoor
open Go

inductive MRes where
  | tmp (i : Nat)
  | cell (i : Nat) (agg : Bool) (size : Nat)

structure MFun where
  n : Nat
  len : Nat
  mc : MC
  res : List MRes

def compRes (P : Program) (vs : List Nat) : List ResultVar → Option (List MRes)
  | [] => some []
  | .tmp t :: r => match vs.idxOf? t, compRes P vs r with
    | some i, some l => some (.tmp i :: l)
    | _, _ => none
  | .cell a t :: r => match vs.idxOf? a, P.info? t, isAggB P t, compRes P vs r with
    | some i, some ti, some b, some l => some (.cell i b ti.size :: l)
    | _, _, _, _ => none

def nodupB : List Nat → Bool
  | [] => true
  | x :: r => !r.contains x && nodupB r

def compFun (P : Program) (fn : Func) (n : Nat) (vs : List Nat) (pu : List FuncId) (hints : Hints) : Option MFun :=
  match fn.body with
  | some c => match compRes P vs fn.results.toList with
    | some rs => if nodupB vs && vs.all (· < fn.ntmps) && vs.take n == List.range n && Nat.ble n fn.ntmps && !(fn.name == "runtime.NumGoroutine") then some ⟨n, vs.length, (compC P fn.ntmps vs pu false c hints).1, rs⟩ else none
    | none => none
  | none => none

def evRes (A : Arena) (σ : List AV) : List MRes → Option (List AV)
  | [] => some []
  | .tmp i :: r => (evRes A σ r).map (σ.getD i .undef :: ·)
  | .cell i b s :: r => match evLoad b s A (σ.getD i .undef), evRes A σ r with
    | some a, some l => some (a :: l)
    | _, _ => none

def pack : List AV → AV
  | [a] => a
  | l => .tup l

noncomputable def evFun (E : Env) (fuel : Nat) (mf : MFun) (args : List AV) (A : Arena) : Option (AV × Arena) :=
  if args.length = mf.n then
    match evC E fuel mf.mc (args ++ List.replicate (mf.len - mf.n) .undef) A with
    | some (.normal σ A') => (evRes A' σ mf.res).map fun l => (pack l, A')
    | some (.ret σ A') => (evRes A' σ mf.res).map fun l => (pack l, A')
    | _ => none
  else none

/-- A function, called, under a handling of yields: it leaves what 'M' says. -/
def FnSpecY (P : Program) (G : Nat → Option (List AV)) (f : FuncId) (M : Handler → List AV → Arena → Option (AV × Arena)) : Prop :=
  Enters P f ∧ ∀ ys h, HSound P G ys h → ∀ args A r A', M h args A = some (r, A') → ∀ (w : World) (OK : Nat → Prop) (g : Ghost) (vs : List Value), ARel w OK g A → IRel G ys w OK g → ListRel w OK g vs args →
    Calls P f vs.toArray w fun e w' => ∃ v OK' g', e = .returned v ∧ VRel w' OK' g' v r ∧ ARel w' OK' g' A' ∧ Ext w OK g w' OK' g'

/-- A function, called: it leaves what 'M' says. -/
def FnSpec (P : Program) (G : Nat → Option (List AV)) (f : FuncId) (M : List AV → Arena → Option (AV × Arena)) : Prop :=
  Enters P f ∧ ∀ args A r A', M args A = some (r, A') → ∀ (w : World) (OK : Nat → Prop) (g : Ghost) (vs : List Value), ARel w OK g A → GRel G w OK → ListRel w OK g vs args →
    Calls P f vs.toArray w fun e w' => ∃ v OK' g', e = .returned v ∧ VRel w' OK' g' v r ∧ ARel w' OK' g' A' ∧ Ext w OK g w' OK' g'

theorem FnSpec.y {P : Program} {G : Nat → Option (List AV)} {f : FuncId} {M : List AV → Arena → Option (AV × Arena)} (h : FnSpec P G f M) : FnSpecY P G f (fun _ => M) :=
  ⟨h.1, fun _ _ _ args A r A' he w OK g vs hA hI hl => h.2 args A r A' he w OK g vs hA hI.1 hl⟩
theorem FnSpecY.plain {P : Program} {G : Nat → Option (List AV)} {f : FuncId} {M : Handler → List AV → Arena → Option (AV × Arena)} (h : FnSpecY P G f M) : FnSpec P G f (M fun _ _ _ => none) :=
  ⟨h.1, fun args A r A' he w OK g vs hA hG hl => h.2 [] (fun _ _ _ => none) (fun _ _ _ _ _ h => by cases h) args A r A' he w OK g vs hA ⟨hG, fun y hy => by cases hy⟩ hl⟩

section
variable {P : Program} {E : Env}

theorem nodupB_iff : ∀ {l : List Nat}, nodupB l = true → l.Nodup
  | [], _ => List.nodup_nil
  | x :: r, h => by
    simp only [nodupB, Bool.and_eq_true, Bool.not_eq_true', List.contains_eq_mem, decide_eq_false_iff_not] at h
    exact List.nodup_cons.2 ⟨h.1, nodupB_iff h.2⟩

def resOne (tmps : Array Value) : ResultVar → Sem Value
  | .tmp t => pure (tmps.getD t undef)
  | .cell a t => do loadVar t (← asAddr (tmps.getD a undef))

theorem compRes_sound {vs : List Nat} {N : Nat} {base : Nat} {w : World} {OK : Nat → Prop} {g : Ghost} {σ : List AV} {A : Arena} {a : Act} (h : SRel E N vs base w OK g σ A a) :
    ∀ (rs : List ResultVar) (ms : List MRes) (l : List AV), compRes P vs rs = some ms → evRes A σ ms = some l →
      ∃ us : List Value, ListRel w OK g us l ∧ (rs.mapM (resOne a.tmps)).run P w = .ok us w
  | [], ms, l, hc, he => by
    injection hc with hc; subst hc
    injection he with he; subst he
    exact ⟨[], trivial, rfl⟩
  | .tmp t :: r, ms, l, hc, he => by
    simp only [compRes] at hc
    split at hc
    · rename_i i l' hi hl'
      injection hc with hc; subst hc
      simp only [evRes, Option.map_eq_some_iff] at he
      obtain ⟨l2, h2, rfl⟩ := he
      obtain ⟨us, k1, k2⟩ := compRes_sound h r l' l2 hl' h2
      obtain ⟨hlt, het⟩ := List.idxOf?_eq_some_iff.1 hi |> fun h => (⟨h.1, h.2.1⟩ : ∃ h : i < vs.length, vs[i] = t)
      refine ⟨a.tmps.getD t undef :: us, ⟨by rw [← het]; exact h.vars i hlt, k1⟩, ?_⟩
      simp [List.mapM_cons, resOne, k2]
    · cases hc
  | .cell x t :: r, ms, l, hc, he => by
    simp only [compRes] at hc
    split at hc
    · rename_i i ti b l' hi hti hb hl'
      injection hc with hc; subst hc
      simp only [evRes] at he
      split at he
      · rename_i y l2 h1 h2
        injection he with he; subst he
        obtain ⟨us, k1, k2⟩ := compRes_sound h r l' l2 hl' h2
        obtain ⟨hlt, het⟩ := List.idxOf?_eq_some_iff.1 hi |> fun h => (⟨h.1, h.2.1⟩ : ∃ h : i < vs.length, vs[i] = x)
        have hv := h.vars i hlt
        rw [het] at hv
        obtain ⟨u, e1, e2⟩ := evLoad_sound hti hb h.arena hv h1
        refine ⟨u :: us, ⟨e2, k1⟩, ?_⟩
        have e1' : (resOne a.tmps (.cell x t)).run P w = .ok u w := by
          have hp : ∃ ad, a.tmps.getD x undef = .pointer (some ad) := by
            generalize σ.getD i .undef = y1 at h1 hv
            cases y1 <;> first | (simp [evLoad] at h1; done) | (obtain ⟨inc, _, e, _⟩ := hv.inv_ptr; exact ⟨_, e⟩) | (obtain ⟨b, o, T, c, fz, vals, e, _⟩ := hv.inv_fp; exact ⟨_, e⟩)
          obtain ⟨ad, hp⟩ := hp
          rw [hp] at e1
          simp only [resOne, hp]
          exact e1
        simp [List.mapM_cons, e1', k2]
      · cases he
    · cases hc

/-- A block of which nothing speaks. -/
theorem ARel.putFree {w : World} {OK : Nat → Prop} {g : Ghost} {A : Arena} (h : ARel w OK g A) {D : Nat} (h1 : ¬ OK D) (h2 : ∀ id inc, inc ∈ g id → inc.b ≠ D) (o : Obj) : ARel (w.putObj D o) OK g A where
  ent id hi := (h.ent id hi).mono (fun _ h => h) (fun b hb => World.putObj_heap_other (fun e => h1 (e ▸ hb))) g.le_refl (fun inc hin => World.putObj_heap_other (h2 id inc hin))
  out := h.out
  one := h.one
  apart := h.apart
  low id inc hi := by simpa using h.low id inc hi
  ok b hb := by simpa using h.ok b hb

theorem Marks.put {base : Nat} {w : World} {OK : Nat → Prop} {g : Ghost} {D : Nat} (o : Obj) : ∀ {l : List Deferred}, (∀ d' ∈ l, d' ≠ ⟨.collected D, #[]⟩) → Marks base w OK g l → Marks base (w.putObj D o) OK g l
  | [], _, _ => trivial
  | d :: r, hd, ⟨⟨D', h1, h2, h3, h4, h5, h6⟩, hr⟩ =>
    ⟨⟨D', h1, h2, (World.putObj_heap_other (fun e => hd d (by simp) (by rw [h1, e]))).trans h3, h4, h5, h6⟩, Marks.put o (fun d' h => hd d' (by simp [h])) hr⟩

/-- the function's end: the marks are come to, the results are read -/
theorem leaves_sound {N : Nat} {vs : List Nat} {fn : Func} {mrs : List MRes} {w0 : World} {OK0 : Nat → Prop} {g0 : Ghost} {σ : List AV} {A : Arena} {l : List AV} {tm : Array Value} {R : Ending → World → Prop}
    (hcr : compRes P vs fn.results.toList = some mrs) (hl : evRes A σ mrs = some l)
    (hR : ∀ v w OK g, VRel w OK g v (pack l) → ARel w OK g A → Ext w0 OK0 g0 w OK g → R (.returned v) w) :
    ∀ (ds : List Deferred) (w : World) (OK : Nat → Prop) (g : Ghost), SRel E N vs w0.heap.size w OK g σ A { tmps := tm, defers := ds } → Ext w0 OK0 g0 w OK g → LeavesInM Fence.wide 0 P fn tm R ds .returning w
  | [], w, OK, g, hs, hx => by
    obtain ⟨us1, k1, k2⟩ := compRes_sound hs fn.results.toList mrs l hcr hl
    refine ⟨if h : us1.toArray.size = 1 then us1.toArray[0] else .tuple us1.toArray, ?_, hR _ w OK g ?_ hs.arena hx⟩
    · show (do
        let vs ← fn.results.mapM (resOne tm)
        pure (if h : vs.size = 1 then vs[0] else .tuple vs) : Sem Value).run P w = _
      rw [Array.mapM_eq_mapM_toList]
      simp [k2]
    · have hlen := k1.length
      match us1, l, k1 with
      | [], [], k1 => exact .tup _ _ [] rfl (fun _ => undef) (fun i hi => by simp at hi) (fun i hi => by simp at hi)
      | [u], [a1], k1 => exact k1.1
      | u1 :: u2 :: ur, a1 :: a2 :: ar, k1 =>
        have : ¬ (u1 :: u2 :: ur).toArray.size = 1 := by simp
        rw [dif_neg this]
        refine .tup _ _ _ (by simpa using hlen) (fun i => (u1 :: u2 :: ur).getD i undef) (fun i hi => ?_) (fun i hi => ?_)
        · have : i < (u1 :: u2 :: ur).length := by simp at hlen hi ⊢; omega
          rw [List.getElem?_toArray, List.getElem?_eq_getElem this]
          simp [List.getD_eq_getElem?_getD, List.getElem?_eq_getElem this]
        · have : i < (u1 :: u2 :: ur).length := by simp at hlen hi ⊢; omega
          have := k1.get i this hi
          simpa [List.getD_eq_getElem?_getD, List.getElem?_eq_getElem ‹i < (u1 :: u2 :: ur).length›] using this
  | d :: ds, w, OK, g, hs, hx => by
    obtain ⟨⟨D, rfl, h2, h3, h4, h5, h6⟩, hr⟩ := hs.defers
    refine ⟨by simp, .inl ⟨D, w.putObj D (.deferred none), rfl, run_takeDeferred h3, ?_⟩⟩
    have hok : ∀ b, OK b → (w.putObj D (.deferred none)).heap[b]? = w.heap[b]? := fun b hb => World.putObj_heap_other (fun e => h4 (e ▸ hb))
    have hm : ∀ {v : Value} {a : AV}, VRel w OK g v a → VRel (w.putObj D (.deferred none)) OK g v a := fun h => h.mono (fun _ h => h) hok g g.le_refl
    refine leaves_sound hcr hl hR ds _ OK g ⟨hs.size, hr.put _ h6, by simpa using hs.low, hs.len, fun i hi => hm (hs.vars i hi), hs.arena.putFree h4 h5 _,
      ⟨fun gl cs hg => (hs.glob.1 gl cs hg).mono (fun _ h => h) hok _ (Ghost.le_refl _), fun y hy => ⟨(hs.glob.2 y hy).1, (hs.glob.2 y hy).2.mono fun _ _ hv => hm hv⟩⟩⟩ ?_
    exact { os := hx.os, tape := hx.tape, output := hx.output, size := by simpa using hx.size, blk := fun b hb hu => (World.putObj_heap_other (by omega)).trans (hx.blk b hb hu), gle := hx.gle, okle := hx.okle, fresh := hx.fresh, okf := hx.okf,
            loops := fun b r hb hbusy => (World.putObj_heap_other (by have := (Array.getElem?_eq_some_iff.1 hb).1; omega)).trans (hx.loops b r hb hbusy), fix := hx.fix }

theorem evFun_calls (hE : EnvSound P E) {f : FuncId} {fn : Func} {n : Nat} {vs : List Nat} {pu : List FuncId} {hints : Hints} {mf : MFun} {fuel : Nat} (hf : P.funcs[f]? = some fn) (hc : compFun P fn n vs pu hints = some mf) (hpu : PureIn E pu) :
    Enters P f ∧ ∀ args A r A', evFun E fuel mf args A = some (r, A') → ∀ (w : World) (OK : Nat → Prop) (g : Ghost) (us : List Value), ARel w OK g A → IRel E.glob E.ys w OK g → ListRel w OK g us args →
    Calls P f us.toArray w fun e w' => ∃ v OK' g', e = .returned v ∧ VRel w' OK' g' v r ∧ ARel w' OK' g' A' ∧ Ext w OK g w' OK' g' := by
  unfold compFun at hc
  split at hc
  · rename_i c hb
    split at hc
    · rename_i rs hcr
      split at hc
      · rename_i hck
        injection hc with hc; subst hc
        simp only [Bool.and_eq_true, Bool.not_eq_true', List.all_eq_true, decide_eq_true_eq, beq_iff_eq] at hck
        obtain ⟨⟨⟨⟨h1, h2⟩, h3⟩, h4⟩, h5⟩ := hck
        have h4 : n ≤ fn.ntmps := Nat.le_of_ble_eq_true h4
        refine ⟨enters_of hf h5 hb, ?_⟩
        intro args A r A' he w OK g us hA hG hl
        unfold evFun at he
        split at he
        · rename_i hlen
          simp only at hlen
          have hul := hl.length
          have hvn := nodupB_iff h1
          have hnv : n ≤ vs.length := by
            have := congrArg List.length h3
            simp at this; omega
          have hvi : ∀ i (hi : i < n), vs[i]'(by omega) = i := fun i hi => by
            have := congrArg (fun l => l[i]?) h3
            simp [List.getElem?_take, hi, List.getElem?_range] at this
            have h' : i < vs.length := by omega
            simpa [h'] using this
          have hs0 : SRel E fn.ntmps vs w.heap.size w OK g (args ++ List.replicate (vs.length - n) .undef) A { tmps := us.toArray ++ Array.replicate (fn.ntmps - us.toArray.size) undef, defers := [] } := by
            refine ⟨by simp; omega, trivial, Nat.le_refl _, by simp; omega, fun i hi => ?_, hA, hG⟩
            rcases Nat.lt_or_ge i n with hlt | hge
            · have e1 := hvi i hlt
              rw [e1]
              have : i < us.length := by omega
              have e2 : (us.toArray ++ Array.replicate (fn.ntmps - us.toArray.size) undef).getD i undef = us[i] := by
                simp [Array.getD_eq_getD_getElem?, Array.getElem?_append, this]
              have e3 : (args ++ List.replicate (vs.length - n) AV.undef).getD i .undef = args[i]'(by omega) := by
                simp [List.getD_eq_getElem?_getD, List.getElem?_append, show i < args.length by omega]
              rw [e2, e3]
              exact hl.get i this (by omega)
            · have e3 : (args ++ List.replicate (vs.length - n) AV.undef).getD i .undef = .undef := by
                simp [List.getD_eq_getElem?_getD, List.getElem?_append, show ¬ i < args.length by omega, List.getElem?_replicate]
                split <;> rfl
              rw [e3]; exact .undef _ _
          have fin : ∀ (out : Out) (σ : List AV), evC E fuel (compC P fn.ntmps vs pu false c hints).1 (args ++ List.replicate (vs.length - n) .undef) A = some out → (out = .normal σ A' ∨ out = .ret σ A') → (∃ l, evRes A' σ rs = some l ∧ pack l = r) →
              Calls P f us.toArray w fun e w' => ∃ v OK' g', e = .returned v ∧ VRel w' OK' g' v r ∧ ARel w' OK' g' A' ∧ Ext w OK g w' OK' g' := by
            intro out σ hev hout ⟨l, hl1, hl2⟩
            have hw := evC_sound hE hvn h2 hpu fuel c false none w.heap.size 0 (fun _ => rfl) hints _ A out _ w OK g hs0 hev
            refine callsIn_wide (n := 0).1 (callsIn_of_wp_marks (F := Fence.wide) hf hb trivial (wpIn_mono hw ?_))
            intro e a w1 hq
            have key : ∀ OK1 g1, SRel E fn.ntmps vs w.heap.size w1 OK1 g1 σ A' a → Ext w OK g w1 OK1 g1 →
                LeavesInM Fence.wide 0 P fn a.tmps (fun e w' => ∃ v OK' g', e = .returned v ∧ VRel w' OK' g' v r ∧ ARel w' OK' g' A' ∧ Ext w OK g w' OK' g') a.defers .returning w1 := by
              intro OK1 g1 hs1 hx1
              exact leaves_sound hcr hl1 (fun v w' OK' g' k1 k2 k3 => ⟨v, OK', g', rfl, hl2 ▸ k1, k2, k3⟩) a.defers w1 OK1 g1 hs1 hx1
            rcases hout with rfl | rfl
            · cases e <;> simp only [OutOk] at hq
              obtain ⟨OK1, g1, q1, q2⟩ := hq
              exact key OK1 g1 q1 q2
            · cases e <;> simp only [OutOk] at hq
              obtain ⟨OK1, g1, q1, q2⟩ := hq
              exact key OK1 g1 q1 q2
          simp only at he
          split at he
          · rename_i σ A1 hev
            simp only [Option.map_eq_some_iff, Prod.mk.injEq] at he
            obtain ⟨l, e1, e2, rfl⟩ := he
            exact fin _ σ hev (.inl rfl) ⟨l, e1, e2⟩
          · rename_i σ A1 hev
            simp only [Option.map_eq_some_iff, Prod.mk.injEq] at he
            obtain ⟨l, e1, e2, rfl⟩ := he
            exact fin _ σ hev (.inr rfl) ⟨l, e1, e2⟩
          · cases he
        · cases he
      · cases hc
    · cases hc
  · cases hc

/-! ### the evaluation does not look at the loops under way -/

theorem evX_ys (ys' : List Yld) (σ T : List AV) (x : MX) : evX { E with ys := ys' } σ T x = evX E σ T x := by cases x <;> rfl
theorem evOps_ys (ys' : List Yld) : ∀ (l : List MO) (σ T : List AV) (A : Arena), evOps { E with ys := ys' } l σ T A = evOps E l σ T A
  | [], σ, T, A => rfl
  | o :: l, σ, T, A => by
    have hx : evX { E with ys := ys' } σ T = evX E σ T := funext fun x => evX_ys ys' σ T x
    have hs : ∀ (ρ : MX → AV) (m : MOp), evStep { E with ys := ys' } ρ A m = evStep E ρ A m := fun ρ m => by cases m <;> rfl
    simp only [evOps, hx, hs, evOps_ys ys' l]
theorem evC_ys (ys' : List Yld) (fuel : Nat) : ∀ c : MC, evC { E with ys := ys' } fuel c = evC E fuel c := by
  intro c
  have hx : ∀ σ T, evX { E with ys := ys' } σ T = evX E σ T := fun σ T => funext fun x => evX_ys ys' σ T x
  induction c with
  | region ops => funext σ A; simp only [evC, evOps_ys]
  | seq a b iha ihb => funext σ A; simp only [evC, iha, ihb]
  | cond c a b iha ihb => funext σ A; simp only [evC, iha, ihb, hx]
  | block id a iha => funext σ A; simp only [evC, iha]
  | loop mask a iha => funext σ A; simp only [evC, iha]
  | rangeFunc f ps a b iha ihb => funext σ A; simp only [evC, iha, ihb, hx]
  | scope a iha => funext σ A; simp only [evC, iha]
  | _ => rfl
theorem evFun_ys (ys' : List Yld) (fuel : Nat) (mf : MFun) (args : List AV) (A : Arena) : evFun { E with ys := ys' } fuel mf args A = evFun E fuel mf args A := by
  unfold evFun; simp only [evC_ys]
end
end Go.Proofs.YtnpmfpcppkdniaaDoor
