/-
  What is known of calls: functions by their models. Program-independent.
-/
import Derived.Test.YtnpmfpcppkdniaaDoorEv19
namespace Go.Proofs.YtnpmfpcppkdniaaDoor
open Go

abbrev Model := List AV → Arena → Option (AV × Arena)
abbrev PModel := List AV → Option AV

abbrev HModel := Handler → Model

def lookM : List (FuncId × HModel) → FuncId → Option HModel
  | [], _ => none
  | (g, M) :: r, f => if f = g then some M else lookM r f

def callM (fs : List (FuncId × HModel)) (h : Handler) : Handler := fun fv args A =>
  match fv with
  | .func (.func f) first cap => match lookM fs f with
    | some M => M h (first ++ args ++ cap) A
    | none => none
  | _ => none

/-- what is known of calls, yields being handled so -/
def envY (G : Nat → Option (List AV)) (fs : List (FuncId × HModel)) (h : Handler) : Env := ⟨callM fs, G, [], h⟩
def envOf (G : Nat → Option (List AV)) (fs : List (FuncId × HModel)) : Env := envY G fs fun _ _ _ => none

/-- A function that leaves no mark: of trees without references to such trees. -/
def PureSpec (P : Program) (G : Nat → Option (List AV)) (f : FuncId) (M : PModel) : Prop :=
  Enters P f ∧ ∀ args r, M args = some r → ∀ (w : World) (OK : Nat → Prop) (vs : List Value), (∀ b, OK b → b < w.heap.size) → GRel G w OK → ListRel w OK Ghost.none vs args →
    Calls P f vs.toArray w fun e w' => ∃ v OK', e = .returned v ∧ VRel w' OK' Ghost.none v r ∧ (∀ b, OK' b → b < w'.heap.size) ∧ Ext w OK Ghost.none w' OK' Ghost.none

/-- no reference at all -/
def scalarB : Nat → AV → Bool
  | _, .bool _ => true
  | _, .int .. => true
  | _, .str _ => true
  | _, .nilS => true
  | _, .nilP => true
  | _, .nilM => true
  | _, .nilF => true
  | _, .nilI => true
  | _, .undef => true
  | n + 1, .agg cs => cs.all (scalarB n)
  | n + 1, .tup cs => cs.all (scalarB n)
  | n + 1, .iface _ v => scalarB n v
  | _, _ => false

/-- no reference into the arena -/
def noRefB : Nat → AV → Bool
  | _, .bool _ => true
  | _, .int .. => true
  | _, .str _ => true
  | _, .nilS => true
  | _, .nilP => true
  | _, .nilM => true
  | _, .nilF => true
  | _, .nilI => true
  | _, .undef => true
  | _, .fs .. => true
  | _, .fp _ => true
  | n + 1, .agg cs => cs.all (noRefB n)
  | n + 1, .tup cs => cs.all (noRefB n)
  | n + 1, .func _ c1 c2 => c1.all (noRefB n) && c2.all (noRefB n)
  | n + 1, .iface _ v => noRefB n v
  | _, _ => false

/-- the model of a function that leaves no mark, among others -/
def pureM (n : Nat) (M : PModel) : Model := fun args A =>
  match M (args.map (frz A n)) with
  | some r => if scalarB n r || args.all (noRefB n) then some (r, A) else none
  | none => none

def pureH (n : Nat) (M : PModel) : HModel := fun _ => pureM n M

section
variable {P : Program} {G : Nat → Option (List AV)}

theorem scalarB_any {w w' : World} {OK OK' : Nat → Prop} {g g' : Ghost} : ∀ (n : Nat) (a : AV) (v : Value), scalarB n a = true → VRel w OK g v a → VRel w' OK' g' v a := by
  intro n
  induction n with
  | zero =>
    intro a v hs h
    cases a <;> simp only [scalarB, Bool.false_eq_true] at hs <;> first
      | exact .undef _ _
      | (have e := h.inv_bool; rw [e]; exact .bool _ _)
      | (have e := h.inv_int; rw [e]; exact .int _ _ _)
      | (obtain ⟨s, e, hs⟩ := h.inv_str; rw [e]; exact .str _ _ _ hs)
      | (obtain ⟨p, e⟩ := h.inv_nilS; rw [e]; exact .nilS _ _)
      | (have e := h.inv_nilP; rw [e]; exact .nilP _)
      | (have e := h.inv_nilM; rw [e]; exact .nilM _)
      | (cases h; exact .nilF _)
      | (cases h; exact .nilI _)
  | succ n ih =>
    intro a v hs h
    cases a <;> simp only [scalarB, Bool.false_eq_true] at hs <;> try first
      | exact .undef _ _
      | (have e := h.inv_bool; rw [e]; exact .bool _ _)
      | (have e := h.inv_int; rw [e]; exact .int _ _ _)
      | (obtain ⟨s, e, hs⟩ := h.inv_str; rw [e]; exact .str _ _ _ hs)
      | (obtain ⟨p, e⟩ := h.inv_nilS; rw [e]; exact .nilS _ _)
      | (have e := h.inv_nilP; rw [e]; exact .nilP _)
      | (have e := h.inv_nilM; rw [e]; exact .nilM _)
      | (cases h; exact .nilF _)
      | (cases h; exact .nilI _)
    case agg cs =>
      simp only [List.all_eq_true] at hs
      obtain ⟨vs, vals, rfl, hl, hg, hv⟩ := h.inv_agg
      exact .agg _ vs _ hl vals hg (fun i hi => ih _ _ (hs _ (List.getElem_mem hi)) (hv i hi))
    case tup cs =>
      simp only [List.all_eq_true] at hs
      obtain ⟨vs, vals, rfl, hl, hg, hv⟩ := h.inv_tup
      exact .tup _ vs _ hl vals hg (fun i hi => ih _ _ (hs _ (List.getElem_mem hi)) (hv i hi))
    case iface t x =>
      cases h with
      | iface _ t v a hv => exact .iface _ t v _ (ih _ _ hs hv)

theorem noRefB_none {w : World} {OK : Nat → Prop} {g : Ghost} {A : Arena} : ∀ (n : Nat) (a : AV) (v : Value), noRefB n a = true → VRel w OK g v a → VRel w OK Ghost.none v (frz A n a) := by
  intro n
  induction n with
  | zero =>
    intro a v hs h
    cases a <;> simp only [noRefB, Bool.false_eq_true] at hs <;> simp only [frz] <;> first
      | exact .undef _ _
      | (have e := h.inv_bool; rw [e]; exact .bool _ _)
      | (have e := h.inv_int; rw [e]; exact .int _ _ _)
      | (obtain ⟨s, e, hs⟩ := h.inv_str; rw [e]; exact .str _ _ _ hs)
      | (obtain ⟨p, e⟩ := h.inv_nilS; rw [e]; exact .nilS _ _)
      | (have e := h.inv_nilP; rw [e]; exact .nilP _)
      | (have e := h.inv_nilM; rw [e]; exact .nilM _)
      | (cases h; exact .nilF _)
      | (cases h; exact .nilI _)
      | (obtain ⟨b, o, cap, T, c, fz, vals, e, hb, hh, hcap, hv, hs, hc⟩ := h.inv_fs; rw [e]; exact .fs _ b o cap _ T c fz _ vals hb hh hcap hv hs hc)
      | (obtain ⟨b, o, T, c, fz, vals, e, hb, hh, hne, hv, hc⟩ := h.inv_fp; rw [e]; exact .fp _ b o T c fz _ vals hb hh hne hv hc)
  | succ n ih =>
    intro a v hs h
    cases a <;> simp only [noRefB, Bool.false_eq_true] at hs <;> simp only [frz] <;> try first
      | exact .undef _ _
      | (have e := h.inv_bool; rw [e]; exact .bool _ _)
      | (have e := h.inv_int; rw [e]; exact .int _ _ _)
      | (obtain ⟨s, e, hs⟩ := h.inv_str; rw [e]; exact .str _ _ _ hs)
      | (obtain ⟨p, e⟩ := h.inv_nilS; rw [e]; exact .nilS _ _)
      | (have e := h.inv_nilP; rw [e]; exact .nilP _)
      | (have e := h.inv_nilM; rw [e]; exact .nilM _)
      | (cases h; exact .nilF _)
      | (cases h; exact .nilI _)
      | (obtain ⟨b, o, cap, T, c, fz, vals, e, hb, hh, hcap, hv, hs, hc⟩ := h.inv_fs; rw [e]; exact .fs _ b o cap _ T c fz _ vals hb hh hcap hv hs hc)
      | (obtain ⟨b, o, T, c, fz, vals, e, hb, hh, hne, hv, hc⟩ := h.inv_fp; rw [e]; exact .fp _ b o T c fz _ vals hb hh hne hv hc)
    case agg cs =>
      simp only [List.all_eq_true] at hs
      obtain ⟨vs, vals, rfl, hl, hg, hv⟩ := h.inv_agg
      exact .agg _ vs _ (by simpa using hl) vals (fun i hi => hg i (by simpa using hi)) (fun i hi => by simp only [List.getElem_map]; exact ih _ _ (hs _ (List.getElem_mem _)) (hv i (by simpa using hi)))
    case tup cs =>
      simp only [List.all_eq_true] at hs
      obtain ⟨vs, vals, rfl, hl, hg, hv⟩ := h.inv_tup
      exact .tup _ vs _ (by simpa using hl) vals (fun i hi => hg i (by simpa using hi)) (fun i hi => by simp only [List.getElem_map]; exact ih _ _ (hs _ (List.getElem_mem _)) (hv i (by simpa using hi)))
    case func fn c1 c2 =>
      simp only [Bool.and_eq_true, List.all_eq_true] at hs
      obtain ⟨vs1, vs2, vals1, vals2, rfl, hl1, hl2, hg1, hg2, hv1, hv2⟩ := h.inv_func
      exact .func _ fn vs1 vs2 _ _ (by simpa using hl1) (by simpa using hl2) vals1 vals2 (fun i hi => hg1 i (by simpa using hi)) (fun i hi => hg2 i (by simpa using hi))
        (fun i hi => by simp only [List.getElem_map]; exact ih _ _ (hs.1 _ (List.getElem_mem _)) (hv1 i (by simpa using hi))) (fun i hi => by simp only [List.getElem_map]; exact ih _ _ (hs.2 _ (List.getElem_mem _)) (hv2 i (by simpa using hi)))
    case iface t x =>
      cases h with
      | iface _ t v a hv => exact .iface _ t v _ (ih _ _ hs hv)

theorem ListRel.map {w : World} {OK OK' : Nat → Prop} {g g' : Ghost} {vs : List Value} {l : List AV} {F : AV → AV} (h : ListRel w OK g vs l) (hm : ∀ v a, a ∈ l → VRel w OK g v a → VRel w OK' g' v (F a)) : ListRel w OK' g' vs (l.map F) := by
  induction vs generalizing l with
  | nil => cases l with
    | nil => exact trivial
    | cons a r => exact h.elim
  | cons v vs ih => cases l with
    | nil => exact h.elim
    | cons a r => exact ⟨hm v a (by simp) h.1, ih h.2 fun v a ha => hm v a (by simp [ha])⟩

theorem FnSpec.of_pure {f : FuncId} {M : PModel} (h : PureSpec P G f M) (n : Nat) : FnSpec P G f (pureM n M) := by
  refine ⟨h.1, ?_⟩
  intro args A r A' he w OK g vs hA hG hl
  unfold pureM at he
  split at he
  · rename_i r0 hM
    split at he
    · rename_i hc
      injection he with he
      injection he with e1 e2
      subst e1; subst e2
      by_cases hn : args.all (noRefB n) = true
      · have hn' := List.all_eq_true.1 hn
        refine (h.2 _ _ hM w OK vs hA.ok hG (hl.map fun v a ha hv => noRefB_none n a v (hn' a ha) hv)).mono ?_
        rintro e w' ⟨v, OK', rfl, hv, hok', hx⟩
        have hb : ∀ b, b < w.heap.size → w'.heap[b]? = w.heap[b]? := fun b hb => hx.blk b hb (fun _ _ (hi : _ ∈ []) => by cases hi)
        exact ⟨v, OK', g, rfl, hv.none_to, hA.keep hx.size hb OK' hx.okle hx.okf hok', hx.os, hx.tape, hx.output, hx.size, fun b hb' _ => hb b hb', g.le_refl, hx.okle, fun id inc hi => .inl ⟨id, inc, hi, rfl⟩, hx.okf, hx.loops, fun _ _ _ _ => rfl⟩
      · have hsc : scalarB n r0 = true := by simpa [hn] using hc
        have hok2 : ∀ b, (OK b ∨ ∃ id inc, inc ∈ g id ∧ inc.b = b) → b < w.heap.size := fun b hb => by
          rcases hb with hb | ⟨id, inc, hi, rfl⟩
          · exact hA.ok b hb
          · exact hA.low id inc hi
        have hl2 : ListRel w (fun b => OK b ∨ ∃ id inc, inc ∈ g id ∧ inc.b = b) Ghost.none vs (args.map (frz A n)) := hl.map fun v a _ hv => frz_sound hA (fun b hb => Or.inl hb) (fun id inc hi => Or.inr ⟨id, inc, hi, rfl⟩) n a v hv
        refine (h.2 _ _ hM w (fun b => OK b ∨ ∃ id inc, inc ∈ g id ∧ inc.b = b) vs hok2 (fun gl cs hg => (hG gl cs hg).mono (fun b hb => .inl hb) (fun _ _ => rfl) _ (Ghost.le_refl _)) hl2).mono ?_
        -- frz_sound hA (fun b hb => Or.inl hb) (fun id inc hi => Or.inr ⟨id, inc, hi, rfl⟩) n a v hv)).mono ?_
        rintro e w' ⟨v, OK', rfl, hv, hok', hx⟩
        have hb : ∀ b, b < w.heap.size → w'.heap[b]? = w.heap[b]? := fun b hb => hx.blk b hb (fun _ _ (hi : _ ∈ []) => by cases hi)
        exact ⟨v, OK, g, rfl, scalarB_any n _ _ hsc hv, hA.keep hx.size hb OK (fun _ h => h) (fun _ h => .inl h) (fun b hb => Nat.lt_of_lt_of_le (hA.ok b hb) hx.size), hx.os, hx.tape, hx.output, hx.size, fun b hb' _ => hb b hb', g.le_refl, fun _ h => h, fun id inc hi => .inl ⟨id, inc, hi, rfl⟩, fun _ h => .inl h, hx.loops, fun _ _ _ _ => rfl⟩
    · cases he
  · cases he

theorem ARel.nil {w : World} {OK : Nat → Prop} (h : ∀ b, OK b → b < w.heap.size) : ARel w OK Ghost.none [] :=
  ⟨fun id hi => by simp at hi, fun _ _ => rfl, fun _ _ _ _ _ _ (hi : _ ∈ []) => (by cases hi), fun _ _ (hi : _ ∈ []) => (by cases hi), fun _ _ (hi : _ ∈ []) => (by cases hi), h⟩

theorem PureSpec.of_fn {f : FuncId} {M' : Model} {M : PModel} (h : FnSpec P G f M') (n : Nat) (hM : ∀ args r, M args = some r → ∃ r0 A', M' args [] = some (r0, A') ∧ frz A' n r0 = r) : PureSpec P G f M := by
  refine ⟨h.1, ?_⟩
  intro args r he w OK vs hok hG hl
  obtain ⟨r0, A', h1, rfl⟩ := hM args r he
  refine (h.2 _ _ _ _ h1 w OK Ghost.none vs (ARel.nil hok) hG hl).mono ?_
  rintro e w' ⟨v, OK', g', rfl, hv, hA, hx⟩
  refine ⟨v, fun b => OK' b ∨ ∃ id inc, inc ∈ g' id ∧ inc.b = b, rfl, frz_sound hA (fun b hb => .inl hb) (fun id inc hi => .inr ⟨id, inc, hi, rfl⟩) n r0 v hv, ?_, ?_⟩
  · rintro b (hb | ⟨id, inc, hi, rfl⟩)
    · exact hA.ok b hb
    · exact hA.low id inc hi
  · refine ⟨hx.os, hx.tape, hx.output, hx.size, hx.blk, Ghost.le_refl _, fun b hb => .inl (hx.okle b hb), fun _ _ (hi : _ ∈ []) => (by cases hi), ?_, hx.loops, fun _ _ _ _ => rfl⟩
    rintro b (hb | ⟨id, inc, hi, rfl⟩)
    · exact hx.okf b hb
    · rcases hx.fresh id inc hi with ⟨_, _, h0, _⟩ | h1
      · cases h0
      · exact .inr h1

theorem PureIn.cons {fs : List (FuncId × HModel)} {h0 : Handler} {f : FuncId} {pu : List FuncId} {n : Nat} {M : PModel} (h : lookM fs f = some (pureH n M)) (hr : PureIn (envY G fs h0) pu) : PureIn (envY G fs h0) (f :: pu) := by
  intro k hk hh args A r A' he
  rcases List.mem_cons.1 hk with rfl | hk
  · simp only [envY, callM, h, pureH, pureM, List.nil_append, List.append_nil] at he
    split at he
    · split at he
      · simp only [Option.some.injEq, Prod.mk.injEq] at he
        exact he.2.symm
      · cases he
    · cases he
  · exact hr k hk hh args A r A' he

theorem envY_sound {fs : List (FuncId × HModel)} (hfs : ∀ f M, lookM fs f = some M → FnSpecY P G f M) {ys : List Yld} {h0 : Handler} (h0s : HSound P G ys h0) : EnvSound P { envY G fs h0 with ys := ys } := by
  refine ⟨h0s, ?_⟩
  intro ys' hd hsub hds fv args A r A' he w OK g v vs hA hG hv hl
  simp only [envY, callM] at he
  split at he
  · rename_i f first cap
    split at he
    · rename_i M hM
      obtain ⟨vs1, vs2, vals1, vals2, rfl, hl1, hl2, hg1, hg2, hv1, hv2⟩ := hv.inv_func
      obtain ⟨hen, hcall⟩ := hfs f M hM
      have hlist : ListRel w OK g (vs1.toList ++ vs ++ vs2.toList) (first ++ args ++ cap) := by
        have hll := hl.length
        refine ListRel.of_get (by simp [hl1, hl2, hll]) (fun i h1 h2 => ?_)
        simp only [List.getElem_append]
        simp only [List.length_append, Array.length_toList, hl1, hll]
        have k1 : ∀ i (h : i < vs1.toList.length) (h' : i < first.length), VRel w OK g vs1.toList[i] first[i] := fun i h h' => by
          have := hg1 i h'
          rw [Array.getElem?_eq_getElem (by rw [hl1]; exact h')] at this
          injection this with this
          simp only [Array.getElem_toList, this]; exact hv1 i h'
        have k2 : ∀ i (h : i < vs2.toList.length) (h' : i < cap.length), VRel w OK g vs2.toList[i] cap[i] := fun i h h' => by
          have := hg2 i h'
          rw [Array.getElem?_eq_getElem (by rw [hl2]; exact h')] at this
          injection this with this
          simp only [Array.getElem_toList, this]; exact hv2 i h'
        split
        · split
          · exact k1 _ _ _
          · exact hl.get _ _ _
        · exact k2 _ _ _
      have := hcall ys' hd hds _ _ _ _ he w OK g _ hA hG hlist
      refine ⟨⟨.fn (.func f) vs2, vs1 ++ vs.toArray⟩, f, (vs1.toList ++ vs ++ vs2.toList).toArray, rfl, ?_, this⟩
      have e : (vs1.toList ++ vs ++ vs2.toList).toArray = vs1 ++ vs.toArray ++ vs2 := by simp
      rw [e]
      exact hen _ w
    · cases he
  · cases he

theorem envOf_sound {fs : List (FuncId × HModel)} (hfs : ∀ f M, lookM fs f = some M → FnSpecY P G f M) : EnvSound P (envOf G fs) :=
  envY_sound hfs (h0 := fun _ _ _ => none) (ys := []) (fun _ _ _ _ _ h => by cases h)

/-- a function, from what is known of those that it calls -/
theorem evFun_sound {E : Env} (hE : EnvSound P E) (hys : E.ys = []) {f : FuncId} {fn : Func} {n : Nat} {vs : List Nat} {pu : List FuncId} {hints : Hints} {mf : MFun} {fuel : Nat} (hf : P.funcs[f]? = some fn) (hc : compFun P fn n vs pu hints = some mf) (hpu : PureIn E pu) :
    FnSpec P E.glob f (evFun E fuel mf) := by
  obtain ⟨h1, h2⟩ := evFun_calls (fuel := fuel) hE hf hc hpu
  exact ⟨h1, fun args A r A' he w OK g us hA hG hl => h2 args A r A' he w OK g us hA ⟨hG, fun y hy => by rw [hys] at hy; cases hy⟩ hl⟩

/-- a function that calls yield -/
theorem evFun_soundY {fs : List (FuncId × HModel)} (hfs : ∀ f M, lookM fs f = some M → FnSpecY P G f M) {f : FuncId} {fn : Func} {n : Nat} {vs : List Nat} {pu : List FuncId} {hints : Hints} {mf : MFun} {fuel : Nat} (hf : P.funcs[f]? = some fn) (hc : compFun P fn n vs pu hints = some mf) (hpu : PureIn (envOf G fs) pu := by first | exact PureIn.nil | (repeat (first | exact PureIn.nil | refine PureIn.cons (n := _) (M := _) rfl ?_))) :
    FnSpecY P G f (fun h => evFun (envY G fs h) fuel mf) := by
  refine ⟨(evFun_calls (fuel := fuel) (envOf_sound hfs) hf hc hpu).1, fun ys h hh args A r A' he => ?_⟩
  have := (evFun_calls (fuel := fuel) (envY_sound hfs hh) hf hc hpu).2 args A r A' (by rw [evFun_ys]; exact he)
  exact this

theorem FnSpecY.of_pure {f : FuncId} {M : PModel} (h : PureSpec P G f M) (n : Nat) : FnSpecY P G f (pureH n M) := (FnSpec.of_pure h n).y

theorem lookM_nil {Q : FuncId → HModel → Prop} : ∀ f M, lookM [] f = some M → Q f M := fun _ _ h => by cases h
theorem lookM_cons {Q : FuncId → HModel → Prop} {g : FuncId} {N : HModel} {r : List (FuncId × HModel)} (h1 : Q g N) (h2 : ∀ f M, lookM r f = some M → Q f M) : ∀ f M, lookM ((g, N) :: r) f = some M → Q f M := fun f M h => by
  simp only [lookM] at h
  split at h
  · rename_i e; injection h with h; subst h; subst e; exact h1
  · exact h2 f M h
end
end Go.Proofs.YtnpmfpcppkdniaaDoor
