/-
  The evaluation of an operation is sound. Program-independent.
-/
import Derived.Test.YtnpmfpcppkdniaaDoorEv12
namespace Go.Proofs.YtnpmfpcppkdniaaDoor
open Go
section
variable {P : Program} {w : World} {OK : Nat → Prop} {g : Ghost} {A : Arena}

/-- What carrying out an operation leaves. -/
def OpDoes (P : Program) (w : World) (OK : Nat → Prop) (g : Ghost) (res : Result Next) (r : AV) (A' : Arena) : Prop :=
  ∃ v w' g', (res = .ok (.value v) w' ∨ (res = .ok .skip w' ∧ v = undef)) ∧ VRel w' OK g' v r ∧ ARel w' OK g' A' ∧ Ext w OK g w' OK g'

theorem Does.op {s : Sem Value} {r : AV} {A' : Arena} (h : Does P w OK g s r A') : OpDoes P w OK g ((do pure (.value (← s)) : Sem Next).run P w) r A' := by
  obtain ⟨v, w', g', h1, h2, h3, h4⟩ := h
  exact ⟨v, w', g', .inl (by simp [h1]), h2, h3, h4⟩
theorem Yields'.op {s : Sem Value} {r : AV} (h : Yields' P w OK g s r) (hA : ARel w OK g A) : OpDoes P w OK g ((do pure (.value (← s)) : Sem Next).run P w) r A := (h.does hA).op
theorem OpDoes.val {v : Value} {r : AV} (h : VRel w OK g v r) (hA : ARel w OK g A) : OpDoes P w OK g (.ok (.value v) w) r A := ⟨v, w, g, .inl rfl, h, hA, Ext.refl _ _ _⟩

variable {cx : Operand → Option MX} {ρc : Operand → Value} {ρ : MX → AV}

theorem cxs_rel (hx : ∀ x y, cx x = some y → VRel w OK g (ρc x) (ρ y)) : ∀ {xs : List Operand} {ys : List MX}, cxs cx xs = some ys → ListRel w OK g (xs.map ρc) (ys.map ρ)
  | [], ys, h => by injection h with h; subst h; trivial
  | x :: r, ys, h => by
    unfold cxs at h
    split at h
    · rename_i y l h1 h2
      injection h with h; subst h
      exact ⟨hx _ _ h1, cxs_rel hx h2⟩
    · cases h
theorem cxo_rel (hx : ∀ x y, cx x = some y → VRel w OK g (ρc x) (ρ y)) {x : Option Operand} {y : Option MX} (h : cxo cx x = some y) : ORel w OK g (x.map ρc) (y.map ρ) := by
  cases x with
  | none => simp [cxo] at h; subst h; trivial
  | some x =>
    simp only [cxo, Option.map_eq_some_iff] at h
    obtain ⟨z, h1, rfl⟩ := h
    exact hx _ _ h1
theorem cxParts_rel (hx : ∀ x y, cx x = some y → VRel w OK g (ρc x) (ρ y)) {place : Nat → Option (Nat × Nat)} : ∀ {xs : List (Nat × Operand)} {ys : List (Nat × Nat × MX)}, cxParts cx place xs = some ys →
    PartsRel w OK g place (xs.map fun x => (x.1, ρc x.2)) (ys.map fun y => (y.1, y.2.1, ρ y.2.2))
  | [], ys, h => by injection h with h; subst h; trivial
  | (i, x) :: r, ys, h => by
    unfold cxParts at h
    split at h
    · rename_i off size y l h1 h2 h3
      injection h with h; subst h
      exact ⟨h1, hx _ _ h2, cxParts_rel hx h3⟩
    · cases h
theorem cxSeq_rel (hx : ∀ x y, cx x = some y → VRel w OK g (ρc x) (ρ y)) : ∀ {k : Nat} {xs : List (Nat × Operand)} {ys : List MX}, cxSeq cx k xs = some ys →
    ∃ vs : List Value, (xs.map fun x => (x.1, ρc x.2)) = (vs.zipIdx k).map (fun x => (x.2, x.1)) ∧ ListRel w OK g vs (ys.map ρ) ∧ vs.length = ys.length
  | k, [], ys, h => by injection h with h; subst h; exact ⟨[], rfl, trivial, rfl⟩
  | k, (i, x) :: r, ys, h => by
    unfold cxSeq at h
    split at h
    · rename_i hk
      subst hk
      split at h
      · rename_i y l h1 h2
        injection h with h; subst h
        obtain ⟨vs, k1, k2, k3⟩ := cxSeq_rel hx h2
        exact ⟨ρc x :: vs, by simp [k1], ⟨hx _ _ h1, k2⟩, by simp [k3]⟩
      · cases h
    · cases h
theorem fieldPlaces_run : ∀ {fs : List Field} {ps : List (Nat × Nat)}, fieldPlaces P fs = some ps → ∀ w : World, (fs.mapM fun f => do pure (f.offset, ← sizeOf f.type) : Sem (List (Nat × Nat))).run P w = .ok ps w
  | [], ps, h, w => by injection h with h; subst h; rfl
  | f :: r, ps, h, w => by
    unfold fieldPlaces at h
    split at h
    · rename_i i l h1 h2
      injection h with h; subst h
      have ih := fieldPlaces_run h2 w
      simp [List.mapM_cons, run_sizeOf' h1] at ih ⊢
      rw [ih]; rfl
    · cases h
theorem fieldPlaces_runA {fs : Array Field} {ps : List (Nat × Nat)} (h : fieldPlaces P fs.toList = some ps) (w : World) : (fs.mapM fun f => do pure (f.offset, ← sizeOf f.type) : Sem (Array (Nat × Nat))).run P w = .ok ps.toArray w := by
  rw [Array.mapM_eq_mapM_toList, Sem.run_map]
  rw [fieldPlaces_run h w]
  rfl

set_option maxHeartbeats 1000000 in
/-- two values of which one is nil -/
theorem eq_nil_sound {neg : Bool} {t : TypeId} {d : TypeDesc} {x : Operand} {v c : Value} {a : AV} {b : Bool} (ht : P.underlying t = some d) (hcn : nilConst (nilKind d) c = true) (h : VRel w OK g v a) (hb : isNilA (nilKind d) a = some b) :
    (do eqGuard (if neg then .neq else .eql) t x (.const c) v c; binOp (if neg then .neq else .eql) t v c : Sem Value).run P w = .ok (.bool (if neg then !b else b)) w := by
  have fin : (Op.equalIn (9999 + 1) t v c).run P w = .ok b w → (eqGuard (if neg then .neq else .eql) t x (.const c) v c).run P w = .ok () w →
      (binOp .eql t v c = (do pure (.bool (← Op.equal t v c)))) → (binOp .neq t v c = (do pure (.bool (!(← Op.equal t v c))))) →
      (do eqGuard (if neg then .neq else .eql) t x (.const c) v c; binOp (if neg then .neq else .eql) t v c : Sem Value).run P w = .ok (.bool (if neg then !b else b)) w := by
    intro h1 h2 h3 h4
    have h1' : (Op.equal t v c).run P w = .ok b w := h1
    rw [Sem.run_bind, h2, Result.andThen_ok]
    cases neg
    · simp only [Bool.false_eq_true, if_false]
      rw [h3]
      simp [h1']
    · simp only [if_true]
      rw [h4]
      simp [h1']
  cases d <;> simp only [nilKind] at hcn hb <;> (try (cases c <;> simp [nilConst] at hcn; done))
  case pointer e =>
    obtain rfl : c = .pointer none := by
      cases c with
      | pointer p => cases p <;> simp [nilConst] at hcn; rfl
      | _ => simp [nilConst] at hcn
    cases a <;> simp only [isNilA, Option.some.injEq, reduceCtorEq] at hb <;> subst hb
    · obtain rfl := h.inv_nilP
      exact fin (by rw [Op.equalIn]; simp [run_underlying' ht]) (by cases neg <;> simp [eqGuard]) rfl rfl
    · obtain ⟨inc, _, rfl, _⟩ := h.inv_ptr
      exact fin (by rw [Op.equalIn]; simp [run_underlying' ht]) (by cases neg <;> simp [eqGuard]) rfl rfl
    · obtain ⟨b, o, T, c, fz, vals, rfl, _⟩ := h.inv_fp
      exact fin (by rw [Op.equalIn]; simp [run_underlying' ht]) (by cases neg <;> simp [eqGuard]) rfl rfl
  case slice e =>
    obtain rfl : c = .slice none 0 0 := by
      cases c with
      | slice p n k =>
        unfold nilConst at hcn
        split at hcn <;> simp_all
      | _ => simp [nilConst] at hcn
    cases a <;> simp only [isNilA, Option.some.injEq, reduceCtorEq] at hb <;> subst hb
    · obtain ⟨b, o, cap, T, c, fz, vals, rfl, _⟩ := h.inv_fs
      exact fin (by rw [Op.equalIn]; simp [run_underlying' ht]) (by cases neg <;> simp [eqGuard]) rfl rfl
    · obtain ⟨inc, cap, ao, _, rfl, _⟩ := h.inv_sl
      exact fin (by rw [Op.equalIn]; simp [run_underlying' ht]) (by cases neg <;> simp [eqGuard]) rfl rfl
  case map k e =>
    obtain rfl : c = .map none := by
      cases c with
      | map p => cases p <;> simp [nilConst] at hcn; rfl
      | _ => simp [nilConst] at hcn
    cases a <;> simp only [isNilA, Option.some.injEq, reduceCtorEq] at hb <;> subst hb
    · obtain rfl := h.inv_nilM
      exact fin (by rw [Op.equalIn]; simp [run_underlying' ht]) (by cases neg <;> simp [eqGuard]) rfl rfl
    · obtain ⟨inc, _, rfl⟩ := h.inv_map
      exact fin (by rw [Op.equalIn]; simp [run_underlying' ht]) (by cases neg <;> simp [eqGuard]) rfl rfl
  case func p r vv =>
    obtain rfl : c = .nilFunc := by cases c <;> simp [nilConst] at hcn; rfl
    cases a <;> simp only [isNilA, Option.some.injEq, reduceCtorEq] at hb <;> subst hb
    · cases h
      exact fin (by rw [Op.equalIn]; simp [run_underlying' ht]) (by cases neg <;> simp [eqGuard]) rfl rfl
    · obtain ⟨vs1, vs2, v1, v2, rfl, _⟩ := h.inv_func
      exact fin (by rw [Op.equalIn]; simp [run_underlying' ht]) (by cases neg <;> simp [eqGuard]) rfl rfl
  case interface ms =>
    obtain rfl : c = .nilIface := by cases c <;> simp [nilConst] at hcn; rfl
    cases a <;> simp only [isNilA, Option.some.injEq, reduceCtorEq] at hb <;> subst hb
    · cases h
      exact fin (by rw [Op.equalIn]; simp [run_underlying' ht]) (by cases neg <;> simp [eqGuard]) rfl rfl
    · cases h
      exact fin (by rw [Op.equalIn]; simp [run_underlying' ht]) (by cases neg <;> simp [eqGuard]) rfl rfl

theorem evOp_pure {s : Sem Value} {e : Option AV} {r : AV} {A' : Arena} (hA : ARel w OK g A) (he : e.map (fun r => (r, A)) = some (r, A')) (hs : ∀ r, e = some r → Yields' P w OK g s r) :
    OpDoes P w OK g ((do pure (.value (← s)) : Sem Next).run P w) r A' := by
  simp only [Option.map_eq_some_iff, Prod.mk.injEq] at he
  obtain ⟨r', h1, rfl, rfl⟩ := he
  exact (hs _ h1).op hA

set_option maxHeartbeats 2000000 in
theorem evOp_sound {o : Oper} {m : MOp} {r : AV} {A' : Arena} (hcst : ∀ v, ρc (.const v) = v) (hρ : ∀ a, ρ (.cst a) = a) (hx : ∀ x y, cx x = some y → VRel w OK g (ρc x) (ρ y)) (hA : ARel w OK g A) (hc : compOp P cx o.op = some m) (he : evOp ρ A m = some (r, A')) :
    OpDoes P w OK g ((execOp ρc o).run P w) r A' := by
  obtain ⟨dst, op, type, pos, after, guard⟩ := o
  cases op with
  | move x | assign x =>
    simp only [compOp, Option.bind_eq_bind, Option.bind_eq_some_iff, Option.some.injEq] at hc
    obtain ⟨y, h1, rfl⟩ := hc
    simp only [evOp, Option.some.injEq, Prod.mk.injEq] at he
    obtain ⟨rfl, rfl⟩ := he
    exact OpDoes.val (hx _ _ h1) hA
  | pick c a b =>
    simp only [compOp, Option.bind_eq_bind, Option.bind_eq_some_iff, Option.some.injEq] at hc
    obtain ⟨c', h1, a', h2, b', h3, rfl⟩ := hc
    simp only [evOp] at he
    split at he
    · rename_i t ht
      simp only [Option.some.injEq, Prod.mk.injEq] at he
      obtain ⟨rfl, rfl⟩ := he
      have hcv := hx _ _ h1
      rw [ht] at hcv
      have e := hcv.inv_bool
      simp only [execOp, e, asBool, Sem.run_bind, Sem.run_pure, Result.andThen_ok]
      cases t
      · exact OpDoes.val (hx _ _ h3) hA
      · exact OpDoes.val (hx _ _ h2) hA
    · cases he
  | binOp op t x y yt =>
    simp only [compOp] at hc
    have bin : ∀ x' y', cx x = some x' → cx y = some y' → m = .bin op x' y' → OpDoes P w OK g ((execOp ρc ⟨dst, .binOp op t x y yt, type, pos, after, guard⟩).run P w) r A' := by
      rintro x' y' h1 h2 rfl
      exact evOp_pure hA he (fun r h => evBin_sound (hx _ _ h1) (hx _ _ h2) h)
    split at hc
    · simp only [Option.bind_eq_bind, Option.bind_eq_some_iff, Option.some.injEq] at hc
      obtain ⟨x', h1, y', h2, rfl⟩ := hc
      exact bin _ _ h1 h2 rfl
    · simp only [Option.bind_eq_bind, Option.bind_eq_some_iff, Option.some.injEq] at hc
      obtain ⟨x', h1, y', h2, rfl⟩ := hc
      exact bin _ _ h1 h2 rfl
    · rename_i ht
      split at hc
      · simp only [Option.bind_eq_bind, Option.bind_eq_some_iff, Option.some.injEq] at hc
        obtain ⟨x', h1, y', h2, rfl⟩ := hc
        exact evOp_pure hA he (fun r h => evEqBool_sound ht (hx _ _ h1) (hx _ _ h2) h)
      · simp only [Option.bind_eq_bind, Option.bind_eq_some_iff, Option.some.injEq] at hc
        obtain ⟨x', h1, y', h2, rfl⟩ := hc
        exact evOp_pure hA he (fun r h => evEqBool_sound ht (hx _ _ h1) (hx _ _ h2) h)
      · cases hc
    · rename_i d h1 h2 h3 ht
      have fin : ∀ (neg : Bool) v, y = .const v → op = (if neg then .neq else .eql) → (if nilConst (nilKind d) v then do some (.eqNil (nilKind d) neg (← cx x)) else none) = some m → OpDoes P w OK g ((execOp ρc ⟨dst, .binOp op t x y yt, type, pos, after, guard⟩).run P w) r A' := by
        rintro neg v rfl rfl hc
        simp only [Option.bind_eq_bind, Option.bind_eq_some_iff, Option.ite_none_right_eq_some, Option.some.injEq] at hc
        obtain ⟨hn, x', h1, rfl⟩ := hc
        simp only [evOp, Option.map_eq_some_iff, Prod.mk.injEq] at he
        obtain ⟨b, hb, rfl, rfl⟩ := he
        have hk : ρc (.const v) = v := hcst v
        have := eq_nil_sound (neg := neg) (x := x) ht hn (hx _ _ h1) hb
        refine Yields'.op ⟨_, ?_, .bool _ _⟩ hA
        rw [hk]; exact this
      split at hc
      · exact fin false _ rfl rfl hc
      · exact fin true _ rfl rfl hc
      · cases hc
    · cases hc
  | unOp op t x =>
    simp only [compOp, Option.bind_eq_bind, Option.bind_eq_some_iff, Option.some.injEq] at hc
    obtain ⟨y, h1, rfl⟩ := hc
    exact evOp_pure hA he (fun r h => evUn_sound (hx _ _ h1) h)
  | convert s t x =>
    simp only [compOp] at hc
    split at hc
    · rename_i k1 k hs ht
      simp only [Option.bind_eq_bind, Option.bind_eq_some_iff, Option.some.injEq] at hc
      obtain ⟨y, h1, rfl⟩ := hc
      exact evOp_pure hA he (fun r h => evConvInt_sound hs ht (hx _ _ h1) h)
    · rename_i hs ht
      simp only [Option.bind_eq_bind, Option.bind_eq_some_iff, Option.some.injEq] at hc
      obtain ⟨y, h1, rfl⟩ := hc
      simp only [evOp] at he
      split at he
      · rename_i l hl
        simp only [Option.some.injEq, Prod.mk.injEq] at he
        obtain ⟨rfl, rfl⟩ := he
        have := hx _ _ h1
        rw [hl] at this
        obtain ⟨s', e, hs'⟩ := this.inv_str
        refine ⟨.string s', w, g, .inl ?_, .str _ _ _ hs', hA, Ext.refl _ _ _⟩
        simp [execOp, e, convert, run_underlying' hs, run_underlying' ht]
      · cases he
    · rename_i e hs ht
      split at hc
      · rename_i he'
        simp only [Option.bind_eq_bind, Option.bind_eq_some_iff, Option.some.injEq] at hc
        obtain ⟨y, h1, rfl⟩ := hc
        exact (evToBytes_sound hs ht he' hA (hx _ _ h1) he).op
      · cases hc
    · rename_i e hs ht
      split at hc
      · rename_i he'
        simp only [Option.bind_eq_bind, Option.bind_eq_some_iff, Option.some.injEq] at hc
        obtain ⟨y, h1, rfl⟩ := hc
        exact evOp_pure hA he (fun r h => evToStr_sound hs he' ht hA (hx _ _ h1) h)
      · cases hc
    · cases hc
  | alloc t =>
    simp only [compOp, Option.bind_eq_bind, Option.bind_eq_some_iff, Option.some.injEq] at hc
    obtain ⟨i, hi, z, hz, za, hza, rfl⟩ := hc
    exact (evAlloc_sound hi hz hA (ofValue_rel hza) he).op
  | box t x =>
    simp only [compOp, Option.bind_eq_bind, Option.bind_eq_some_iff, Option.some.injEq] at hc
    obtain ⟨y, h1, rfl⟩ := hc
    exact (evBox_sound hA (hx _ _ h1) he).op
  | build t parts =>
    simp only [compOp] at hc
    split at hc
    · rename_i fields ht
      simp only [Option.bind_eq_bind, Option.bind_eq_some_iff, Option.some.injEq] at hc
      obtain ⟨i, hi, z, hz, zs, hzs, places, hpl, ps, hps, rfl⟩ := hc
      simp only [evOp, Option.map_eq_some_iff, Prod.mk.injEq] at he
      obtain ⟨l, hl, rfl, rfl⟩ := he
      refine (evBuildStruct_sound ht hi hz (ofCells_cellsRel hzs) places.toArray (fun w => fieldPlaces_runA hpl w) ?_ hl).op hA
      have := cxParts_rel hx hps
      simpa using this
    · rename_i n e ht
      simp only [Option.bind_eq_bind, Option.bind_eq_some_iff, Option.some.injEq] at hc
      obtain ⟨i, hi, ie, hie, z, hz, zs, hzs, ps, hps, rfl⟩ := hc
      simp only [evOp, Option.map_eq_some_iff, Prod.mk.injEq] at he
      obtain ⟨l, hl, rfl, rfl⟩ := he
      refine (evBuildArr_sound ht hi hz hie (ofCells_cellsRel hzs) ?_ hl).op hA
      have := cxParts_rel hx hps
      simpa using this
    · cases hc
  | buildSlice t n parts =>
    simp only [compOp] at hc
    split at hc
    · rename_i e ht
      simp only [Option.bind_eq_bind, Option.bind_eq_some_iff, Option.ite_none_right_eq_some, Option.some.injEq] at hc
      obtain ⟨ie, hie, z, hz, xs, hxs, hn, rfl⟩ := hc
      obtain ⟨vs, h1, h2, h3⟩ := cxSeq_rel hx hxs
      have := (evBuildSlice_sound ht hie hz hA h2 he).op
      have e1 : (parts.map fun x => (x.1, ρc x.2)) = ((vs.zipIdx.map fun x => (x.2, x.1)).toArray) := by
        apply Array.ext'
        simpa using h1
      rw [← e1, show vs.length = n by omega] at this
      exact this
    · cases hc
  | load t p =>
    simp only [compOp, Option.bind_eq_bind, Option.bind_eq_some_iff, Option.some.injEq] at hc
    obtain ⟨i, hi, b, hb, y, h1, rfl⟩ := hc
    exact evOp_pure hA he (fun r h => evLoad_sound hi hb hA (hx _ _ h1) h)
  | store t p v =>
    simp only [compOp, Option.bind_eq_bind, Option.bind_eq_some_iff, Option.some.injEq] at hc
    obtain ⟨i, hi, y, h1, z, h2, rfl⟩ := hc
    simp only [evOp, Option.map_eq_some_iff, Prod.mk.injEq] at he
    obtain ⟨A1, hst, rfl, rfl⟩ := he
    obtain ⟨w', q1, q2, q3⟩ := evStore_sound (P := P) hi hA (hx _ _ h1) (hx _ _ h2) hst
    exact ⟨undef, w', g, .inr ⟨by simp [execOp, q1], rfl⟩, .undef _ _, q2, q3⟩
  | nilCheck x =>
    simp only [compOp, Option.bind_eq_bind, Option.bind_eq_some_iff, Option.some.injEq] at hc
    obtain ⟨y, h1, rfl⟩ := hc
    simp only [evOp, Option.map_eq_some_iff, Prod.mk.injEq] at he
    obtain ⟨r', h2, rfl, rfl⟩ := he
    have hv := hx _ _ h1
    unfold evNilCheck at h2
    split at h2
    · rename_i id i o hy
      rw [hy] at hv
      injection h2 with h2; subst h2
      obtain ⟨inc, hinc, e, _⟩ := hv.inv_ptr
      simp only [execOp, e]
      rw [e] at hv
      exact OpDoes.val hv hA
    · rename_i cs hy
      rw [hy] at hv
      injection h2 with h2; subst h2
      obtain ⟨b, o, T, c, fz, vals, e, _⟩ := hv.inv_fp
      simp only [execOp, e]
      rw [e] at hv
      exact OpDoes.val hv hA
    · cases h2
  | fieldAddr s x k =>
    simp only [compOp] at hc
    split at hc
    · rename_i fields hs
      simp only [Option.bind_eq_bind, Option.bind_eq_some_iff, Option.ite_none_right_eq_some, Option.some.injEq] at hc
      obtain ⟨f, hf, i, hi, hz, y, h1, rfl⟩ := hc
      exact evOp_pure hA he (fun r h => evFieldAddr_sound hs hf hi hz hA (hx _ _ h1) h)
    · cases hc
  | field s x k =>
    simp only [compOp] at hc
    split at hc
    · rename_i fields hs
      simp only [Option.bind_eq_bind, Option.bind_eq_some_iff, Option.some.injEq] at hc
      obtain ⟨f, hf, i, hi, b, hb, y, h1, rfl⟩ := hc
      exact evOp_pure hA he (fun r h => evField_sound hs hf hi hb (hx _ _ h1) h)
    · cases hc
  | indexAddr t x k =>
    simp only [compOp] at hc
    split at hc
    · rename_i e ht
      simp only [Option.bind_eq_bind, Option.bind_eq_some_iff, Option.some.injEq] at hc
      obtain ⟨i, hi, y, h1, z, h2, rfl⟩ := hc
      exact evOp_pure hA he (fun r h => evIndexSl_sound ht hi hA (hx _ _ h1) (hx _ _ h2) h)
    · rename_i n e ht
      simp only [Option.bind_eq_bind, Option.bind_eq_some_iff, Option.some.injEq] at hc
      obtain ⟨i, hi, y, h1, z, h2, rfl⟩ := hc
      exact evOp_pure hA he (fun r h => evIndexArr_sound ht hi hA (hx _ _ h1) (hx _ _ h2) h)
    · cases hc
  | index t x k =>
    simp only [compOp] at hc
    split at hc
    · rename_i ht
      simp only [Option.bind_eq_bind, Option.bind_eq_some_iff, Option.some.injEq] at hc
      obtain ⟨y, h1, z, h2, rfl⟩ := hc
      exact evOp_pure hA he (fun r h => evIndexStr_sound ht (hx _ _ h1) (hx _ _ h2) h)
    · rename_i n e ht
      simp only [Option.bind_eq_bind, Option.bind_eq_some_iff, Option.some.injEq] at hc
      obtain ⟨i, hi, b, hb, y, h1, z, h2, rfl⟩ := hc
      exact evOp_pure hA he (fun r h => evIndexVal_sound ht hi hb (hx _ _ h1) (hx _ _ h2) h)
    · cases hc
  | slice t x lo hi' mx =>
    cases mx with
    | some m' => simp [compOp] at hc
    | none =>
      simp only [compOp] at hc
      split at hc
      · rename_i ht
        simp only [Option.bind_eq_bind, Option.bind_eq_some_iff, Option.some.injEq] at hc
        obtain ⟨y, h1, l, h2, h', h3, rfl⟩ := hc
        refine evOp_pure hA he (fun r h => ?_)
        have := evSliceStr_sound (P := P) ht (hx _ _ h1) (cxo_rel hx h2) (cxo_rel hx h3) h
        simpa [Instr.sliceAt, Yields', run_underlying' ht] using this
      · rename_i e ht
        simp only [Option.bind_eq_bind, Option.bind_eq_some_iff, Option.some.injEq] at hc
        obtain ⟨i, hi, y, h1, l, h2, h', h3, rfl⟩ := hc
        refine evOp_pure hA he (fun r h => ?_)
        have := evSliceSl_sound (P := P) ht hi hA (hx _ _ h1) (cxo_rel hx h2) (cxo_rel hx h3) h
        simpa [Instr.sliceAt, Yields', run_underlying' ht] using this
      · cases hc
  | makeSlice t l c =>
    simp only [compOp] at hc
    split at hc
    · rename_i e ht
      simp only [Option.bind_eq_bind, Option.bind_eq_some_iff, Option.ite_none_right_eq_some, Option.some.injEq] at hc
      obtain ⟨i, hi, z, hz, za, hza, hzs, y, h1, u, h2, rfl⟩ := hc
      exact (evMake_sound ht hi hz hzs hA (ofValue_rel hza) (hx _ _ h1) (hx _ _ h2) he).op
    · cases hc
  | makeFunc fn first cap =>
    simp only [compOp, Option.bind_eq_bind, Option.bind_eq_some_iff, Option.some.injEq] at hc
    obtain ⟨f', h1, c', h2, rfl⟩ := hc
    simp only [evOp, Option.some.injEq, Prod.mk.injEq] at he
    obtain ⟨rfl, rfl⟩ := he
    have r1 := cxs_rel hx h1
    have r2 := cxs_rel hx h2
    have l1 := r1.length
    have l2 := r2.length
    simp only [List.length_map, Array.length_toList] at l1 l2
    have hv : VRel w OK g (.func fn (first.map ρc) (cap.map ρc)) (.func fn (f'.map ρ) (c'.map ρ)) := by
      refine .func _ fn _ _ _ _ (by simp [l1]) (by simp [l2]) (fun i => ((first.map ρc)[i]?).getD undef) (fun i => ((cap.map ρc)[i]?).getD undef) (fun i hi => ?_) (fun i hi => ?_) (fun i hi => ?_) (fun i hi => ?_)
      · simp at hi; simp [show i < first.size by omega]
      · simp at hi; simp [show i < cap.size by omega]
      · simp at hi
        have := r1.get i (by simp; omega) (by simp; omega)
        simpa [show i < first.size by omega] using this
      · simp at hi
        have := r2.get i (by simp; omega) (by simp; omega)
        simpa [show i < cap.size by omega] using this
    exact ⟨_, w, g, .inl (by simp [execOp, Instr.makeFunc]), hv, hA, Ext.refl _ _ _⟩
  | extract x k =>
    simp only [compOp, Option.bind_eq_bind, Option.bind_eq_some_iff, Option.some.injEq] at hc
    obtain ⟨y, h1, rfl⟩ := hc
    exact evOp_pure hA he (fun r h => evExtract_sound (hx _ _ h1) h)
  | call c =>
    simp only [compOp] at hc
    obtain ⟨callee, args, argTypes⟩ := c
    simp only at hc
    split at hc
    · -- len
      split at hc
      · rename_i t x
        have step : ∀ (m' : MOp) (r : AV) (A'' : Arena), OpDoes P w OK g ((do pure (.value (← Builtin.len_ #[t] type #[ρc x])) : Sem Next).run P w) r A'' → OpDoes P w OK g ((execOp ρc ⟨dst, .call ⟨.builtin .len, ⟨[x]⟩, ⟨[t]⟩⟩, type, pos, after, guard⟩).run P w) r A'' := by
          intro _ r A'' h
          simpa [execOp, resolve, invoke, builtin] using h
        refine step m r A' ?_
        split at hc
        · rename_i ht
          simp only [Option.bind_eq_bind, Option.bind_eq_some_iff, Option.some.injEq] at hc
          obtain ⟨y, h1, rfl⟩ := hc
          exact evOp_pure hA he (fun r h => evLenStr_sound ht (hx _ _ h1) h)
        · rename_i e ht
          simp only [Option.bind_eq_bind, Option.bind_eq_some_iff, Option.some.injEq] at hc
          obtain ⟨y, h1, rfl⟩ := hc
          exact evOp_pure hA he (fun r h => evLenSl_sound ht (hx _ _ h1) h)
        · rename_i k e ht
          simp only [Option.bind_eq_bind, Option.bind_eq_some_iff, Option.some.injEq] at hc
          obtain ⟨y, h1, rfl⟩ := hc
          exact evOp_pure hA he (fun r h => evLenMap_sound ht hA (hx _ _ h1) h)
        · rename_i n e ht
          injection hc with hc; subst hc
          simp only [evOp, Option.some.injEq, Prod.mk.injEq] at he
          obtain ⟨rfl, rfl⟩ := he
          have : (Builtin.len_ #[t] type #[ρc x]).run P w = .ok (.int .i64 n) w := by simp [Builtin.len_, run_underlying' ht, goInt]
          exact Yields'.op ⟨.int .i64 n, this, by rw [hρ]; exact .int _ _ _⟩ hA
        · cases hc
      · cases hc
    · -- min
      split at hc
      · rename_i x r'
        simp only [Option.bind_eq_bind, Option.bind_eq_some_iff, Option.some.injEq] at hc
        obtain ⟨y, h1, l, h2, rfl⟩ := hc
        have hl := cxs_rel hx h2
        have := evOp_pure (s := (r'.map ρc).foldlM (if false then Builtin.max2 else Builtin.min2) (ρc x)) hA he (fun r h => by
          obtain ⟨u, u1, u2⟩ := evMinL_sound (P := P) (isMax := false) (r'.map ρc) (l.map ρ) (ρc x) (ρ y) r hl.length (fun i h h' => hl.get i h' h) (hx _ _ h1) h
          exact ⟨u, u1, u2⟩)
        simpa [execOp, resolve, invoke, builtin, Builtin.min_] using this
      · cases hc
    · -- max
      split at hc
      · rename_i x r'
        simp only [Option.bind_eq_bind, Option.bind_eq_some_iff, Option.some.injEq] at hc
        obtain ⟨y, h1, l, h2, rfl⟩ := hc
        have hl := cxs_rel hx h2
        have := evOp_pure (s := (r'.map ρc).foldlM (if true then Builtin.max2 else Builtin.min2) (ρc x)) hA he (fun r h => by
          obtain ⟨u, u1, u2⟩ := evMinL_sound (P := P) (isMax := true) (r'.map ρc) (l.map ρ) (ρc x) (ρ y) r hl.length (fun i h h' => hl.get i h' h) (hx _ _ h1) h
          exact ⟨u, u1, u2⟩)
        simpa [execOp, resolve, invoke, builtin, Builtin.max_] using this
      · cases hc
    · -- append
      split at hc
      · rename_i t xt s' x
        split at hc
        · rename_i e ht
          simp only [Option.bind_eq_bind, Option.bind_eq_some_iff, Option.ite_none_right_eq_some, Option.some.injEq] at hc
          obtain ⟨i, hi, z, hz, d, hd, ⟨hzs, hdd⟩, y1, h1, y2, h2, rfl⟩ := hc
          have hxt : (∃ e', P.underlying xt = some (.slice e')) ∨ P.underlying xt = some .string := by
            cases d <;> simp at hdd
            · exact .inr hd
            · exact .inl ⟨_, hd⟩
          have := (evAppend_sound (ty := type) ht hxt hi hz hzs hA (hx _ _ h1) (hx _ _ h2) he).op
          simpa [execOp, resolve, invoke, builtin] using this
        · cases hc
      · cases hc
    · -- copy
      split at hc
      · rename_i t xt d s'
        split at hc
        · rename_i e ht
          simp only [Option.bind_eq_bind, Option.bind_eq_some_iff, Option.some.injEq] at hc
          obtain ⟨i, hi, y1, h1, y2, h2, rfl⟩ := hc
          have := (evCopy_sound (ty := type) (t2 := xt) ht hi hA (hx _ _ h1) (hx _ _ h2) he).op
          simpa [execOp, resolve, invoke, builtin] using this
        · cases hc
      · cases hc
    · simp only [Option.bind_eq_bind, Option.bind_eq_some_iff, Option.some.injEq] at hc
      obtain ⟨f', h1, l, h2, rfl⟩ := hc
      cases he
    · cases hc
  | _ => simp [compOp] at hc
end
end Go.Proofs.YtnpmfpcppkdniaaDoor
