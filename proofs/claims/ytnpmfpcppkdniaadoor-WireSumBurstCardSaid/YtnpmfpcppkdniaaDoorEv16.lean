/-
  The evaluation of regions and code is sound. Program-independent.
-/
import Derived.Test.YtnpmfpcppkdniaaDoorEv15
namespace Go.Proofs.YtnpmfpcppkdniaaDoor
open Go
section
variable {P : Program} {E : Env} {N : Nat} {vs : List Nat} {base : Nat} {rd : Option Nat} {n : Nat}

theorem semAt_call (rd : Option Nat) (ρ : Operand → Value) (o : Oper) (h : ∀ c, o.op ≠ .defer c) : o.semAt rd ρ = execOp ρ o := by
  cases rd with
  | none => rfl
  | some l =>
    obtain ⟨dst, op, type, pos, after, guard⟩ := o
    cases op <;> first | rfl | exact absurd rfl (h _)

theorem compOp_noDefer {cx : Operand → Option MX} {o : Op} {m : MOp} (h : compOp P cx o = some m) : ∀ c, o ≠ .defer c := by
  rintro c rfl
  simp [compOp] at h

theorem compOp_call {cx : Operand → Option MX} {o : Op} {f : MX} {args : List MX} (h : compOp P cx o = some (.call f args)) : ∃ c fo, o = .call c ∧ c.callee = .value fo ∧ cx fo = some f ∧ cxs cx c.args.toList = some args := by
  cases o with
  | call c =>
    obtain ⟨callee, as, ts⟩ := c
    simp only [compOp] at h
    split at h
    · split at h
      · split at h <;> simp [Option.bind_eq_some_iff] at h
      · cases h
    · split at h
      · simp [Option.bind_eq_some_iff] at h
      · cases h
    · split at h
      · simp [Option.bind_eq_some_iff] at h
      · cases h
    · split at h
      · split at h
        · simp [Option.bind_eq_some_iff] at h
        · cases h
      · cases h
    · split at h
      · split at h
        · simp [Option.bind_eq_some_iff] at h
        · cases h
      · cases h
    · simp only [Option.bind_eq_bind, Option.bind_eq_some_iff, Option.some.injEq, MOp.call.injEq] at h
      obtain ⟨f', h1, l, h2, rfl, rfl⟩ := h
      exact ⟨_, _, rfl, rfl, h1, h2⟩
    · cases h
  | slice t x lo hi mx =>
    cases mx with
    | some m' => simp [compOp] at h
    | none =>
      simp only [compOp] at h
      split at h <;> simp [Option.bind_eq_some_iff] at h
  | _ =>
    simp only [compOp] at h
    first
      | (simp [Option.bind_eq_some_iff] at h; done)
      | ((repeat' split at h) <;> simp [Option.bind_eq_some_iff] at h; done)

theorem fw_fn (rd : Option Nat) (f : FuncId) : (FW rd).fn f := trivial
theorem fw_depth (rd : Option Nat) : (FW rd).depth = none := rfl
theorem calls_fw {f : FuncId} {args : Array Value} {w : World} {R : Ending → World → Prop} (h : Calls P f args w R) (rd : Option Nat) (n : Nat) : CallsIn (FW rd) n P f args w R := by
  have h1 : CallsIn Fence.wide n P f args w R := callsIn_wide.2 h
  cases rd with
  | none => exact h1
  | some l => exact h1.inRound l

/-- One operation. -/
theorem step_soundG (hE : EnvSound P E) {w : World} {OK : Nat → Prop} {g : Ghost} {σ T : List AV} {A A' : Arena} {a : Act} {o : Oper} {m : MOp} {r : AV} {Q : Exit → Act → World → Prop} {K : Act → World → Prop} {cx : Operand → Option MX}
    (hx : ∀ x y, cx x = some y → VRel w OK g (a.eval x) (evX E σ T y)) (hA : ARel w OK g A) (hI : IRel E.glob E.ys w OK g) (hc : compOp P cx o.op = some m) (he : evStep E (evX E σ T) A m = some (r, A'))
    (hK : ∀ v w' OK' g', VRel w' OK' g' v r → ARel w' OK' g' A' → Ext w OK g w' OK' g' → K (a.put o.dst v) w') : o.wpIn (FW rd) n P a w K Q := by
  refine ⟨fun f _ => fw_fn rd f, ?_⟩
  rw [show o.semAt (FW rd).round a.eval = execOp a.eval o from semAt_call _ _ _ (compOp_noDefer hc)]
  rcases evStep_cases m with ⟨f, args, rfl⟩ | hm
  · obtain ⟨c, fo, hop, hcal, hf, hargs⟩ := compOp_call hc
    have hfv := hx fo f hf
    have hlr := cxs_rel (ρc := a.eval) (ρ := evX E σ T) hx hargs
    have hcall := hE.call _ _ _ _ _ he w OK g _ _ hA hI hfv hlr
    have hex : execOp a.eval o = (do let d ← Deferred.ofValue (a.eval fo) (c.args.toList.map a.eval).toArray; invoke d.target d.args : Sem Next) := by
      unfold execOp
      rw [hop]
      simp only [resolve, hcal]
      congr 1
      congr 1
      apply Array.ext'
      simp
    rw [hex]
    rcases hcall with ⟨v, w', OK', g', e1, e2, e3, e4⟩ | ⟨fid, as, e1, e2⟩ | ⟨l, fid, tmps, assign, body, e1, e2⟩
    · rw [e1]
      exact hK v w' OK' g' e2 e3 e4
    · rw [e1]
      refine ⟨fun hd => by simp [fw_depth] at hd, ?_⟩
      refine (calls_fw e2 rd (n - 1)).mono ?_
      rintro e w' ⟨v, OK', g', rfl, k2, k3, k4⟩
      exact hK v w' OK' g' k2 k3 k4
    · rw [e1]
      refine ⟨fun hd => by simp [fw_depth] at hd, ?_⟩
      refine (e2 rd (n - 1)).mono ?_
      rintro e w' ⟨v, OK', g', rfl, k2, k3, k4⟩
      exact hK v w' OK' g' k2 k3 k4
  · rw [hm] at he
    obtain ⟨v, w', g', e1, e2, e3, e4⟩ := evOp_sound (ρc := a.eval) (ρ := evX E σ T) (fun _ => rfl) (fun _ => rfl) hx hA hc he
    rcases e1 with e1 | ⟨e1, rfl⟩
    · rw [e1]; exact hK v w' OK g' e2 e3 e4
    · rw [e1]; exact hK _ w' OK g' e2 e3 e4

theorem step_sound (hE : EnvSound P E) {w : World} {OK : Nat → Prop} {g : Ghost} {σ T : List AV} {ts : List (Option Nat)} {A A' : Arena} {a : Act} {o : Oper} {m : MOp} {r : AV} {Q : Exit → Act → World → Prop} {K : Act → World → Prop}
    (h : RRel E N vs base w OK g σ T ts A a) (hc : compOp P (cxOf vs ts) o.op = some m) (he : evStep E (evX E σ T) A m = some (r, A'))
    (hK : ∀ v w' OK' g', VRel w' OK' g' v r → ARel w' OK' g' A' → Ext w OK g w' OK' g' → K (a.put o.dst v) w') : o.wpIn (FW rd) n P a w K Q :=
  step_soundG hE (fun x y hy => h.eval x y hy) h.arena h.glob hc he hK

theorem evStep_bad (ρ : MX → AV) (A : Arena) : evStep E ρ A badOp = none ∨ ∃ x, evStep E ρ A badOp = some x ∧ ρ (.cst .undef) ≠ .undef := by
  cases h : evStep E ρ A badOp with
  | none => exact .inl rfl
  | some x =>
    refine .inr ⟨x, rfl, fun e => ?_⟩
    simp [evStep, badOp, evOp, e, evUn] at h

theorem evOps_sound (hE : EnvSound P E) (hvn : vs.Nodup) (hvl : ∀ t ∈ vs, t < N) {ops : Array Oper} {Q : Exit → Act → World → Prop} {w0 : World} {OK0 : Nat → Prop} {g0 : Ghost} {σ' : List AV} {A' : Arena}
    (hQ : ∀ a w OK g, SRel E N vs base w OK g σ' A' a → Ext w0 OK0 g0 w OK g → Q .normal a w) :
    ∀ (rest : List Oper) (k : Nat) (ts : List (Option Nat)) (σ T : List AV) (A : Arena) (a : Act) (w : World) (OK : Nat → Prop) (g : Ghost), ops.toList.drop k = rest →
      RRel E N vs base w OK g σ T ts A a → Ext w0 OK0 g0 w OK g → evOps E (compOps P N vs ops rest ts) σ T A = some (σ', A') → wpOpsIn (FW rd) n P ops Q (List.range' k rest.length) a w
  | [], k, ts, σ, T, A, a, w, OK, g, _, h, hx, he => by
    simp only [compOps, evOps, Option.some.injEq, Prod.mk.injEq] at he
    obtain ⟨rfl, rfl⟩ := he
    exact hQ a w OK g h.toSRel hx
  | o :: rest, k, ts, σ, T, A, a, w, OK, g, hd, h, hx, he => by
    have hlt : k < ops.toList.length := by
      rcases Nat.lt_or_ge k ops.toList.length with h1 | h1
      · exact h1
      · rw [List.drop_eq_nil_of_le h1] at hd; cases hd
    have hok : ops[k]? = some o := by
      have := congrArg (fun l => l[0]?) hd
      simpa [List.getElem?_drop] using this
    have hd' : ops.toList.drop (k + 1) = rest := by
      have := congrArg List.tail hd
      simpa [List.tail_drop] using this
    have ih := fun ts σ T A a w OK g => evOps_sound hE hvn hvl hQ rest (k + 1) ts σ T A a w OK g hd'
    rw [List.length_cons, List.range'_succ]
    simp only [wpOpsIn, hok]
    have hbad : ∀ σ T A, evOps E [⟨none, badOp, none⟩] σ T A = none := fun σ T A => by simp [evOps, evGuard, evStep, badOp, evOp, evX, evUn]
    unfold compOps at he
    split at he
    · rename_i gd hgd
      -- what follows, by the slot that is written
      have fin : ∀ (mo : MO) (mos' : List MO), mo.op = (compOp P (cxOf vs ts) o.op).getD badOp → mo.guard = gd → evOps E (mo :: mos') σ T A = some (σ', A') →
          (∀ v w' OK' g' x A2, VRel w' OK' g' v x → ARel w' OK' g' A2 → Ext w OK g w' OK' g' → evOps E mos' (setVar σ mo.dst x) (T ++ [x]) A2 = some (σ', A') → wpOpsIn (FW rd) n P ops Q (List.range' (k + 1) rest.length) (a.put o.dst v) w') →
          (if Region.wanted o (yielded ops a.tmps) then o.wpIn (FW rd) n P a w (wpOpsIn (FW rd) n P ops Q (List.range' (k + 1) rest.length)) Q
            else (∀ f, o.about P w a.eval = some f → (FW rd).fn f) ∧ wpOpsIn (FW rd) n P ops Q (List.range' (k + 1) rest.length) (a.put o.dst undef) w) := by
        rintro ⟨mdst, mop, mg⟩ mos' hm' hg' he2 hnext
        simp only at hm' hg'
        subst hg'
        simp only [evOps] at he2
        split at he2
        · rename_i hgt
          rw [h.guard hvl hgd hgt, if_pos rfl]
          split at he2
          · rename_i x A2 hst
            cases hm : compOp P (cxOf vs ts) o.op with
            | none =>
              rw [hm] at hm'
              simp only [Option.getD_none] at hm'
              subst hm'
              rcases evStep_bad (E := E) (evX E σ T) A with h0 | ⟨x0, _, h0⟩
              · rw [h0] at hst; cases hst
              · exact absurd rfl h0
            | some m =>
              rw [hm] at hm'
              simp only [Option.getD_some] at hm'
              subst hm'
              exact step_sound hE h hm hst (fun v w' OK' g' k1 k2 k3 => hnext v w' OK' g' x A2 k1 k2 k3 he2)
          · cases he2
        · rename_i hgt
          rw [h.guard hvl hgd hgt]
          refine ⟨fun f _ => fw_fn rd f, hnext undef w OK g (.tup []) A ?_ h.arena (Ext.refl _ _ _) he2⟩
          exact .tup _ _ [] rfl (fun _ => undef) (fun i hi => by simp at hi) (fun i hi => by simp at hi)
        · cases he2
      simp only at he
      split at he
      · rename_i hdst
        refine fin _ _ rfl rfl he (fun v w' OK' g' x A2 k1 k2 k3 k4 => ?_)
        rw [hdst]
        exact ih _ _ _ A2 _ w' OK' g' ((h.ext k3 k2).putNone v x) (hx.trans k3) k4
      · rename_i t hdst
        split at he
        · rename_i i hi
          obtain ⟨hlt, het⟩ := List.idxOf?_eq_some_iff.1 hi |> fun h => (⟨h.1, h.2.1⟩ : ∃ h : i < vs.length, vs[i] = t)
          refine fin _ _ rfl rfl he (fun v w' OK' g' x A2 k1 k2 k3 k4 => ?_)
          rw [hdst]
          exact ih _ _ _ A2 _ w' OK' g' ((h.ext k3 k2).putVar hvn hvl hlt het k1 x) (hx.trans k3) k4
        · rename_i hni
          split at he
          · rename_i hc
            refine fin _ _ rfl rfl he (fun v w' OK' g' x A2 k1 k2 k3 k4 => ?_)
            rw [hdst]
            exact ih _ _ _ A2 _ w' OK' g' ((h.ext k3 k2).putTmp hc.1 (by simpa using hni) hc.2 k1) (hx.trans k3) k4
          · rw [hbad] at he; cases he
    · rw [hbad] at he; cases he
end
end Go.Proofs.YtnpmfpcppkdniaaDoor
