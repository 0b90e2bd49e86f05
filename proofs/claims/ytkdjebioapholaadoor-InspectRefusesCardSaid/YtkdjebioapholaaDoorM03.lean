/-
  What the proof is built on (Ev21 to I1).
-/
import Derived.Test.YtkdjebioapholaaDoorM02
import Derived.WideKeyArgs
import Derived.OpenShut
import Derived.ChangeOld
import Derived.RowKit
import Derived.Test.YtkdjebioapholaaDoorChecked
import Derived.KernelRfl
/-
  Evaluation with what is still to come as data: the laws by which 'simp' runs a function. Program-independent.
-/
namespace Go.Proofs.YtkdjebioapholaaDoor
open Go

inductive KC where
  | code (c : MC)
  | ops (l : List MO) (T : List AV)
  | opsF (pu : List FuncId) (l : List MO) (T : List AV) (fs : List Foot) (pairs : List (Nat × Nat))
  | blk (id : Nat)

noncomputable def evK (E : Env) (fuel : Nat) : List KC → Option Out → Option Out
  | [], o => o
  | .code c :: k, some (.normal σ A) => evK E fuel k (evC E fuel c σ A)
  | .ops l T :: k, some (.normal σ A) => evK E fuel k ((evOps E l σ T A).map fun x => .normal x.1 x.2)
  | .opsF pu l T fs pairs :: k, some (.normal σ A) => evK E fuel k (match evOpsF E pu l σ T A fs with
    | some (σ', A', fs') => if pairs.all (fun p => (fs'.getD p.1 .no).apart (fs'.getD p.2 .no)) then some (.normal σ' A') else none
    | none => none)
  | .blk id :: k, some (.exit id' σ A) => evK E fuel k (if id' = id then some (.normal σ A) else some (.exit id' σ A))
  | _ :: k, o => evK E fuel k o

noncomputable def run (E : Env) (fuel : Nat) (k : List KC) (σ : List AV) (A : Arena) : Option Out := evK E fuel k (some (.normal σ A))
noncomputable def exits (E : Env) (fuel : Nat) (id : Nat) (k : List KC) (σ : List AV) (A : Arena) : Option Out := evK E fuel k (some (.exit id σ A))
noncomputable def after (E : Env) (fuel : Nat) (k : List KC) (o : Out) : Option Out := evK E fuel k (some o)

section
variable {E : Env} {fuel : Nat} {σ : List AV} {A : Arena} {k : List KC}

theorem evK_none : ∀ k, evK E fuel k none = none
  | [] => rfl
  | .code _ :: k => by simp [evK, evK_none k]
  | .ops _ _ :: k => by simp [evK, evK_none k]
  | .opsF .. :: k => by simp [evK, evK_none k]
  | .blk _ :: k => by simp [evK, evK_none k]
theorem evK_ret : ∀ k, evK E fuel k (some (.ret σ A)) = some (.ret σ A)
  | [] => rfl
  | .code _ :: k => by simp [evK, evK_ret k]
  | .ops _ _ :: k => by simp [evK, evK_ret k]
  | .opsF .. :: k => by simp [evK, evK_ret k]
  | .blk _ :: k => by simp [evK, evK_ret k]

theorem evC_run (c : MC) : evC E fuel c σ A = run E fuel [.code c] σ A := rfl
theorem run_nil : run E fuel [] σ A = some (.normal σ A) := rfl
theorem run_skip : run E fuel (.code .skip :: k) σ A = run E fuel k σ A := rfl
theorem run_seq (a b : MC) : run E fuel (.code (.seq a b) :: k) σ A = run E fuel (.code a :: .code b :: k) σ A := by
  simp only [run, evK, evC]
  cases evC E fuel a σ A with
  | none => simp [evK_none]
  | some o => cases o <;> simp [evK]
theorem run_region (l : List MO) : run E fuel (.code (.region l) :: k) σ A = run E fuel (.ops l [] :: k) σ A := rfl
theorem run_regionD (pu : List FuncId) (l : List MO) (pairs : List (Nat × Nat)) : run E fuel (.code (.regionD pu l pairs) :: k) σ A = run E fuel (.opsF pu l [] [] pairs :: k) σ A := rfl
theorem run_block (id : Nat) (a : MC) : run E fuel (.code (.block id a) :: k) σ A = run E fuel (.code a :: .blk id :: k) σ A := by
  simp only [run, evK, evC]
  cases evC E fuel a σ A with
  | none => simp [evK_none]
  | some o => cases o <;> simp [evK, evK_ret]
theorem run_blk (id : Nat) : run E fuel (.blk id :: k) σ A = run E fuel k σ A := rfl
theorem run_scope (a : MC) : run E fuel (.code (.scope a) :: k) σ A = run E fuel (.code a :: k) σ A := rfl
theorem run_kill (mask : List Nat) : run E fuel (.code (.kill mask) :: k) σ A = run E fuel k (clear mask σ) A := rfl
theorem run_ret : run E fuel (.code .ret :: k) σ A = some (.ret σ A) := evK_ret _
theorem run_exit (id : Nat) : run E fuel (.code (.exit id) :: k) σ A = exits E fuel id k σ A := rfl
theorem exits_nil (id : Nat) : exits E fuel id [] σ A = some (.exit id σ A) := rfl
theorem exits_code (id : Nat) (c : MC) : exits E fuel id (.code c :: k) σ A = exits E fuel id k σ A := rfl
theorem exits_ops (id : Nat) (l : List MO) (T : List AV) : exits E fuel id (.ops l T :: k) σ A = exits E fuel id k σ A := rfl
theorem exits_opsF (id : Nat) (pu : List FuncId) (l : List MO) (T : List AV) (fs : List Foot) (pairs : List (Nat × Nat)) : exits E fuel id (.opsF pu l T fs pairs :: k) σ A = exits E fuel id k σ A := rfl
theorem exits_blk (id : Nat) : exits E fuel id (.blk id :: k) σ A = run E fuel k σ A := by simp [exits, evK, run]
theorem exits_blk_ne (id id' : Nat) (h : id ≠ id') : exits E fuel id (.blk id' :: k) σ A = exits E fuel id k σ A := by simp [exits, evK, h]
theorem run_cond (c : MX) (a b : MC) (t : Bool) (h : evX E σ [] c = .bool t) : run E fuel (.code (.cond c a b) :: k) σ A = if t then run E fuel (.code a :: k) σ A else run E fuel (.code b :: k) σ A := by
  simp only [run, evK, evC, h]; cases t <;> rfl
theorem run_cond_t (c : MX) (a b : MC) (h : evX E σ [] c = .bool true) : run E fuel (.code (.cond c a b) :: k) σ A = run E fuel (.code a :: k) σ A := by
  rw [run_cond c a b true h]; rfl
theorem run_cond_f (c : MX) (a b : MC) (h : evX E σ [] c = .bool false) : run E fuel (.code (.cond c a b) :: k) σ A = run E fuel (.code b :: k) σ A := by
  rw [run_cond c a b false h]; rfl
theorem run_ops_nil (T : List AV) : run E fuel (.ops [] T :: k) σ A = run E fuel k σ A := rfl
theorem run_op (d : Option Nat) (op : MOp) (rest : List MO) (T : List AV) : run E fuel (.ops (⟨d, op, none⟩ :: rest) T :: k) σ A =
    match evStep E (evX E σ T) A op with
    | some (v, A') => run E fuel (.ops rest (T ++ [v]) :: k) (setVar σ d v) A'
    | none => none := by
  simp only [run, evK, evOps, evGuard]
  cases evStep E (evX E σ T) A op with
  | none => simp [evK_none]
  | some x => rfl
theorem run_op_wanted (d : Option Nat) (op : MOp) (rest : List MO) (T : List AV) (x : MX) (want : Bool) (h : evX E σ T x = .bool want) : run E fuel (.ops (⟨d, op, some (x, want)⟩ :: rest) T :: k) σ A =
    match evStep E (evX E σ T) A op with
    | some (v, A') => run E fuel (.ops rest (T ++ [v]) :: k) (setVar σ d v) A'
    | none => none := by
  simp only [run, evK, evOps, evGuard, h]
  cases want <;> cases evStep E (evX E σ T) A op <;> simp [evK, evK_none, evOps]
theorem run_op_unwanted (d : Option Nat) (op : MOp) (rest : List MO) (T : List AV) (x : MX) (want : Bool) (h : evX E σ T x = .bool (!want)) : run E fuel (.ops (⟨d, op, some (x, want)⟩ :: rest) T :: k) σ A =
    run E fuel (.ops rest (T ++ [.tup []]) :: k) (setVar σ d (.tup [])) A := by
  simp only [run, evK, evOps, evGuard, h]
  cases want <;> rfl
theorem run_op_idle (d : Option Nat) (op : MOp) (rest : List MO) (T : List AV) (x : MX) (want : Bool) (h : evX E σ T x = .tup []) : run E fuel (.ops (⟨d, op, some (x, want)⟩ :: rest) T :: k) σ A =
    run E fuel (.ops rest (T ++ [.tup []]) :: k) (setVar σ d (.tup [])) A := by
  simp only [run, evK, evOps, evGuard, h]

theorem run_opsF_nil (pu : List FuncId) (T : List AV) (fs : List Foot) (pairs : List (Nat × Nat)) : run E fuel (.opsF pu [] T fs pairs :: k) σ A = if pairs.all (fun p => (fs.getD p.1 .no).apart (fs.getD p.2 .no)) then run E fuel k σ A else none := by
  simp only [run, evK, evOpsF]
  split
  · rfl
  · exact evK_none _
theorem run_opF (pu : List FuncId) (d : Option Nat) (op : MOp) (rest : List MO) (T : List AV) (fs : List Foot) (pairs : List (Nat × Nat)) : run E fuel (.opsF pu (⟨d, op, none⟩ :: rest) T fs pairs :: k) σ A =
    match evStep E (evX E σ T) A op with
    | some (v, A') => run E fuel (.opsF pu rest (T ++ [v]) (fs ++ [footOp pu (evX E σ T) A op]) pairs :: k) (setVar σ d v) A'
    | none => none := by
  simp only [run, evK, evOpsF, evGuard]
  cases evStep E (evX E σ T) A op with
  | none => simp [evK_none]
  | some x => rfl
theorem run_opF_wanted (pu : List FuncId) (d : Option Nat) (op : MOp) (rest : List MO) (T : List AV) (fs : List Foot) (pairs : List (Nat × Nat)) (x : MX) (want : Bool) (h : evX E σ T x = .bool want) : run E fuel (.opsF pu (⟨d, op, some (x, want)⟩ :: rest) T fs pairs :: k) σ A =
    match evStep E (evX E σ T) A op with
    | some (v, A') => run E fuel (.opsF pu rest (T ++ [v]) (fs ++ [footOp pu (evX E σ T) A op]) pairs :: k) (setVar σ d v) A'
    | none => none := by
  simp only [run, evK, evOpsF, evGuard, h]
  cases want <;> cases evStep E (evX E σ T) A op <;> simp [evK, evK_none, evOpsF]
theorem run_opF_unwanted (pu : List FuncId) (d : Option Nat) (op : MOp) (rest : List MO) (T : List AV) (fs : List Foot) (pairs : List (Nat × Nat)) (x : MX) (want : Bool) (h : evX E σ T x = .bool (!want)) : run E fuel (.opsF pu (⟨d, op, some (x, want)⟩ :: rest) T fs pairs :: k) σ A =
    run E fuel (.opsF pu rest (T ++ [.tup []]) (fs ++ [.no]) pairs :: k) (setVar σ d (.tup [])) A := by
  simp only [run, evK, evOpsF, evGuard, h]
  cases want <;> rfl
theorem run_opF_idle (pu : List FuncId) (d : Option Nat) (op : MOp) (rest : List MO) (T : List AV) (fs : List Foot) (pairs : List (Nat × Nat)) (x : MX) (want : Bool) (h : evX E σ T x = .tup []) : run E fuel (.opsF pu (⟨d, op, some (x, want)⟩ :: rest) T fs pairs :: k) σ A =
    run E fuel (.opsF pu rest (T ++ [.tup []]) (fs ++ [.no]) pairs :: k) (setVar σ d (.tup [])) A := by
  simp only [run, evK, evOpsF, evGuard, h]

theorem run_loop (mask : List Nat) (a : MC) (o : Out) (h : iter (evC E fuel a) mask fuel σ A = some o) : run E fuel (.code (.loop mask a) :: k) σ A = after E fuel k o := by
  simp only [run, evK, evC, h, after]
/-- a loop whose rounds can be counted out -/
theorem run_loopE (mask : List Nat) (a : MC) : run E fuel (.code (.loop mask a) :: k) σ A = match iter (evC E fuel a) mask fuel σ A with
    | some o => after E fuel k o
    | none => none := by
  unfold run after
  simp only [evK, evC]
  cases iter (evC E fuel a) mask fuel σ A with
  | none => exact evK_none _
  | some o => rfl
theorem clear_set (mask : List Nat) : ∀ (σ : List AV) (i : Nat), (clear mask σ).set i .undef = clear mask (σ.set i .undef) := by
  induction mask with
  | nil => intro σ i; rfl
  | cons j m ih =>
    intro σ i
    show (clear m (σ.set j .undef)).set i .undef = clear m ((σ.set i .undef).set j .undef)
    rw [ih]
    congr 1
    by_cases h : i = j
    · subst h; rfl
    · exact (List.set_comm _ _ h).symm
theorem clear_clear (mask : List Nat) : ∀ σ : List AV, clear mask (clear mask σ) = clear mask σ := by
  induction mask with
  | nil => intro σ; rfl
  | cons j m ih =>
    intro σ
    show clear m ((clear m (σ.set j .undef)).set j .undef) = clear m (σ.set j .undef)
    rw [clear_set, List.set_set, ih]
theorem iter_clear (body : List AV → Arena → Option Out) (mask : List Nat) (n : Nat) (σ : List AV) (A : Arena) : iter body mask n σ A = iter body mask n (clear mask σ) A := by
  cases n with
  | zero => rfl
  | succ n => simp only [iter, clear_clear]
/-- a loop, from what is alive of its slots -/
theorem run_loopC (mask : List Nat) (a : MC) (o : Out) (h : iter (evC E fuel a) mask fuel (clear mask σ) A = some o) : run E fuel (.code (.loop mask a) :: k) σ A = after E fuel k o :=
  run_loop mask a o (by rw [iter_clear]; exact h)
/-- what holds of a loop: 'I k' before a round of which at most k can follow -/
theorem iter_inv {a : MC} {mask : List Nat} (I : Nat → List AV → Arena → Prop) (Q : Out → Prop) (hs : ∀ k σ A, I k σ A → (∃ σ' A', run E fuel [.code a] (clear mask σ) A = some (.normal σ' A') ∧ ∃ k', k' < k ∧ I k' σ' A') ∨ (∃ o, run E fuel [.code a] (clear mask σ) A = some o ∧ (∀ σ' A', o ≠ .normal σ' A') ∧ Q o)) :
    ∀ (n k : Nat) (σ : List AV) (A : Arena), k < n → I k σ A → ∃ o, iter (evC E fuel a) mask n σ A = some o ∧ Q o := by
  intro n
  induction n with
  | zero => intro k σ A h; omega
  | succ n ih =>
    intro k σ A h hi
    rw [iter]
    rcases hs k σ A hi with ⟨σ', A', h1, k', h2, h3⟩ | ⟨o, h1, h2, h3⟩
    · rw [evC_run, h1]
      exact ih k' σ' A' (by omega) h3
    · rw [evC_run, h1]
      cases o with
      | normal σ' A' => exact absurd rfl (h2 σ' A')
      | exit id σ' A' => exact ⟨_, rfl, h3⟩
      | ret σ' A' => exact ⟨_, rfl, h3⟩
theorem run_rangeFunc (f : MX) (ps : List Nat) (a b : MC) (o : Out)
    (h : ∀ (l : Nat) (r : Loop), (match E.callY (yieldH A.length l r σ ps (evC E fuel a) (evC E fuel b) E.hand) (evX E σ [] f) [.func (.yield l) [] []] (A ++ [Ent.loop r 0]) with
      | some (_, A') => afterR A.length σ A'
      | none => none) = some o) : run E fuel (.code (.rangeFunc f ps a b) :: k) σ A = after E fuel k o := by
  have : evC E fuel (.rangeFunc f ps a b) σ A = some o := by
    simp only [evC]
    exact evR_of (good := fun (_ : Nat × Loop) => True) (0, default) trivial fun x _ => h x.1 x.2
  simp only [run, evK, this, after]
theorem after_normal : after E fuel k (.normal σ A) = run E fuel k σ A := rfl
theorem after_exit (id : Nat) : after E fuel k (.exit id σ A) = exits E fuel id k σ A := rfl
theorem after_ret : after E fuel k (.ret σ A) = some (.ret σ A) := evK_ret _

theorem run_of {c : MC} {o : Out} (h : run E fuel [.code c] σ A = some o) (k : List KC) : run E fuel (.code c :: k) σ A = after E fuel k o := by
  simp only [run, evK] at h
  simp only [run, evK, h, after]

/-- a round of a loop -/
theorem iter_succ (a : MC) (mask : List Nat) (n : Nat) : iter (evC E fuel a) mask (n + 1) σ A = match run E fuel [.code a] (clear mask σ) A with
    | some (.normal σ' A') => iter (evC E fuel a) mask n σ' A'
    | x => x := rfl

/-- a function, by the machine -/
theorem evFun_run (mf : MFun) (args : List AV) (h : args.length = mf.n) : evFun E fuel mf args A = match run E fuel [.code mf.mc] (args ++ List.replicate (mf.len - mf.n) .undef) A with
    | some (.normal σ A') => (evRes A' σ mf.res).map fun l => (pack l, A')
    | some (.ret σ A') => (evRes A' σ mf.res).map fun l => (pack l, A')
    | _ => none := by
  unfold evFun; rw [if_pos h]; rfl
end

open Classical in
theorem PureSpec.of_fns {P : Program} {G : Nat → Option (List AV)} {f : FuncId} {M' : Nat → Model} {M : PModel} (h : ∀ fuel, FnSpec P G f (M' fuel)) (n : Nat) (hM : ∀ args r, M args = some r → ∃ fuel r0 A', M' fuel args [] = some (r0, A') ∧ frz A' n r0 = r) : PureSpec P G f M := by
  refine ⟨(h 0).1, ?_⟩
  intro args r he
  obtain ⟨fuel, r0, A', h1, h2⟩ := hM args r he
  exact (PureSpec.of_fn (M := fun a => if a = args then some r else none) (h fuel) n (fun a r' h' => by
    split at h'
    · rename_i e; injection h' with h'; subst h'; subst e; exact ⟨r0, A', h1, h2⟩
    · cases h')).2 args r (by simp)
end Go.Proofs.YtkdjebioapholaaDoor
/-
  The rows that 'simp' runs functions by, and numbers. Program-independent.
-/
namespace Go.Proofs.YtkdjebioapholaaDoor
open Go

attribute [simp] run_skip run_kill run_regionD exits_opsF run_opsF_nil run_opF run_opF_wanted run_opF_unwanted run_opF_idle footOp idsOf meetNo Foot.apart Foot.no evBuildF reflessB reflessB1 evMakeMap evLookup evMapUpdate findA keyEq isKey evEqAgg eqOffs eqK run_seq run_region run_block run_blk run_scope run_ret run_exit run_nil exits_nil exits_code exits_ops exits_blk exits_blk_ne run_cond_t run_cond_f run_ops_nil run_op run_op_wanted run_op_unwanted run_op_idle
  after_normal after_exit after_ret clear evStep evX evOp setVar evBin evEqBool evUn evConvInt evLoad evIndexSl evIndexStr evSliceStr evSliceSl evBounds hiB loB evExtract evLenStr evLenSl evMin2 evMinL evBox evBuildSlice evRes pack
  pureH pureM callM lookM frz scalarB noRefB flat1 AV.solid cellsOf evNilCheck evFieldAddr evPart fillA isNilA evMake evToBytes storeElem evStore

@[simp] theorem envY_call (G : Nat → Option (List AV)) (fs : List (FuncId × HModel)) (h : Handler) (f : FuncId) (a b args : List AV) (A : Arena) : (envY G fs h).call (.func (.func f) a b) args A = callM fs h (.func (.func f) a b) args A := rfl
@[simp] theorem envY_callYield (G : Nat → Option (List AV)) (fs : List (FuncId × HModel)) (h : Handler) (l : Nat) (a b args : List AV) (A : Arena) : (envY G fs h).call (.func (.yield l) a b) args A = match h (.func (.yield l) a b) args A with
  | some x => some x
  | none => callM fs h (.func (.yield l) a b) args A := rfl
@[simp] theorem envY_glob (G : Nat → Option (List AV)) (fs : List (FuncId × HModel)) (h : Handler) : (envY G fs h).glob = G := rfl
@[simp] theorem envY_hand (G : Nat → Option (List AV)) (fs : List (FuncId × HModel)) (h : Handler) : (envY G fs h).hand = h := rfl
@[simp] theorem envY_callY (G : Nat → Option (List AV)) (fs : List (FuncId × HModel)) (h : Handler) : (envY G fs h).callY = callM fs := rfl
@[simp] theorem envOf_call (G : Nat → Option (List AV)) (fs : List (FuncId × HModel)) (f : FuncId) (a b args : List AV) (A : Arena) : (envOf G fs).call (.func (.func f) a b) args A = callM fs (fun _ _ _ => none) (.func (.func f) a b) args A := rfl
@[simp] theorem envOf_glob (G : Nat → Option (List AV)) (fs : List (FuncId × HModel)) : (envOf G fs).glob = G := rfl
@[simp] theorem envOf_hand (G : Nat → Option (List AV)) (fs : List (FuncId × HModel)) : (envOf G fs).hand = fun _ _ _ => none := rfl
@[simp] theorem envOf_callY (G : Nat → Option (List AV)) (fs : List (FuncId × HModel)) : (envOf G fs).callY = callM fs := rfl

@[simp] theorem loadElem_bool (b : Bool) (esz size : Nat) : loadElem (.bool b) esz 0 false size = some (.bool b) := rfl
@[simp] theorem loadElem_int (k : IntKind) (b : Int) (esz size : Nat) : loadElem (.int k b) esz 0 false size = some (.int k b) := rfl
@[simp] theorem loadElem_str (b : List UInt8) (esz size : Nat) : loadElem (.str b) esz 0 false size = some (.str b) := rfl
@[simp] theorem loadElem_nilS (esz size : Nat) : loadElem .nilS esz 0 false size = some .nilS := rfl
@[simp] theorem loadElem_nilP (esz size : Nat) : loadElem .nilP esz 0 false size = some .nilP := rfl
@[simp] theorem loadElem_nilM (esz size : Nat) : loadElem .nilM esz 0 false size = some .nilM := rfl
@[simp] theorem loadElem_nilF (esz size : Nat) : loadElem .nilF esz 0 false size = some .nilF := rfl
@[simp] theorem loadElem_nilI (esz size : Nat) : loadElem .nilI esz 0 false size = some .nilI := rfl
@[simp] theorem loadElem_fs (a : Nat) (b : List AV) (esz size : Nat) : loadElem (.fs a b) esz 0 false size = some (.fs a b) := rfl
@[simp] theorem loadElem_sl (a b c : Nat) (esz size : Nat) : loadElem (.sl a b c) esz 0 false size = some (.sl a b c) := rfl
@[simp] theorem loadElem_ptr (a b c : Nat) (esz size : Nat) : loadElem (.ptr a b c) esz 0 false size = some (.ptr a b c) := rfl
@[simp] theorem loadElem_fp (a : List AV) (esz size : Nat) : loadElem (.fp a) esz 0 false size = some (.fp a) := rfl
@[simp] theorem loadElem_func (f : Fn) (a b : List AV) (esz size : Nat) : loadElem (.func f a b) esz 0 false size = some (.func f a b) := rfl
@[simp] theorem loadElem_map (a : Nat) (esz size : Nat) : loadElem (.map a) esz 0 false size = some (.map a) := rfl
@[simp] theorem loadElem_iface (t : TypeId) (v : AV) (esz size : Nat) : loadElem (.iface t v) esz 0 false size = some (.iface t v) := rfl
@[simp] theorem loadElem_part (cs : List AV) (esz o size : Nat) : loadElem (.agg cs) esz o false size = cs[o]? := rfl
@[simp] theorem loadElem_agg (cs : List AV) (esz : Nat) : loadElem (.agg cs) esz 0 true esz = some (.agg cs) := by unfold loadElem; simp

/-- a function without a mark: its frozen result -/
noncomputable def evP (E : Env) (fuel : Nat) (mf : MFun) (n : Nat) (args : List AV) : Option AV := (evFun E fuel mf args []).map fun x => frz x.2 n x.1

theorem evP_run {E : Env} {fuel : Nat} {n : Nat} (mf : MFun) (args : List AV) (h : args.length = mf.n) : evP E fuel mf n args = match run E fuel [.code mf.mc] (args ++ List.replicate (mf.len - mf.n) .undef) [] with
    | some (.normal σ A') => (evRes A' σ mf.res).map fun l => frz A' n (pack l)
    | some (.ret σ A') => (evRes A' σ mf.res).map fun l => frz A' n (pack l)
    | _ => none := by
  unfold evP
  rw [evFun_run mf args h]
  cases run E fuel [.code mf.mc] (args ++ List.replicate (mf.len - mf.n) .undef) [] with
  | none => rfl
  | some o => cases o with
    | normal σ A => simp [Option.map_map]; rfl
    | exit id σ A => rfl
    | ret σ A => simp [Option.map_map]; rfl

theorem PureSpec.of_ev {P : Program} {E : Env} {f : FuncId} {fn : Func} {k : Nat} {vs : List Nat} {pu : List FuncId} {on : Bool} {hints : Hints} {mf : MFun} (hE : EnvSound P E) (hys : E.ys = []) (hf : P.funcs[f]? = some fn) (hc : compFun P fn k vs pu on hints = some mf) (n : Nat) {M : PModel}
    (hM : ∀ args r, M args = some r → ∃ fuel, evP E fuel mf n args = some r) (hpu : PureIn E pu := by first | exact PureIn.nil | (repeat (first | exact PureIn.nil | refine PureIn.cons (M := _) rfl ?_))) : PureSpec P E.glob f M :=
  PureSpec.of_fns (M' := fun fuel => evFun E fuel mf) (fun fuel => evFun_sound hE hys hf hc hpu) n fun args r h => by
    obtain ⟨fuel, h⟩ := hM args r h
    unfold evP at h
    cases h1 : evFun E fuel mf args [] with
    | none => rw [h1] at h; cases h
    | some x => rw [h1] at h; injection h with h; exact ⟨fuel, x.1, x.2, h1, h⟩

@[simp] theorem srcElems_fs (esz : Nat) (A : Arena) (es : List AV) : srcElems esz A (.fs esz es) = some es := by simp [srcElems]
@[simp] theorem srcElems_nil (esz : Nat) (A : Arena) : srcElems esz A .nilS = some [] := rfl
@[simp] theorem srcElems_str (A : Arena) (l : List UInt8) : srcElems 1 A (.str l) = some (l.map fun b => .int .u8 b.toNat) := rfl
theorem srcElems_sl {A : Arena} {id : Nat} {esz : Nat} {gr : Bool} {es : List AV} (h : A[id]? = some (.row esz gr es)) (off len : Nat) : srcElems esz A (.sl id off len) = some ((es.drop off).take len) := by simp [srcElems, h]
@[simp] theorem srcElems_new (A : Arena) (esz : Nat) (gr : Bool) (es : List AV) : srcElems esz (A ++ [Ent.row esz gr es]) (.sl A.length 0 es.length) = some es := by simp [srcElems]

/-- a slice that is all of its row, and what it holds -/
def Full (A : Arena) (o : AV) (esz : Nat) (xs : List AV) : Prop := (o = .nilS ∧ xs = []) ∨ ∃ id gr, o = .sl id 0 xs.length ∧ A[id]? = some (.row esz gr xs)

theorem Full.keep {A A' : Arena} {o : AV} {esz : Nat} {xs : List AV} (h : Full A o esz xs) (hk : ∀ id n, o = .sl id 0 n → A'[id]? = A[id]?) : Full A' o esz xs := by
  rcases h with h | ⟨id, gr, h1, h2⟩
  · exact .inl h
  · exact .inr ⟨id, gr, h1, (hk id _ h1).trans h2⟩
theorem Full.push {A : Arena} {o : AV} {esz : Nat} {xs : List AV} (h : Full A o esz xs) (e : Ent) : Full (A ++ [e]) o esz xs := by
  rcases h with h | ⟨id, gr, h1, h2⟩
  · exact .inl h
  · exact .inr ⟨id, gr, h1, by rw [List.getElem?_append_left (List.getElem?_eq_some_iff.1 h2).1]; exact h2⟩
theorem Full.src {A : Arena} {o : AV} {esz : Nat} {xs : List AV} (h : Full A o esz xs) : srcElems esz A o = some xs := by
  rcases h with ⟨rfl, rfl⟩ | ⟨id, gr, rfl, h2⟩
  · rfl
  · simp [srcElems, h2]
theorem Full.length_le {A : Arena} {esz id n : Nat} {xs : List AV} (h : Full A (.sl id 0 n) esz xs) : id < A.length ∧ n = xs.length := by
  rcases h with ⟨h, _⟩ | ⟨id', gr, h1, h2⟩
  · cases h
  · cases h1; exact ⟨(List.getElem?_eq_some_iff.1 h2).1, rfl⟩

theorem append_full {A : Arena} {o x : AV} {esz bytes : Nat} {xs ys : List AV} (h : Full A o esz xs) (hx : srcElems esz A x = some ys) (hy : ys ≠ []) (he : 0 < esz) (hb : 0 < bytes) (hs : (xs.length + ys.length) * bytes ≤ 140737488355328) :
    ∃ o' A', evAppend esz bytes A o x = some (o', A') ∧ Full A' o' esz (xs ++ ys) ∧ A.length ≤ A'.length ∧ (∀ id, id < A.length → (∀ n, o ≠ .sl id 0 n) → A'[id]? = A[id]?) := by
  have hpos : 0 < ys.length := List.length_pos_iff.2 hy
  rcases h with ⟨rfl, rfl⟩ | ⟨id, gr, rfl, h2⟩
  · refine ⟨.sl A.length 0 ys.length, A ++ [.row esz false ys], ?_, .inr ⟨A.length, false, by simp, by simp⟩, by simp, fun id hid _ => by rw [List.getElem?_append_left hid]⟩
    simp only [List.length_nil, Nat.zero_add] at hs
    unfold evAppend; rw [hx]; simp [he, hb, hs, hy]
  · refine ⟨.sl id 0 (xs.length + ys.length), A.set id (.row esz true (xs ++ ys)), ?_, .inr ⟨id, true, by simp, by simp [(List.getElem?_eq_some_iff.1 h2).1]⟩, by simp, fun k hk hne => ?_⟩
    · unfold evAppend; rw [hx]; simp [h2, he, hb, hs]
    · rw [List.getElem?_set_ne (fun e => hne _ (by rw [e]))]

/-- bytes as elements -/
def bytesA (l : List UInt8) : List AV := l.map fun b => .int .u8 b.toNat
theorem toStr_full {A : Arena} {o : AV} {l : List UInt8} (h : Full A o 1 (bytesA l)) : evToStr A o = some (.str l) := by
  have hu : ∀ l : List UInt8, u8s (bytesA l) = some (l.map fun b => (b.toNat : Int)) := u8s_bytes
  have hm : ∀ l : List UInt8, (l.map fun b => (b.toNat : Int)).map (fun n => UInt8.ofNat n.toNat) = l := fun l => by
    rw [List.map_map]; conv => rhs; rw [← List.map_id l]
    apply List.map_congr_left; intro b _; simp
  have hs := h.src
  rcases h with ⟨rfl, h2⟩ | ⟨id, gr, rfl, h2⟩
  · simp only [evToStr, hs, hu, hm, Option.map_some]
  · simp only [evToStr, hs, hu, hm, Option.map_some]

@[simp] theorem int_beq (a b : Int) : (a == b) = decide (a = b) := by
  by_cases h : a = b <;> simp [h]
@[simp] theorem int_bne (a b : Int) : (a != b) = !decide (a = b) := by
  by_cases h : a = b <;> simp [h]
@[simp] theorem nat_not_neg (n : Nat) : ((n : Int) < 0) = False := by simp
@[simp] theorem bits_i64 : IntKind.i64.bits = 64 := rfl
@[simp] theorem bits_u64 : IntKind.u64.bits = 64 := rfl
@[simp] theorem bits_u32 : IntKind.u32.bits = 32 := rfl
@[simp] theorem bits_i32 : IntKind.i32.bits = 32 := rfl
@[simp] theorem bits_u8 : IntKind.u8.bits = 8 := rfl

def inI (a : Int) : Prop := -9223372036854775808 ≤ a ∧ a ≤ 9223372036854775807
theorem wrapI {a : Int} (h : inI a) : IntKind.i64.wrap a = a := wrap_i64 h.1 h.2
theorem wrapU64 {a : Int} (h : 0 ≤ a ∧ a < 18446744073709551616) : IntKind.u64.wrap a = a := by
  unfold IntKind.wrap; simp [IntKind.signed, IntKind.bits]; omega
theorem wrapU32 {a : Int} (h : 0 ≤ a ∧ a < 4294967296) : IntKind.u32.wrap a = a := by
  unfold IntKind.wrap; simp [IntKind.signed, IntKind.bits]; omega
theorem wrapU8 {a : Int} (h : 0 ≤ a ∧ a < 256) : IntKind.u8.wrap a = a := by
  unfold IntKind.wrap; simp [IntKind.signed, IntKind.bits]; omega
end Go.Proofs.YtkdjebioapholaaDoor
/-
  Arguments ls trees of memory that nobody writes; the contract of a law that returns true. Program-independent.
-/
namespace Go.Proofs.YtkdjebioapholaaDoor
open Go
open Go.ChangeShapes Go.WideShapes

def aggT (P : Program) (t : TypeId) : Bool := match P.underlying t with
  | some (.struct _) | some (.array _ _) => true
  | _ => false
/-- a value of a type, of its cells -/
def wholeA (P : Program) (t : TypeId) (xs : List AV) : AV := if aggT P t then .agg xs else xs.headD .undef

/-- fields that lie one behind the other -/
def contigB (P : Program) : Nat → List Field → Nat → Bool
  | k, [], n => k == n
  | k, f :: r, n => f.offset == k && contigB P (k + P.cellsOf f.type) r n

/-- types from which nothing but integers, strings, booleans and slices is met -/
def plainT (P : Program) : Nat → TypeId → Bool
  | 0, _ => false
  | n + 1, t => match P.underlying t with
    | some .bool | some (.int _) | some .string => P.cellsOf t == 1
    | some (.slice e) => P.cellsOf t == 1 && Nat.blt 0 (P.cellsOf e) && plainT P n e
    | some (.struct fs) => fs.toList.all (fun f => plainT P n f.type) && contigB P 0 fs.toList (P.cellsOf t)
    | some (.array m e) => P.cellsOf t == m * P.cellsOf e && Nat.blt 0 (P.cellsOf e) && plainT P n e
    | _ => false

def TCs (P : Program) (T : TypeId → List AV → Prop) : List Field → List AV → Prop
  | [], ls => ls = []
  | f :: r, ls => ∃ a b, ls = a ++ b ∧ T f.type a ∧ a.length = P.cellsOf f.type ∧ TCs P T r b
def TCa (T : List AV → Prop) (size : Nat) : Nat → List AV → Prop
  | 0, ls => ls = []
  | m + 1, ls => ∃ a b, ls = a ++ b ∧ T a ∧ a.length = size ∧ TCa T size m b
/-- the cells of a value of a type -/
def TC (P : Program) : Nat → TypeId → List AV → Prop
  | 0, _, _ => False
  | n + 1, t, ls => match P.underlying t with
    | some .bool => ∃ b, ls = [.bool b]
    | some (.int k) => ∃ z, ls = [.int k z] ∧ (k.min ≤ z ∧ z ≤ k.max)
    | some .string => ∃ s, ls = [.str s] ∧ s.length ≤ 9223372036854775807
    | some (.slice e) => ls = [.nilS] ∨ ∃ es : List AV, ls = [.fs (P.cellsOf e) es] ∧ es.length ≤ 9223372036854775807 ∧ ∀ x ∈ es, ∃ xs, TC P n e xs ∧ xs.length = P.cellsOf e ∧ x = wholeA P e xs
    | some (.struct fs) => TCs P (TC P n) fs.toList ls
    | some (.array m e) => TCa (TC P n e) (P.cellsOf e) m ls
    | _ => False
/-- a value of a type -/
def TA (P : Program) (n : Nat) (t : TypeId) (a : AV) : Prop := ∃ xs, TC P n t xs ∧ xs.length = P.cellsOf t ∧ a = wholeA P t xs

section
variable {H : Type} {enc : TypeId × Value → H} {P : Program} {w : World} {held : Bool}

theorem cellQ {a : Addr} {n : Nat} {cs : List Value} (h : w.cells? 0 a n = some cs) : cs.length = n ∧ ∀ j, j < n → ∃ v, cs[j]? = some v ∧ w.cell? (a.add j) = some v := by
  unfold World.cells? at h
  rw [if_pos (Nat.zero_le _)] at h
  have hl : cs.length = n := by simpa using mapM_some_length h
  refine ⟨hl, fun j hj => ?_⟩
  have := mapM_some_get h j j (by simp [hj])
  rw [this]
  exact ⟨cs[j], by simp [hl, hj], by simp [hl, hj]⟩

theorem addr_add_add (a : Addr) (i j : Nat) (h : a.spot = none) : (a.add i).add j = ⟨a.block, a.off + i + j, none⟩ := by
  obtain ⟨b, o, s⟩ := a
  simp only at h
  subst h
  rw [addr_add, addr_add]

theorem headD_get {α : Type} (l : List α) (d : α) (h : 0 < l.length) : l.headD d = l[0] := by
  cases l with
  | nil => simp at h
  | cons y r => rfl
theorem scalar_cells {n : Nat} {t : TypeId} (hp : plainT P n t = true) (ha : aggT P t = false) : P.cellsOf t = 1 := by
  cases n with
  | zero => cases hp
  | succ n =>
    unfold plainT at hp
    unfold aggT at ha
    split at hp
    · exact beq_iff_eq.1 hp
    · exact beq_iff_eq.1 hp
    · exact beq_iff_eq.1 hp
    · simp only [Bool.and_eq_true, beq_iff_eq] at hp; exact hp.1.1
    · rename_i hu; rw [hu] at ha; cases ha
    · rename_i hu; rw [hu] at ha; cases ha
    · cases hp

/-- what is read ls data is a tree -/
theorem trod_tree : ∀ (n fuel : Nat) (t : TypeId) (cs : List Value) (x : DataW H × List MemPlace), plainT P n t = true → DataW.trod enc P w 0 (fun _ => true) held fuel t cs = some x →
    ∃ ls : List AV, ls.length = cs.length ∧ cs.length = P.cellsOf t ∧ TC P n t ls ∧ ∀ i (h : i < ls.length), ∃ v, cs[i]? = some v ∧ v.oneCell' = true ∧ VRel w (fun b => b < w.heap.size) Ghost.none v ls[i] := by
  intro n
  induction n with
  | zero => intro fuel t cs x h; cases h
  | succ n ih =>
    intro fuel t cs x hp h
    unfold plainT at hp
    split at hp
    · -- bool
      rename_i hu
      obtain ⟨b, rfl, _⟩ := DataW.trod_bool hu h
      refine ⟨[.bool b], rfl, by simpa using (beq_iff_eq.1 hp).symm, by simp only [TC, hu]; exact ⟨b, rfl⟩, fun i hi => ?_⟩
      obtain rfl : i = 0 := by simpa using hi
      exact ⟨_, rfl, rfl, .bool _ _⟩
    · rename_i k hu
      obtain ⟨z, rfl, _, hw⟩ := DataW.trod_int hu h
      refine ⟨[.int k z], rfl, by simpa using (beq_iff_eq.1 hp).symm, ?_, fun i hi => ?_⟩
      · simp only [TC, hu]
        simp only [Lit.wf, Bool.and_eq_true, decide_eq_true_eq] at hw
        exact ⟨z, rfl, hw⟩
      · obtain rfl : i = 0 := by simpa using hi
        exact ⟨_, rfl, rfl, .int _ _ _⟩
    · rename_i hu
      obtain ⟨s, rfl, _, hw⟩ := DataW.trod_string hu h
      refine ⟨[.str s.data.toList], rfl, by simpa using (beq_iff_eq.1 hp).symm, ?_, fun i hi => ?_⟩
      · simp only [TC, hu]
        refine ⟨_, rfl, ?_⟩
        have h1 : s.data.toList.length = s.size := Array.length_toList
        have h2 : maxLen = 9223372036854775807 := by decide
        omega
      · obtain rfl : i = 0 := by simpa using hi
        exact ⟨_, rfl, rfl, .str _ _ _ rfl⟩
    · -- slice
      rename_i e hu
      simp only [Bool.and_eq_true, beq_iff_eq] at hp
      obtain ⟨⟨hc1, hpos⟩, hpe⟩ := hp
      have hpos : 0 < P.cellsOf e := by simpa [Nat.blt_eq] using hpos
      have fin : ∀ (v : Value) (a : AV), v.oneCell' = true → VRel w (fun b => b < w.heap.size) Ghost.none v a → TC P (n + 1) t [a] →
          ∃ ls : List AV, ls.length = [v].length ∧ [v].length = P.cellsOf t ∧ TC P (n + 1) t ls ∧ ∀ i (h : i < ls.length), ∃ v', [v][i]? = some v' ∧ v'.oneCell' = true ∧ VRel w (fun b => b < w.heap.size) Ghost.none v' ls[i] := by
        intro v a h1 h2 h3
        refine ⟨[a], rfl, by simp [hc1], h3, fun i hi => ?_⟩
        obtain rfl : i = 0 := by simpa using hi
        exact ⟨_, rfl, h1, h2⟩
      rcases DataW.trod_slice hu h with ⟨rfl, _⟩ | ⟨a, len, cap, elems, rest, m, rfl, rfl, _, _, hl, hcm, hel, hget, hrest, _⟩
      · exact fin _ _ rfl (.nilS _ _) (by simp only [TC, hu]; exact .inl trivial)
      · by_cases hcap : cap = 0
        · subst hcap
          obtain rfl : len = 0 := by omega
          exact fin _ _ rfl (.nilS _ _) (by simp only [TC, hu]; exact .inl trivial)
        · -- the block
          obtain ⟨hr1, hr2⟩ := hrest rfl
          have hblk : a.spot = none ∧ ∃ c T fz, w.heap[a.block]? = some (.cells c T fz) := by
            have h0 : ∃ z cs0, w.cells? 0 (a.add 0) (P.cellsOf e) = some cs0 ∧ DataW.trod enc P w 0 (fun _ => true) held m e cs0 = some z := by
              by_cases hl0 : len = 0
              · subst hl0
                have := hr2 0 (by omega)
                rw [List.getElem?_eq_getElem (show 0 < rest.length by omega)] at this
                simp only [Option.bind_eq_some_iff, Nat.add_zero, Nat.zero_mul] at this
                obtain ⟨cs0, k1, k2⟩ := this
                exact ⟨_, cs0, k1, k2⟩
              · have := hget 0 (by omega)
                rw [List.getElem?_eq_getElem (show 0 < elems.length by omega)] at this
                simp only [Option.bind_eq_some_iff, Nat.zero_mul] at this
                obtain ⟨cs0, k1, k2⟩ := this
                exact ⟨_, cs0, k1, k2⟩
            obtain ⟨_, cs0, k1, _⟩ := h0
            obtain ⟨_, k2⟩ := cellQ k1
            obtain ⟨v, _, k3⟩ := k2 0 hpos
            have hadd : (a.add 0).add 0 = a := by simp [Addr.add]
            rw [hadd] at k3
            unfold World.cell? at k3
            split at k3
            · rename_i c T fz hh
              split at k3
              · cases k3
              · rename_i hsp
                exact ⟨by simpa using hsp, c, T, fz, hh⟩
            · cases k3
          obtain ⟨hsp, c, T, fz, hh⟩ := hblk
          -- the elements
          have H1 : ∀ i, ∃ p : List Value × List AV, i < len → (w.cells? 0 (a.add (i * P.cellsOf e)) (P.cellsOf e) = some p.1 ∧ p.2.length = p.1.length ∧ p.1.length = P.cellsOf e ∧ TC P n e p.2 ∧
              ∀ j (h : j < p.2.length), ∃ v, p.1[j]? = some v ∧ v.oneCell' = true ∧ VRel w (fun b => b < w.heap.size) Ghost.none v p.2[j]) := by
            intro i
            by_cases hi : i < len
            · have := hget i hi
              rw [List.getElem?_eq_getElem (show i < elems.length by omega)] at this
              simp only [Option.bind_eq_some_iff] at this
              obtain ⟨cs0, k1, k2⟩ := this
              obtain ⟨ls, q1, q2, q3, q4⟩ := ih m e cs0 _ hpe k2
              exact ⟨(cs0, ls), fun _ => ⟨k1, q1, q2, q3, q4⟩⟩
            · exact ⟨([], []), fun h => absurd h hi⟩
          obtain ⟨F, hF⟩ := Classical.axiomOfChoice H1
          obtain ⟨b0, o0, s0⟩ := a
          simp only at hsp hh
          subst hsp
          have hlen : ((List.range len).map fun i => wholeA P e (F i).2).length = len := by simp
          refine fin (.slice (some ⟨b0, o0, none⟩) len cap) (.fs (P.cellsOf e) ((List.range len).map fun i => wholeA P e (F i).2)) rfl ?_ ?_
          · have hV := VRel.fs (w := w) (OK := fun b => b < w.heap.size) Ghost.none b0 o0 cap (P.cellsOf e) T c fz ((List.range len).map fun i => wholeA P e (F i).2)
              (fun i => if aggT P e then .agg (F i).1.toArray else (F i).1.headD undef) (Array.getElem?_eq_some_iff.1 hh).1 hh (by rw [hlen]; exact hl) (fun i hi => ?_) (fun i hi => ?_) (fun i hi j hj => ?_)
            · rw [hlen] at hV; exact hV
            · obtain ⟨_, k2, k3, _, k5⟩ := hF i (by rwa [hlen] at hi)
              simp only [List.getElem_map, List.getElem_range, wholeA]
              split
              · refine .agg _ _ _ (by simp [k2]) (fun j => (F i).1.getD j undef) (fun j hj => ?_) (fun j hj => ?_)
                · obtain ⟨v, e1, e2, _⟩ := k5 j hj
                  simp [List.getD_eq_getElem?_getD, e1, e2]
                · obtain ⟨v, e1, _, e3⟩ := k5 j hj
                  simpa [List.getD_eq_getElem?_getD, e1] using e3
              · have h0 : 0 < (F i).2.length := by omega
                obtain ⟨v, e1, e2, e3⟩ := k5 0 h0
                have e4 : (F i).1.headD undef = v := by
                  cases hF1 : (F i).1 with
                  | nil => rw [hF1] at e1; simp at e1
                  | cons y r => rw [hF1] at e1; simpa using e1
                rw [e4, headD_get _ _ h0]; exact e3
            · obtain ⟨_, k2, k3, _, k5⟩ := hF i (by rwa [hlen] at hi)
              split
              · refine ⟨by simp [Value.cells, k3], fun y hy => ?_⟩
                simp only [Value.cells] at hy
                obtain ⟨j, hj, rfl⟩ := List.mem_iff_getElem.1 hy
                obtain ⟨v, e1, e2, _⟩ := k5 j (by rw [k2]; simpa using hj)
                have : (F i).1[j]'(by simpa using hj) = v := by rw [List.getElem?_eq_getElem (by simpa using hj)] at e1; simpa using e1
                simpa [this] using e2
              · rename_i hagg
                have h0 : 0 < (F i).2.length := by omega
                obtain ⟨v, e1, e2, e3⟩ := k5 0 h0
                have e4 : (F i).1.headD undef = v := by
                  cases hF1 : (F i).1 with
                  | nil => rw [hF1] at e1; simp at e1
                  | cons y r => rw [hF1] at e1; simpa using e1
                have hc1' : P.cellsOf e = 1 := scalar_cells hpe (by simpa using hagg)
                rw [e4]
                cases v <;> simp [Value.oneCell'] at e2 <;> simp [Value.cells, okCells, hc1', Value.oneCell']
            · obtain ⟨k1, k2, k3, _, k5⟩ := hF i (by rwa [hlen] at hi)
              obtain ⟨_, q⟩ := cellQ k1
              obtain ⟨v, q1, q2⟩ := q j hj
              rw [addr_add_add _ _ _ rfl] at q2
              simp only [World.cell?, hh, Option.isSome_none, Bool.false_eq_true, if_false] at q2
              rw [q2]
              split
              · simp [Value.cells, q1]
              · rename_i hagg
                have hc1' : P.cellsOf e = 1 := scalar_cells hpe (by simpa using hagg)
                obtain rfl : j = 0 := by omega
                obtain ⟨v', e1, e2, _⟩ := k5 0 (by omega)
                have e4 : (F i).1.headD undef = v := by
                  cases hF1 : (F i).1 with
                  | nil => rw [hF1] at q1; simp at q1
                  | cons y r => rw [hF1] at q1; simpa using q1
                obtain rfl : v = v' := Option.some.inj (q1.symm.trans e1)
                rw [e4]
                cases v <;> simp [Value.oneCell'] at e2 <;> rfl
          · simp only [TC, hu]
            refine .inr ⟨_, rfl, ?_, fun y hy => ?_⟩
            · have h2 : maxLen = 9223372036854775807 := by decide
              rw [hlen]; omega
            · simp only [List.mem_map, List.mem_range] at hy
              obtain ⟨i, hi, rfl⟩ := hy
              obtain ⟨_, k2, k3, k4, _⟩ := hF i hi
              exact ⟨_, k4, by omega, rfl⟩
    · -- struct
      rename_i fs hu
      simp only [Bool.and_eq_true, List.all_eq_true] at hp
      obtain ⟨hp1, hp2⟩ := hp
      obtain ⟨xs, m, rfl, _, hcl, hxl, hall⟩ := DataW.trod_struct hu h
      have key : ∀ (r : List Field) (k : Nat), contigB P k r (P.cellsOf t) = true → (∀ f ∈ r, plainT P n f.type = true ∧ ∃ y, DataW.trod enc P w 0 (fun _ => true) held m f.type ((cs.drop f.offset).take (P.cellsOf f.type)) = some y) →
          k ≤ P.cellsOf t ∧ ∃ ls : List AV, k + ls.length = P.cellsOf t ∧ TCs P (TC P n) r ls ∧ ∀ i (h : i < ls.length), ∃ v, cs[k + i]? = some v ∧ v.oneCell' = true ∧ VRel w (fun b => b < w.heap.size) Ghost.none v ls[i] := by
        intro r
        induction r with
        | nil =>
          intro k hk _
          simp only [contigB, beq_iff_eq] at hk
          exact ⟨by omega, [], by simpa using hk, rfl, fun i hi => by simp at hi⟩
        | cons f r ihr =>
          intro k hk hf
          simp only [contigB, Bool.and_eq_true, beq_iff_eq] at hk
          obtain ⟨hko, hk⟩ := hk
          obtain ⟨hle, ls2, l1, l2, l3⟩ := ihr _ hk (fun g hg => hf g (by simp [hg]))
          obtain ⟨hpf, y, hy⟩ := hf f (by simp)
          obtain ⟨ls1, q1, q2, q3, q4⟩ := ih m _ _ _ hpf hy
          refine ⟨by omega, ls1 ++ ls2, by simp; omega, ⟨ls1, ls2, rfl, q3, by omega, l2⟩, fun i hi => ?_⟩
          by_cases h1 : i < ls1.length
          · obtain ⟨v, e1, e2, e3⟩ := q4 i h1
            refine ⟨v, ?_, e2, by rw [List.getElem_append_left h1]; exact e3⟩
            rw [List.getElem?_take_of_lt (by omega), List.getElem?_drop] at e1
            rw [← hko]; exact e1
          · have hi2 : i - ls1.length < ls2.length := by simp at hi; omega
            obtain ⟨v, e1, e2, e3⟩ := l3 (i - ls1.length) hi2
            refine ⟨v, ?_, e2, by rw [List.getElem_append_right (by omega)]; exact e3⟩
            rw [← e1]; congr 1; omega
      obtain ⟨_, ls, l1, l2, l3⟩ := key fs.toList 0 hp2 (fun f hf => ⟨hp1 f hf, by
        obtain ⟨i, hi, rfl⟩ := List.mem_iff_getElem.1 hf
        have hi' : i < fs.size := by simpa using hi
        have := hall i fs[i] (by simp [hi'])
        rw [List.getElem?_eq_getElem (show i < xs.length by omega)] at this
        exact ⟨_, by simpa using this⟩⟩)
      refine ⟨ls, by omega, hcl, by simp only [TC, hu]; exact l2, fun i hi => ?_⟩
      obtain ⟨v, e1, e2, e3⟩ := l3 i hi
      exact ⟨v, by simpa using e1, e2, e3⟩
    · -- array
      rename_i m' e hu
      simp only [Bool.and_eq_true, beq_iff_eq] at hp
      obtain ⟨⟨hsz, hpos⟩, hpe⟩ := hp
      obtain ⟨xs, m, rfl, _, hcl, hxl, hall⟩ := DataW.trod_array hu h
      have key : ∀ (r k : Nat), k + r = m' → ∃ ls : List AV, ls.length = r * P.cellsOf e ∧ TCa (TC P n e) (P.cellsOf e) r ls ∧ ∀ i (h : i < ls.length), ∃ v, cs[k * P.cellsOf e + i]? = some v ∧ v.oneCell' = true ∧ VRel w (fun b => b < w.heap.size) Ghost.none v ls[i] := by
        intro r
        induction r with
        | zero => intro k _; exact ⟨[], by simp, rfl, fun i hi => by simp at hi⟩
        | succ r ihr =>
          intro k hk
          obtain ⟨ls2, l1, l2, l3⟩ := ihr (k + 1) (by omega)
          have hy := hall k (by omega)
          rw [List.getElem?_eq_getElem (show k < xs.length by omega)] at hy
          obtain ⟨ls1, q1, q2, q3, q4⟩ := ih m _ _ _ hpe hy
          refine ⟨ls1 ++ ls2, by simp [l1, q1, q2, Nat.add_mul]; omega, ⟨ls1, ls2, rfl, q3, by omega, l2⟩, fun i hi => ?_⟩
          by_cases h1 : i < ls1.length
          · obtain ⟨v, e1, e2, e3⟩ := q4 i h1
            refine ⟨v, ?_, e2, by rw [List.getElem_append_left h1]; exact e3⟩
            rw [List.getElem?_take_of_lt (by omega), List.getElem?_drop] at e1
            exact e1
          · have hi2 : i - ls1.length < ls2.length := by simp at hi; omega
            obtain ⟨v, e1, e2, e3⟩ := l3 (i - ls1.length) hi2
            refine ⟨v, ?_, e2, by rw [List.getElem_append_right (by omega)]; exact e3⟩
            rw [← e1]; congr 1; rw [Nat.add_mul]; omega
      obtain ⟨ls, l1, l2, l3⟩ := key m' 0 (by omega)
      refine ⟨ls, by omega, hcl, by simp only [TC, hu]; exact l2, fun i hi => ?_⟩
      obtain ⟨v, e1, e2, e3⟩ := l3 i hi
      exact ⟨v, by simpa using e1, e2, e3⟩
    · cases hp

theorem trod_TA {n : Nat} {t : TypeId} {v : Value} {d : DataW H} {ps : List MemPlace} (hp : plainT P n t = true) (hv : aggT P t = true → ∃ cs, v = .agg cs) (hv' : aggT P t = false → v.oneCell' = true) (h : DataW.Trod enc P w 0 (fun _ => true) held t v d ps) :
    ∃ a, TA P n t a ∧ VRel w (fun b => b < w.heap.size) Ghost.none v a := by
  obtain ⟨fuel, h⟩ := h
  obtain ⟨ls, h1, h2, h3, h4⟩ := trod_tree n fuel t _ _ hp h
  refine ⟨_, ⟨ls, h3, by omega, rfl⟩, ?_⟩
  unfold wholeA
  cases ha : aggT P t with
  | true =>
    obtain ⟨cs, rfl⟩ := hv ha
    rw [if_pos rfl]
    simp only [Value.cells] at h1 h4
    refine .agg _ _ _ (by simpa using h1.symm) (fun i => cs.getD i undef) (fun i hi => ?_) (fun i hi => ?_)
    · obtain ⟨v, e1, e2, _⟩ := h4 i hi
      have e1' : cs[i]? = some v := by simpa using e1
      simp [Array.getD_eq_getD_getElem?, e1', e2]
    · obtain ⟨v, e1, _, e3⟩ := h4 i hi
      have e1' : cs[i]? = some v := by simpa using e1
      simpa [Array.getD_eq_getD_getElem?, e1'] using e3
  | false =>
    have hone := hv' ha
    have hc : v.cells.toList = [v] := by cases v <;> simp [Value.oneCell'] at hone <;> rfl
    rw [hc] at h1 h4
    simp only [Bool.false_eq_true, if_false]
    match ls, h1, h4 with
    | [a], _, h4 =>
      obtain ⟨v', e1, _, e3⟩ := h4 0 (by simp)
      simp only [List.getElem?_cons_zero, Option.some.injEq] at e1
      subst e1
      exact e3
end
end Go.Proofs.YtkdjebioapholaaDoor
/-
  The contract of a law that returns true, of trees. Program-independent.
-/
namespace Go.Proofs.YtkdjebioapholaaDoor
open Go
open Go.ChangeShapes Go.WideShapes Go.RowKit

def LawArgs (P : Program) (n : Nat) : List TypeId → List AV → Prop
  | [], [] => True
  | t :: ts, a :: r => TA P n t a ∧ LawArgs P n ts r
  | _, _ => False

/-- nothing of the old world has turned -/
theorem keptX {W W' : World} {OK OK' : Nat → Prop} (h : Ext W OK Ghost.none W' OK' Ghost.none) (may : MemPlace → Prop) : W.keptBut W' may := by
  refine ⟨h.os, h.output, fun i hi => ?_⟩
  have e := h.blk i hi (fun _ _ (hx : _ ∈ []) => by cases hx)
  rw [e]
  cases W.heap[i]? with
  | none => rfl
  | some o => cases o <;> first | exact ⟨rfl, rfl, rfl, fun _ _ => rfl⟩ | exact .inr ⟨rfl, rfl⟩ | rfl

section
variable {H : Type} {enc : TypeId × Value → H} {P : Program}

theorem okWide_agg {w : World} {r : Reach} {b : Nat} {t : TypeId} {v : Value} (h : Value.okWide P w r b t v) (ha : aggT P t = true) : ∃ cs, v = .agg cs := by
  unfold aggT at ha
  unfold Value.okWide at h
  split at ha
  · rename_i hu; rw [hu] at h; obtain ⟨cs, h, _⟩ := h; exact ⟨cs, h⟩
  · rename_i hu; rw [hu] at h; obtain ⟨cs, h, _⟩ := h; exact ⟨cs, h⟩
  · cases ha
theorem okWide_one {w : World} {r : Reach} {b : Nat} {n : Nat} {t : TypeId} {v : Value} (h : Value.okWide P w r b t v) (hp : plainT P n t = true) (ha : aggT P t = false) : v.oneCell' = true := by
  cases n with
  | zero => cases hp
  | succ n =>
    unfold plainT at hp
    unfold aggT at ha
    unfold Value.okWide Cell.okWide Cell.ok at h
    cases hu : P.underlying t with
    | none => rw [hu] at hp; cases hp
    | some d =>
      rw [hu] at h hp ha
      cases d <;> simp only [reduceCtorEq, Bool.false_eq_true] at hp ha <;> cases v <;> simp_all [Value.oneCell']

theorem args_tree {W : World} {n : Nat} : ∀ (ts : List TypeId) (vs : List Value) (ds : List (DataW H)) (ps : List MemPlace), (∀ t ∈ ts, plainT P n t = true) → (∀ (j : Nat) t v, ts[j]? = some t → vs[j]? = some v → ∃ r b, Value.okWide P W r b t v) →
    DataW.TrodAll enc P W 0 (fun _ => true) true ts vs ds ps → ds.length = ts.length ∧ ∃ ls, LawArgs P n ts ls ∧ ListRel W (fun b => b < W.heap.size) Ghost.none vs ls
  | [], [], [], ps, _, _, _ => ⟨rfl, [], trivial, trivial⟩
  | t :: ts, v :: vs, d :: ds, ps, hp, hv, h => by
    obtain ⟨p, q, h1, h2, _⟩ := h
    obtain ⟨r, b, hv0⟩ := hv 0 t v rfl rfl
    obtain ⟨a, ha1, ha2⟩ := trod_TA (hp t (by simp)) (okWide_agg hv0) (okWide_one hv0 (hp t (by simp))) h1
    obtain ⟨hl, ls, h3, h4⟩ := args_tree ts vs ds q (fun u hu => hp u (by simp [hu])) (fun j t' v' e1 e2 => hv (j + 1) t' v' (by simpa using e1) (by simpa using e2)) h2
    exact ⟨by simp [hl], a :: ls, ⟨ha1, h3⟩, ⟨ha2, h4⟩⟩
  | [], [], _ :: _, _, _, _, h => h.elim
  | [], _ :: _, _, _, _, _, h => h.elim
  | _ :: _, [], _, _, _, _, h => h.elim
  | _ :: _, _ :: _, [], _, _, _, h => h.elim

/-- the arguments read as before -/
theorem args_stay {W W' : World} {sp : Nat → Bool} (hl : laidOutB P = true) : ∀ (ts : List TypeId) (vs : List Value) (ds : List (DataW H)) (ps : List MemPlace), (∀ t ∈ ts, P.readableRec t = true ∧ t < P.types.size) →
    (∀ p ∈ ps, W.sameAt W' p ∧ sp p.block = true) → DataW.TrodAll enc P W 0 (fun _ => true) true ts vs ds ps → DataW.TrodAll enc P W' 0 sp true ts vs ds ps
  | [], [], [], ps, _, _, h => h
  | t :: ts, v :: vs, d :: ds, ps, hp, hs, h => by
    obtain ⟨p, q, h1, h2, rfl⟩ := h
    exact ⟨p, q, WideElems.Trod_stays hl (hp t (by simp)).1 (hp t (by simp)).2 h1 (fun x hx => (hs x (by simp [hx])).1) (fun x hx => (hs x (by simp [hx])).2),
      args_stay hl ts vs ds q (fun u hu => hp u (by simp [hu])) (fun x hx => hs x (by simp [hx])) h2, rfl⟩
  | [], [], _ :: _, _, _, _, h => h.elim
  | [], _ :: _, _, _, _, _, h => h.elim
  | _ :: _, [], _, _, _, _, h => h.elim
  | _ :: _, _ :: _, [], _, _, _, h => h.elim

theorem sameAt_ext {W W' : World} {OK OK' : Nat → Prop} (h : Ext W OK Ghost.none W' OK' Ghost.none) (p : MemPlace) (hp : p.block < W.heap.size) : W.sameAt W' p := by
  cases p with
  | cell b off =>
    have e := h.blk b hp (fun _ _ (hx : _ ∈ []) => by cases hx)
    simp only [World.sameAt, World.cell?, e]
  | map b => exact h.blk b hp (fun _ _ (hx : _ ∈ []) => by cases hx)

/-- A law that returns true, of whatever trees its arguments are. -/
theorem law_contract {f : FuncId} {fn : Func} {G : Nat → Option (List AV)} {n : Nat} {M : PModel} (hs : PureSpec P G f M) (hM : ∀ args, LawArgs P n fn.params.toList args → M args = some (.bool true))
    {spec : ChangeSpec} (hspec : ∀ ds : List (DataW H), ds.length = fn.params.toList.length → spec.fn H ds = { results := [.lit (.bool true)], args := ds }) (hvars : spec.vars = [])
    (hp : fn.params.toList.all (fun t => plainT P n t && P.readableRec t && Nat.blt t P.types.size) = true) (hl : laidOutB P = true) {tb : TypeId} (hres : fn.resultTypes = #[tb]) (hb : P.underlying tb = some .bool)
    {W : World} {base : Nat} {args : Array Value} {ds gs : List (DataW H)} {before : List MemPlace} (hval : ∀ (j : Nat) t v, fn.params[j]? = some t → args[j]? = some v → Value.okWide P W .any base t v)
    (hW : DataW.Whole enc P fn.params.toList spec.vars false W args.toList ds gs before) (hG : GRel G W (fun b => b < W.heap.size)) :
    Calls P f args W fun e W' => ∃ v, e = .returned v ∧ spec.post enc P fn false true false false W args v W' := by
  have hW' := hW
  have hlt := hW.lt
  obtain ⟨p, q, hA, hV, rfl, hfz, hnd⟩ := hW
  rw [hvars] at hV
  obtain ⟨rfl, rfl⟩ := trodVars_none hV
  rw [List.all_eq_true] at hp
  have hp' : ∀ t ∈ fn.params.toList, plainT P n t = true ∧ P.readableRec t = true ∧ t < P.types.size := fun t ht => by
    have := hp t ht
    simp only [Bool.and_eq_true] at this
    exact ⟨this.1.1, this.1.2, by simpa [Nat.blt_eq] using this.2⟩
  obtain ⟨hdl, ls, h1, h2⟩ := args_tree (n := n) _ _ _ _ (fun t ht => (hp' t ht).1) (fun j t v e1 e2 => ⟨_, _, hval j t v (by simpa using e1) (by simpa using e2)⟩) hA
  have hc := hs.2 ls _ (hM ls h1) W (fun b => b < W.heap.size) args.toList (fun _ h => h) hG h2
  rw [Array.toArray_toList] at hc
  refine hc.mono ?_
  rintro e W1 ⟨v, OK', rfl, hv, _, hx⟩
  obtain rfl := hv.inv_bool
  refine ⟨_, rfl, ds, [], p ++ [], [], p, [], hW', ?_, ?_, ?_, keptX hx _, fun h => by cases h⟩
  · rw [List.append_nil, hspec ds hdl, hres]
    exact trodAll_cons_mk (shut_bool hb _) trodAll_mk0
  · rw [List.append_nil, hspec ds hdl]
    exact args_stay hl _ _ _ _ (fun t ht => (hp' t ht).2) (fun x hx' => ⟨sameAt_ext hx x (hlt x (by simp [hx'])), by simpa using hlt x (by simp [hx'])⟩) hA
  · rw [List.append_nil, hspec ds hdl, hvars]
    rfl

/-! ### arguments, opened -/

variable {n : Nat} {t e : TypeId} {a : AV}
theorem aggT_false {d : TypeDesc} (hu : P.underlying t = some d) (h : (match d with | .struct _ => true | .array _ _ => true | _ => false) = false) : aggT P t = false := by
  unfold aggT; rw [hu]
  cases d <;> simp_all
theorem TA.int {k : IntKind} (hu : P.underlying t = some (.int k)) (h : TA P n t a) : ∃ z, a = .int k z ∧ k.min ≤ z ∧ z ≤ k.max := by
  obtain ⟨xs, h1, _, rfl⟩ := h
  cases n with
  | zero => exact h1.elim
  | succ n =>
    simp only [TC, hu] at h1
    obtain ⟨z, rfl, h2⟩ := h1
    exact ⟨z, by simp [wholeA, aggT_false hu rfl], h2⟩
theorem TA.i64 (hu : P.underlying t = some (.int .i64)) (h : TA P n t a) : ∃ z, a = .int .i64 z ∧ inI z := by
  obtain ⟨z, h1, h2, h3⟩ := TA.int hu h
  exact ⟨z, h1, h2, h3⟩
theorem TA.str (hu : P.underlying t = some .string) (h : TA P n t a) : ∃ s, a = .str s ∧ s.length ≤ 9223372036854775807 := by
  obtain ⟨xs, h1, _, rfl⟩ := h
  cases n with
  | zero => exact h1.elim
  | succ n =>
    simp only [TC, hu] at h1
    obtain ⟨z, rfl, h2⟩ := h1
    exact ⟨z, by simp [wholeA, aggT_false hu rfl], h2⟩
theorem TA.bool (hu : P.underlying t = some .bool) (h : TA P n t a) : ∃ b, a = .bool b := by
  obtain ⟨xs, h1, _, rfl⟩ := h
  cases n with
  | zero => exact h1.elim
  | succ n =>
    simp only [TC, hu] at h1
    obtain ⟨z, rfl⟩ := h1
    exact ⟨z, by simp [wholeA, aggT_false hu rfl]⟩
theorem TA.slice (hu : P.underlying t = some (.slice e)) (h : TA P (n + 1) t a) : a = .nilS ∨ ∃ es, a = .fs (P.cellsOf e) es ∧ es.length ≤ 9223372036854775807 ∧ ∀ x ∈ es, TA P n e x := by
  obtain ⟨xs, h1, _, rfl⟩ := h
  simp only [TC, hu] at h1
  have hw : ∀ x, wholeA P t [x] = x := fun x => by simp [wholeA, aggT_false hu rfl]
  rcases h1 with rfl | ⟨es, rfl, h2, h3⟩
  · exact .inl (hw _)
  · exact .inr ⟨es, hw _, h2, h3⟩
theorem TA.agg (ha : aggT P t = true) (h : TA P n t a) : ∃ xs, a = .agg xs ∧ TC P n t xs ∧ xs.length = P.cellsOf t := by
  obtain ⟨xs, h1, h2, rfl⟩ := h
  exact ⟨xs, by simp [wholeA, ha], h1, h2⟩
theorem LawArgs.cons {ts : List TypeId} {args : List AV} (h : LawArgs P n (t :: ts) args) : ∃ a r, args = a :: r ∧ TA P n t a ∧ LawArgs P n ts r := by
  cases args with
  | nil => exact h.elim
  | cons a r => exact ⟨a, r, rfl, h.1, h.2⟩
theorem LawArgs.nil {args : List AV} (h : LawArgs P n [] args) : args = [] := by
  cases args with
  | nil => rfl
  | cons a r => exact h.elim
end
end Go.Proofs.YtkdjebioapholaaDoor
/-
  Slices that are given: nil or of memory that nobody writes; lists of numbers and strings. Program-independent.
-/
namespace Go.Proofs.YtkdjebioapholaaDoor
open Go

/-- a slice that holds xs and is not written -/
def SlA (esz : Nat) (xs : List AV) (a : AV) : Prop := (a = .nilS ∧ xs = []) ∨ a = .fs esz xs

section
variable {esz : Nat} {xs : List AV} {a : AV} {A : Arena}
theorem SlA.len (h : SlA esz xs a) : evLenSl a = some (.int .i64 (xs.length : Int)) := by
  rcases h with ⟨rfl, rfl⟩ | rfl <;> rfl
theorem SlA.src (h : SlA esz xs a) : srcElems esz A a = some xs := by
  rcases h with ⟨rfl, rfl⟩ | rfl <;> simp
theorem SlA.index (h : SlA esz xs a) {i : Nat} {x : AV} (hx : xs[i]? = some x) (hs : x.solid = true) (he : 0 < esz) (k : IntKind) : evIndexSl esz A a (.int k (i : Int)) = some (.fp (cellsOf x)) := by
  rcases h with ⟨rfl, rfl⟩ | rfl
  · simp at hx
  · simp [evIndexSl, hx, hs, he, -AV.solid]
theorem SlA.index1 (h : SlA 1 xs a) {i : Nat} {x : AV} (hx : xs[i]? = some x) (hs : x.solid = true) (hc : cellsOf x = [x]) (k : IntKind) : evIndexSl 1 A a (.int k (i : Int)) = some (.fp [x]) := by
  rw [h.index hx hs (by omega), hc]
theorem SlA.int (zs : List Int) (k : IntKind) (h : SlA 1 (zs.map (.int k)) a) {i : Nat} {z : Int} (hz : zs[i]? = some z) (k' : IntKind) : evIndexSl 1 A a (.int k' (i : Int)) = some (.fp [.int k z]) :=
  h.index1 (by simp [hz]) rfl rfl k'
theorem SlA.str (zs : List (List UInt8)) (h : SlA 1 (zs.map .str) a) {i : Nat} {z : List UInt8} (hz : zs[i]? = some z) (k' : IntKind) : evIndexSl 1 A a (.int k' (i : Int)) = some (.fp [.str z]) :=
  h.index1 (by simp [hz]) rfl rfl k'
theorem SlA.cut (h : SlA esz xs a) (lo hi : Nat) (h1 : lo ≤ hi) (h2 : hi ≤ xs.length) (k k' : IntKind) : ∃ b, evSliceSl esz A (some (.int k (lo : Int))) (some (.int k' (hi : Int))) a = some b ∧ SlA esz ((xs.drop lo).take (hi - lo)) b := by
  rcases h with ⟨rfl, rfl⟩ | rfl
  · obtain rfl : hi = 0 := by simpa using h2
    obtain rfl : lo = 0 := by omega
    exact ⟨.nilS, rfl, .inl ⟨rfl, rfl⟩⟩
  · exact ⟨_, by simp [evSliceSl, h1, h2], .inr rfl⟩
theorem SlA.cutHi (h : SlA esz xs a) (hi : Nat) (h2 : hi ≤ xs.length) (k' : IntKind) : ∃ b, evSliceSl esz A none (some (.int k' (hi : Int))) a = some b ∧ SlA esz (xs.take hi) b := by
  rcases h with ⟨rfl, rfl⟩ | rfl
  · obtain rfl : hi = 0 := by simpa using h2
    exact ⟨.nilS, rfl, .inl ⟨rfl, rfl⟩⟩
  · exact ⟨_, by simp [evSliceSl, h2], .inr rfl⟩
theorem SlA.frz (h : SlA esz xs a) (n : Nat) : frz A n a = a := by
  rcases h with ⟨rfl, rfl⟩ | rfl <;> cases n <;> rfl

theorem map_of_forall {α : Type} {f : α → AV} {p : α → Prop} : ∀ {l : List AV}, (∀ x ∈ l, ∃ z, x = f z ∧ p z) → ∃ zs : List α, l = zs.map f ∧ ∀ z ∈ zs, p z
  | [], _ => ⟨[], rfl, fun _ h => by cases h⟩
  | x :: l, h => by
    obtain ⟨z, rfl, hz⟩ := h x (by simp)
    obtain ⟨zs, rfl, hzs⟩ := map_of_forall (l := l) (fun y hy => h y (by simp [hy]))
    exact ⟨z :: zs, rfl, fun y hy => by
      rcases List.mem_cons.1 hy with rfl | hy
      · exact hz
      · exact hzs y hy⟩
variable {P : Program} {n : Nat} {t e : TypeId}
theorem TA.sl (hu : P.underlying t = some (.slice e)) (h : TA P (n + 1) t a) : ∃ es, SlA (P.cellsOf e) es a ∧ es.length ≤ 9223372036854775807 ∧ ∀ x ∈ es, TA P n e x := by
  rcases TA.slice hu h with rfl | ⟨es, h1, h2, h3⟩
  · exact ⟨[], .inl ⟨rfl, rfl⟩, by simp, fun _ h => by cases h⟩
  · exact ⟨es, .inr h1, h2, h3⟩
theorem TA.ints (hu : P.underlying t = some (.slice e)) (he : P.underlying e = some (.int .i64)) (hc : P.cellsOf e = 1) (h : TA P (n + 1) t a) : ∃ zs : List Int, SlA 1 (zs.map (.int .i64)) a ∧ zs.length ≤ 9223372036854775807 ∧ ∀ z ∈ zs, inI z := by
  obtain ⟨es, h1, h2, h3⟩ := TA.sl hu h
  obtain ⟨zs, rfl, h4⟩ := map_of_forall (f := AV.int .i64) (p := inI) (fun x hx => TA.i64 he (h3 x hx))
  rw [hc] at h1
  exact ⟨zs, h1, by simpa using h2, h4⟩
theorem TA.strs (hu : P.underlying t = some (.slice e)) (he : P.underlying e = some .string) (hc : P.cellsOf e = 1) (h : TA P (n + 1) t a) : ∃ zs : List (List UInt8), SlA 1 (zs.map .str) a ∧ zs.length ≤ 9223372036854775807 ∧ ∀ z ∈ zs, z.length ≤ 9223372036854775807 := by
  obtain ⟨es, h1, h2, h3⟩ := TA.sl hu h
  obtain ⟨zs, rfl, h4⟩ := map_of_forall (f := AV.str) (p := fun z => z.length ≤ 9223372036854775807) (fun x hx => TA.str he (h3 x hx))
  rw [hc] at h1
  exact ⟨zs, h1, by simpa using h2, h4⟩
end

theorem min2_nat (a b : Nat) (k k' : IntKind) : evMin2 false (.int k (a : Int)) (.int k' (b : Int)) = some (.int k ((min a b : Nat) : Int)) := by
  unfold evMin2
  simp only [Bool.false_eq_true, if_false]
  congr 2
  split <;> omega
theorem max2_nat (a b : Nat) (k k' : IntKind) : evMin2 true (.int k (a : Int)) (.int k' (b : Int)) = some (.int k ((max a b : Nat) : Int)) := by
  unfold evMin2
  simp only [if_true]
  congr 2
  split <;> omega
end Go.Proofs.YtkdjebioapholaaDoor
/-
  Results of fresh memory: a function may be given lists that the caller still owns. Loops that count up, lists that are appended to. Program-independent.
-/
namespace Go.Proofs.YtkdjebioapholaaDoor
open Go

theorem frz_noRef {A : Arena} : ∀ (n : Nat) (a : AV), noRefB n a = true → frz A n a = a
  | 0, a, h => by cases a <;> simp_all [noRefB, frz]
  | n + 1, a, h => by
    have ih := frz_noRef (A := A) n
    have hm : ∀ cs : List AV, (∀ x ∈ cs, noRefB n x = true) → cs.map (frz A n) = cs := fun cs hc => by
      conv => rhs; rw [← List.map_id cs]
      exact List.map_congr_left fun x hx => ih x (hc x hx)
    cases a <;> simp only [noRefB, Bool.false_eq_true, List.all_eq_true, Bool.and_eq_true] at h <;> simp only [frz]
    · rw [hm _ h]
    · rw [hm _ h]
    · rw [hm _ h.1, hm _ h.2]
    · rw [ih _ h]

theorem noRef_any {w : World} {OK OK2 : Nat → Prop} {g g2 : Ghost} {n : Nat} {a : AV} {v : Value} (hn : noRefB n a = true) (h : VRel w OK g v a) (hok : ∀ b, OK b → OK2 b) : VRel w OK2 g2 v a := by
  have := noRefB_none (A := []) n a v hn h
  rw [frz_noRef n a hn] at this
  exact this.mono hok (fun _ _ => rfl) _ g2.none_le

/-- an entry that names no other one, and is not let go -/
def entNoRef (n : Nat) : Ent → Bool
  | .row _ _ es => es.all (noRefB n)
  | .map kvs => kvs.all fun x => noRefB n x.1 && noRefB n x.2
  | .loop .. => true
  | .dead => false

theorem EntAt.noRef {w : World} {OK OK2 : Nat → Prop} {g g2 : Ghost} {n : Nat} {incs : List Inc} {e : Ent} (h : EntAt w OK g incs e) (hn : entNoRef n e = true) (hok : ∀ b, OK b → OK2 b) : EntAt w OK2 g2 incs e := by
  cases e with
  | row s gr es =>
    simp only [entNoRef, List.all_eq_true] at hn
    refine ⟨h.1, fun inc hi => ?_⟩
    obtain ⟨h1, h2, h3, c, T, fz, h4, h5, h6, h7⟩ := h.2 inc hi
    refine ⟨h1, h2, h3, c, T, fz, h4, h5, h6, fun i hi hn' => ?_⟩
    obtain ⟨v, k1, k2, k3⟩ := h7 i hi hn'
    exact ⟨v, noRef_any (hn _ (List.getElem_mem _)) k1 hok, k2, k3⟩
  | map kvs =>
    simp only [entNoRef, List.all_eq_true, Bool.and_eq_true] at hn
    obtain ⟨inc, rfl, es, clock, h1, h2, hst, h3⟩ := h
    refine ⟨inc, rfl, es, clock, h1, h2, hst, fun i hi => ?_⟩
    obtain ⟨e, e1, e2, e3⟩ := h3 i hi
    have := hn _ (List.getElem_mem hi)
    exact ⟨e, e1, noRef_any this.1 e2 hok, noRef_any this.2 e3 hok⟩
  | loop r k => exact h
  | dead => trivial

section
variable {P : Program} {G : Nat → Option (List AV)}

/-- the first rows let go -/
theorem ARel.killFirst {w : World} {OK : Nat → Prop} {g : Ghost} {A : Arena} (h : ARel w OK g A) (k : Nat) (hk : k ≤ A.length) : ARel w OK g (List.replicate k .dead ++ A.drop k) := by
  have hl : (List.replicate k Ent.dead ++ A.drop k).length = A.length := by simp; omega
  have hlt : ∀ id, id < k → (List.replicate k Ent.dead ++ A.drop k)[id]? = some .dead := fun id hid => by
    rw [List.getElem?_append_left (by simpa using hid)]; simp [hid]
  have hge : ∀ id, k ≤ id → (List.replicate k Ent.dead ++ A.drop k)[id]? = A[id]? := fun id hid => by
    rw [List.getElem?_append_right (by simpa using hid)]
    simp only [List.length_replicate, List.getElem?_drop]
    congr 1; omega
  have hlive : ∀ id, (List.replicate k Ent.dead ++ A.drop k)[id]? ≠ some Ent.dead → A[id]? ≠ some Ent.dead := fun id hd => by
    by_cases e : id < k
    · exact absurd (hlt id e) hd
    · rwa [hge id (by omega)] at hd
  refine ⟨fun id hid => ?_, fun id hid => h.out id (by omega), fun id id' i i' hd hd' => h.one id id' i i' (hlive _ hd) (hlive _ hd'), h.apart, h.low, h.ok⟩
  by_cases e : id < k
  · have := hlt id e
    rw [List.getElem?_eq_getElem hid] at this
    injection this with this
    rw [this]; trivial
  · have := hge id (by omega)
    rw [List.getElem?_eq_getElem hid, List.getElem?_eq_getElem (by omega)] at this
    injection this with this
    rw [this]; exact h.ent id (by omega)

open Classical in
/-- the model of a function whose result is of memory that it has made itself: it leaves the arena as it was -/
noncomputable def freshM (n : Nat) (M : Model) : Model := fun args A =>
  match M args A with
  | some (r, A') => if A'.take A.length = A ∧ A.all (entNoRef n) = true then some (frz (List.replicate A.length .dead ++ A'.drop A.length) n r, A) else none
  | none => none

theorem FnSpec.fresh {f : FuncId} {M : Model} (h : FnSpec P G f M) (n : Nat) : FnSpec P G f (freshM n M) := by
  refine ⟨h.1, fun args A r A1 he w OK g vs hA hG hl => ?_⟩
  unfold freshM at he
  split at he
  · rename_i r0 A' hM
    simp only [Option.ite_none_right_eq_some, Option.some.injEq, Prod.mk.injEq] at he
    obtain ⟨⟨htk, hall⟩, rfl, rfl⟩ := he
    refine (h.2 args A r0 A' hM w OK g vs hA hG hl).mono ?_
    rintro e w' ⟨v, OK', g', rfl, hv, hA', hx⟩
    rw [List.all_eq_true] at hall
    have hlen : A.length ≤ A'.length := by
      have := congrArg List.length htk
      simp at this; omega
    have hold : ∀ id, id < A.length → A'[id]? = A[id]? := fun id hid => by
      have := congrArg (fun l : Arena => l[id]?) htk
      simp only [List.getElem?_take_of_lt hid] at this
      exact this
    have hlive : ∀ id, id < A.length → A'[id]? ≠ some .dead := fun id hid e => by
      rw [hold id hid, List.getElem?_eq_getElem hid] at e
      injection e with e
      have := hall _ (List.getElem_mem hid)
      rw [e] at this; cases this
    have hge : ∀ id, A.length ≤ id → (List.replicate A.length Ent.dead ++ A'.drop A.length)[id]? = A'[id]? := fun id hid => by
      rw [List.getElem?_append_right (by simpa using hid)]
      simp only [List.length_replicate, List.getElem?_drop]
      congr 1; omega
    have hin : ∀ id, id < A.length → (List.replicate A.length Ent.dead ++ A'.drop A.length)[id]? = some .dead := fun id hid => by
      rw [List.getElem?_append_left (by simpa using hid)]; simp [hid]
    have hnew : ∀ id inc, A.length ≤ id → A'[id]? ≠ some .dead → inc ∈ g' id → w.heap.size ≤ inc.b := fun id inc hid hd hi => by
      rcases hx.fresh id inc hi with ⟨id0, inc0, h0, h1⟩ | h1
      · exfalso
        have hid0 : id0 < A.length := by
          rcases Nat.lt_or_ge id0 A.length with h | h
          · exact h
          · rw [hA.out id0 h] at h0; cases h0
        obtain ⟨n', _, hm⟩ := hx.gle id0 inc0 h0
        have := (hA'.one id id0 inc _ hd (hlive id0 hid0) hi hm h1.symm).1
        omega
      · exact h1
    obtain ⟨OK2, hOK2⟩ : ∃ OK2 : Nat → Prop, ∀ b, OK2 b ↔ (OK' b ∨ ∃ id inc, A.length ≤ id ∧ A'[id]? ≠ some Ent.dead ∧ inc ∈ g' id ∧ inc.b = b) := ⟨_, fun _ => Iff.rfl⟩
    obtain ⟨g2, hg2, hg2'⟩ : ∃ g2 : Ghost, (∀ id, id < A.length → g2 id = g' id) ∧ ∀ id, A.length ≤ id → g2 id = [] :=
      ⟨fun id => if id < A.length then g' id else [], fun id hid => by simp [hid], fun id hid => by simp [Nat.not_lt.2 hid]⟩
    have hlt2 : ∀ id inc, inc ∈ g2 id → id < A.length := fun id inc hi => by
      rcases Nat.lt_or_ge id A.length with h | h
      · exact h
      · rw [hg2' id h] at hi; cases hi
    refine ⟨v, OK2, g2, rfl, ?_, ⟨fun id hid => ?_, hg2', fun id id' i i' hd hd' hi hi' e => ?_, fun id inc hi ho => ?_, fun id inc hi => ?_, fun b hb => ?_⟩, ?_⟩
    · have := frz_sound (OK2 := OK2) (hA'.killFirst A.length hlen) (fun b hb => (hOK2 b).2 (.inl hb)) (fun id inc hd hi => (hOK2 _).2 (.inr (by
        rcases Nat.lt_or_ge id A.length with h | h
        · exact absurd (hin id h) hd
        · rw [hge id h] at hd
          exact ⟨id, inc, h, hd, hi, rfl⟩))) n r0 v hv
      exact this.mono (fun _ h => h) (fun _ _ => rfl) _ g2.none_le
    · have h1 := hA'.ent id (by omega)
      have h2 := hold id hid
      rw [List.getElem?_eq_getElem hid, List.getElem?_eq_getElem (by omega)] at h2
      injection h2 with h2
      rw [h2] at h1
      rw [hg2 id hid]
      exact h1.noRef (hall _ (List.getElem_mem hid)) (fun b hb => (hOK2 b).2 (.inl hb))
    · have k1 := hlt2 _ _ hi
      have k2 := hlt2 _ _ hi'
      rw [hg2 _ k1] at hi
      rw [hg2 _ k2] at hi'
      exact hA'.one id id' i i' (hlive _ k1) (hlive _ k2) hi hi' e
    · have k1 := hlt2 _ _ hi
      rw [hg2 _ k1] at hi
      rcases (hOK2 _).1 ho with h1 | ⟨id', inc', h1, h2, h3, h4⟩
      · exact hA'.apart _ _ hi h1
      · have := (hA'.one id' id inc' inc h2 (hlive _ k1) h3 hi h4).1
        omega
    · have k1 := hlt2 _ _ hi
      rw [hg2 _ k1] at hi
      exact hA'.low _ _ hi
    · rcases (hOK2 _).1 hb with h1 | ⟨id', inc', h1, h2, h3, rfl⟩
      · exact hA'.ok _ h1
      · exact hA'.low _ _ h3
    · refine { os := hx.os, tape := hx.tape, output := hx.output, size := hx.size, blk := hx.blk, gle := fun id inc hi => ?_, okle := fun b hb => (hOK2 b).2 (.inl (hx.okle b hb)), fresh := fun id inc hi => ?_, okf := fun b hb => ?_, loops := hx.loops, fix := fun id inc hi h0 => ?_ }
      · have k : id < A.length := by
          rcases Nat.lt_or_ge id A.length with h | h
          · exact h
          · rw [hA.out id h] at hi; cases hi
        rw [hg2 id k]
        exact hx.gle id inc hi
      · have k1 := hlt2 _ _ hi
        rw [hg2 _ k1] at hi
        exact hx.fresh _ _ hi
      · rcases (hOK2 _).1 hb with h1 | ⟨id', inc', h1, h2, h3, rfl⟩
        · exact hx.okf _ h1
        · exact .inr (hnew _ _ h1 h2 h3)
      · have k : id < A.length := by
          rcases Nat.lt_or_ge id A.length with h | h
          · exact h
          · rw [hA.out id h] at hi; cases hi
        rw [hg2 id k]
        exact hx.fix id inc hi h0
  · cases he

theorem FnSpec.of_all {f : FuncId} {M' : Nat → Model} {M : Model} (h : ∀ fuel, FnSpec P G f (M' fuel)) (hM : ∀ args A x, M args A = some x → ∃ fuel, M' fuel args A = some x) : FnSpec P G f M := by
  refine ⟨(h 0).1, fun args A r A' he => ?_⟩
  obtain ⟨fuel, h1⟩ := hM args A _ he
  exact (h fuel).2 args A r A' h1
end

/-! ### loops that count up -/
section
variable {E : Env} {fuel : Nat} {a : MC} {mask : List Nat}

/-- 'N' is the number of the round in which the loop ends. -/
theorem iter_up (S : Nat → List AV) (B : Nat → Arena) (N : Nat) {o : Out} (hc : ∀ i, clear mask (S i) = S i) (ho : ∀ σ A, o ≠ .normal σ A)
    (hs : ∀ i, i < N → run E fuel [.code a] (S i) (B i) = some (.normal (S (i + 1)) (B (i + 1)))) (he : run E fuel [.code a] (S N) (B N) = some o) {m : Nat} (hm : N < m) :
    iter (evC E fuel a) mask m (S 0) (B 0) = some o := by
  have key : ∀ k i m, i + k = N → k < m → iter (evC E fuel a) mask m (S i) (B i) = some o := by
    intro k
    induction k with
    | zero =>
      intro i m hi hm
      obtain ⟨m, rfl⟩ : ∃ j, m = j + 1 := ⟨m - 1, by omega⟩
      obtain rfl : i = N := by omega
      rw [iter_succ, hc, he]
      cases o with
      | normal σ A => exact absurd rfl (ho _ _)
      | exit _ _ _ => rfl
      | ret _ _ => rfl
    | succ k ih =>
      intro i m hi hm
      obtain ⟨m, rfl⟩ : ∃ j, m = j + 1 := ⟨m - 1, by omega⟩
      rw [iter_succ, hc, hs i (by omega)]
      exact ih (i + 1) m (by omega) (by omega)
  exact key N 0 m (by omega) hm

/-- a loop that looks for the first 'i' below 'n' of which 'p' holds -/
theorem iter_search (S : Nat → List AV) (B : Nat → Arena) (n : Nat) (p : Nat → Prop) {oF : Nat → Out} {oE : Out} (hc : ∀ i, clear mask (S i) = S i) (hF : ∀ i σ A, oF i ≠ .normal σ A) (hE : ∀ σ A, oE ≠ .normal σ A)
    (hs : ∀ i, i < n → ¬ p i → run E fuel [.code a] (S i) (B i) = some (.normal (S (i + 1)) (B (i + 1)))) (hf : ∀ i, i < n → p i → run E fuel [.code a] (S i) (B i) = some (oF i)) (he : run E fuel [.code a] (S n) (B n) = some oE) {m : Nat} (hm : n < m) :
    ((∃ i, i < n ∧ p i ∧ (∀ j, j < i → ¬ p j) ∧ iter (evC E fuel a) mask m (S 0) (B 0) = some (oF i)) ∨ ((∀ i, i < n → ¬ p i) ∧ iter (evC E fuel a) mask m (S 0) (B 0) = some oE)) := by
  by_cases h : ∃ i, i < n ∧ p i
  · obtain ⟨i, ⟨hi, hp⟩, hmin⟩ : ∃ i, (i < n ∧ p i) ∧ ∀ j, j < i → ¬ (j < n ∧ p j) := by
      obtain ⟨i, hi⟩ := h
      induction i using Nat.strongRecOn with
      | ind i ih =>
        by_cases hj : ∃ j, j < i ∧ (j < n ∧ p j)
        · obtain ⟨j, hj, hp⟩ := hj
          exact ih j hj hp
        · exact ⟨i, hi, fun j h hp => hj ⟨j, h, hp⟩⟩
    have hmin' : ∀ j, j < i → ¬ p j := fun j hj hp => hmin j hj ⟨by omega, hp⟩
    exact .inl ⟨i, hi, hp, hmin', iter_up S B i hc (hF i) (fun j hj => hs j (by omega) (hmin' j hj)) (hf i hi hp) (by omega)⟩
  · have h' : ∀ i, i < n → ¬ p i := fun i hi hp => h ⟨i, hi, hp⟩
    exact .inr ⟨h', iter_up S B n hc hE (fun j hj => hs j hj (h' j hj)) he hm⟩
end

/-! ### a list that is appended to -/

def oA (A : Arena) (es : List AV) : AV := match es with | [] => .nilS | _ :: _ => .sl A.length 0 es.length
def aA (A : Arena) (esz : Nat) (es : List AV) : Arena := match es with | [] => A | [x] => A ++ [.row esz false [x]] | _ :: _ :: _ => A ++ [.row esz true es]
/-- a slice of these elements that nobody writes -/
def slA (esz : Nat) (es : List AV) : AV := match es with | [] => .nilS | _ :: _ => .fs esz es

section
variable {A : Arena} {esz bytes : Nat} {es : List AV}
theorem slA_holds (esz : Nat) (es : List AV) : SlA esz es (slA esz es) := by
  cases es with
  | nil => exact .inl ⟨rfl, rfl⟩
  | cons x r => exact .inr rfl
theorem oA_src : srcElems esz (aA A esz es) (oA A es) = some es := by
  match es with
  | [] => rfl
  | [x] => simp [oA, aA, srcElems]
  | x :: y :: r =>
    simp only [oA, aA, srcElems, List.getElem?_concat_length]
    simp
theorem oA_len : evLenSl (oA A es) = some (.int .i64 (es.length : Int)) := by
  cases es <;> rfl
theorem append1 (x : AV) (he : 0 < esz) (hb : 0 < bytes) (hs : (es.length + 1) * bytes ≤ 140737488355328) : evAppend esz bytes (aA A esz es) (oA A es) (.fs esz [x]) = some (oA A (es ++ [x]), aA A esz (es ++ [x])) := by
  match es with
  | [] =>
    have : bytes ≤ 140737488355328 := by simpa using hs
    simp [oA, aA, evAppend, he, hb, this]
  | [y] =>
    have : 2 * bytes ≤ 140737488355328 := by simpa using hs
    simp [oA, aA, evAppend, he, hb, this]
  | y :: z :: r =>
    simp only [List.length_cons] at hs
    simp [oA, aA, evAppend, he, hb, hs]
theorem frz_oA (n : Nat) : frz (aA A esz es) (n + 1) (oA A es) = slA esz (es.map (frz (aA A esz es) n)) := by
  match es with
  | [] => rfl
  | [x] => simp [oA, aA, frz, slA]
  | x :: y :: r =>
    simp only [oA, aA, frz, slA, List.getElem?_concat_length]
    simp
end

/-! ### lists of integers -/

open Classical in
noncomputable def intOf : AV → Option Int
  | .int .i64 z => if inI z then some z else none
  | _ => none
noncomputable def allOf {α : Type} (f : AV → Option α) : List AV → Option (List α)
  | [] => some []
  | x :: r => match f x, allOf f r with
    | some y, some l => some (y :: l)
    | _, _ => none
noncomputable def listOf {α : Type} (f : AV → Option α) : AV → Option (List α)
  | .nilS => some []
  | .fs 1 es => if es.length ≤ 9223372036854775807 then allOf f es else none
  | _ => none
noncomputable def intsOf (a : AV) : Option (List Int) := listOf intOf a

theorem allOf_some {α : Type} {f : AV → Option α} : ∀ {es : List AV} {xs : List α}, allOf f es = some xs → es.length = xs.length ∧ ∀ i (h : i < es.length) (h' : i < xs.length), f es[i] = some xs[i]
  | [], xs, h => by injection h with h; subst h; exact ⟨rfl, fun i h => by cases h⟩
  | x :: r, xs, h => by
    unfold allOf at h
    split at h
    · rename_i y l h1 h2
      injection h with h; subst h
      obtain ⟨k1, k2⟩ := allOf_some (es := r) h2
      refine ⟨by simp [k1], fun i h h' => ?_⟩
      cases i with
      | zero => exact h1
      | succ i => exact k2 i (by simpa using h) (by simpa using h')
    · cases h
theorem allOf_map {α : Type} {f : AV → Option α} {c : α → AV} : ∀ {xs : List α}, (∀ x ∈ xs, f (c x) = some x) → allOf f (xs.map c) = some xs
  | [], _ => rfl
  | x :: r, h => by
    simp only [List.map_cons, allOf, h x (by simp), allOf_map (xs := r) (fun y hy => h y (by simp [hy]))]
theorem listOf_sl {α : Type} {f : AV → Option α} {a : AV} {xs : List α} (h : listOf f a = some xs) : ∃ es, SlA 1 es a ∧ es.length = xs.length ∧ (∀ i (h : i < es.length) (h' : i < xs.length), f es[i] = some xs[i]) ∧ xs.length ≤ 9223372036854775807 := by
  unfold listOf at h
  split at h
  · injection h with h; subst h
    exact ⟨[], .inl ⟨rfl, rfl⟩, rfl, fun i h => (by cases h), by simp⟩
  · rename_i es
    simp only [Option.ite_none_right_eq_some] at h
    obtain ⟨k1, k2⟩ := allOf_some h.2
    exact ⟨es, .inr rfl, k1, k2, by omega⟩
  · cases h
theorem listOf_of {α : Type} {f : AV → Option α} {c : α → AV} {a : AV} {xs : List α} (h : SlA 1 (xs.map c) a) (hl : xs.length ≤ 9223372036854775807) (hc : ∀ x ∈ xs, f (c x) = some x) : listOf f a = some xs := by
  rcases h with ⟨rfl, h2⟩ | rfl
  · have : xs = [] := by simpa using h2
    subst this; rfl
  · simp only [listOf, List.length_map]
    rw [if_pos hl]
    exact allOf_map hc
theorem intOf_some {a : AV} {z : Int} (h : intOf a = some z) : a = .int .i64 z ∧ inI z := by
  unfold intOf at h
  split at h
  · simp only [Option.ite_none_right_eq_some, Option.some.injEq] at h
    obtain ⟨h1, rfl⟩ := h
    exact ⟨rfl, h1⟩
  · cases h
theorem intOf_int {z : Int} (h : inI z) : intOf (.int .i64 z) = some z := if_pos h
theorem intsOf_some {a : AV} {xs : List Int} (h : intsOf a = some xs) : SlA 1 (xs.map (.int .i64)) a ∧ (∀ z ∈ xs, inI z) ∧ xs.length ≤ 9223372036854775807 := by
  obtain ⟨es, h1, h2, h3, h4⟩ := listOf_sl h
  have : es = xs.map (.int .i64) := List.ext_getElem (by simpa using h2) fun i k1 k2 => by
    rw [(intOf_some (h3 i k1 (by simpa using k2))).1]; simp
  refine ⟨this ▸ h1, fun z hz => ?_, h4⟩
  obtain ⟨i, hi, rfl⟩ := List.mem_iff_getElem.1 hz
  exact (intOf_some (h3 i (by omega) hi)).2
theorem intsOf_of {a : AV} {xs : List Int} (h : SlA 1 (xs.map (.int .i64)) a) (hl : xs.length ≤ 9223372036854775807) (hr : ∀ z ∈ xs, inI z) : intsOf a = some xs := listOf_of h hl fun x hx => intOf_int (hr x hx)

theorem least {p : Nat → Prop} (h : ∃ i, p i) : ∃ i, p i ∧ ∀ j, j < i → ¬ p j := by
  obtain ⟨i, hi⟩ := h
  induction i using Nat.strongRecOn with
  | ind i ih =>
    by_cases hj : ∃ j, j < i ∧ p j
    · obtain ⟨j, hj, hp⟩ := hj
      exact ih j hj hp
    · exact ⟨i, hi, fun j h hp => hj ⟨j, h, hp⟩⟩

/-! ### small facts on numbers, for 'simp' -/
theorem lt_nat (a b : Nat) (k : IntKind) : evBin .lss (.int k (a : Int)) (.int k (b : Int)) = some (.bool (decide (a < b))) := by
  simp [evBin]
theorem shr_nat (a b : Nat) (k k' : IntKind) (h : b ≤ k.bits) : evBin .shr (.int k (a : Int)) (.int k' (b : Int)) = some (.int k ((a / 2 ^ b : Nat) : Int)) := by
  have hm : min b k.bits = b := by omega
  have : (a : Int).fdiv (2 ^ b) = ((a / 2 ^ b : Nat) : Int) := by
    rw [Int.fdiv_eq_ediv_of_nonneg _ (Int.le_of_lt (Int.pow_pos (by decide)))]
    norm_cast
  simp only [evBin]
  rw [if_neg (by omega), Int.toNat_natCast, hm, this]
theorem rem2_nat (a : Nat) (k : IntKind) : evBin .rem (.int k (a : Int)) (.int k 2) = some (.int k ((a % 2 : Nat) : Int)) := by
  simp only [evBin]
  rw [if_pos trivial, if_neg (by omega), Int.tmod_eq_emod_of_nonneg (by omega)]
  norm_cast
theorem eq1_nat (a : Nat) (k : IntKind) : evBin .eql (.int k (a : Int)) (.int k 1) = some (.bool (decide (a = 1))) := by
  simp [evBin]; omega
theorem add1_nat (a : Nat) (h : a < 9223372036854775807) : evBin .add (.int .i64 (a : Int)) (.int .i64 1) = some (.int .i64 ((a + 1 : Nat) : Int)) := by
  have : IntKind.i64.wrap ((a : Int) + 1) = ((a + 1 : Nat) : Int) := by rw [wrapI (by unfold inI; omega)]; omega
  simp only [evBin]
  rw [if_pos trivial, this]
end Go.Proofs.YtkdjebioapholaaDoor
/-
  The functions, compiled; written by wip/gen.
-/
namespace Go.Proofs.YtkdjebioapholaaDoor
open Go
def lp3x0 : MC := .seq (.seq (.region [⟨none, .mv (.var 7), none⟩, ⟨some 14, .bin .lss (.tmp 0) (.cst (.int .i64 2)), none⟩]) (.cond (.var 14) .skip (.exit 0))) (.seq (.seq (.block 1 (.seq (.region [⟨none, .mv (.var 0), none⟩, ⟨none, .call (.fn 12) [.tmp 0], none⟩, ⟨some 8, .mv (.tmp 1), none⟩]) (.seq (.region [⟨none, .mv (.var 1), none⟩, ⟨some 9, .mv (.tmp 0), none⟩]) (.seq (.seq (.region [⟨none, .mv (.var 7), none⟩, ⟨some 15, .bin .eql (.tmp 0) (.cst (.int .i64 1)), none⟩]) (.cond (.var 15) (.seq (.region [⟨none, .mv (.var 3), none⟩, ⟨none, .call (.fn 13) [.tmp 0], none⟩, ⟨some 8, .mv (.tmp 1), none⟩]) (.region [⟨none, .mv (.var 4), none⟩, ⟨none, .call (.fn 14) [.tmp 0], none⟩, ⟨some 9, .mv (.tmp 1), none⟩])) .skip)) (.seq (.region [⟨none, .mv (.var 9), none⟩, ⟨none, .mv (.var 8), none⟩, ⟨none, .call (.fn 15) [.tmp 0, .tmp 1], none⟩, ⟨none, .mv (.tmp 2), none⟩, ⟨none, .extract (.tmp 3) 0, none⟩, ⟨none, .extract (.tmp 3) 1, none⟩, ⟨some 10, .mv (.tmp 4), none⟩, ⟨some 11, .mv (.tmp 5), none⟩]) (.seq (.region [⟨none, .mv (.var 9), none⟩, ⟨none, .mv (.var 8), none⟩, ⟨none, .call (.fn 16) [.tmp 0, .tmp 1], none⟩, ⟨none, .mv (.tmp 2), none⟩, ⟨none, .extract (.tmp 3) 0, none⟩, ⟨none, .extract (.tmp 3) 1, none⟩, ⟨some 12, .mv (.tmp 4), none⟩, ⟨some 13, .mv (.tmp 5), none⟩]) (.seq (.region [⟨none, .mv (.var 8), none⟩, ⟨none, .call (.fn 17) [.tmp 0], none⟩, ⟨none, .mv (.var 8), none⟩, ⟨none, .call (.fn 18) [.tmp 2], none⟩, ⟨none, .eqBool true (.tmp 1) (.tmp 3), none⟩, ⟨none, .mv (.tmp 4), none⟩, ⟨none, .mv (.var 11), some (.tmp 5, false)⟩, ⟨none, .mv (.var 13), some (.tmp 5, false)⟩, ⟨none, .eqBool true (.tmp 6) (.tmp 7), some (.tmp 5, false)⟩, ⟨none, .pick (.tmp 5) (.cst (.bool true)) (.tmp 8), none⟩, ⟨none, .mv (.tmp 9), none⟩, ⟨none, .mv (.var 10), some (.tmp 10, false)⟩, ⟨none, .mv (.var 12), some (.tmp 10, false)⟩, ⟨none, .call (.fn 19) [.tmp 11, .tmp 12], some (.tmp 10, false)⟩, ⟨none, .un .not (.tmp 13), some (.tmp 10, false)⟩, ⟨none, .pick (.tmp 10) (.cst (.bool true)) (.tmp 14), none⟩, ⟨none, .mv (.tmp 15), none⟩, ⟨none, .mv (.var 9), some (.tmp 16, false)⟩, ⟨none, .mv (.var 8), some (.tmp 16, false)⟩, ⟨none, .mv (.var 2), some (.tmp 16, false)⟩, ⟨none, .call (.fn 20) [.tmp 17, .tmp 18, .tmp 19], some (.tmp 16, false)⟩, ⟨none, .mv (.var 9), some (.tmp 16, false)⟩, ⟨none, .mv (.var 8), some (.tmp 16, false)⟩, ⟨none, .mv (.var 2), some (.tmp 16, false)⟩, ⟨none, .call (.fn 21) [.tmp 21, .tmp 22, .tmp 23], some (.tmp 16, false)⟩, ⟨none, .eqBool true (.tmp 20) (.tmp 24), some (.tmp 16, false)⟩, ⟨none, .pick (.tmp 16) (.cst (.bool true)) (.tmp 25), none⟩, ⟨none, .mv (.tmp 26), none⟩, ⟨none, .mv (.var 9), some (.tmp 27, false)⟩, ⟨none, .mv (.var 8), some (.tmp 27, false)⟩, ⟨none, .call (.fn 22) [.tmp 28, .tmp 29], some (.tmp 27, false)⟩, ⟨none, .mv (.var 9), some (.tmp 27, false)⟩, ⟨none, .mv (.var 8), some (.tmp 27, false)⟩, ⟨none, .call (.fn 23) [.tmp 31, .tmp 32], some (.tmp 27, false)⟩, ⟨none, .call (.fn 19) [.tmp 30, .tmp 33], some (.tmp 27, false)⟩, ⟨none, .un .not (.tmp 34), some (.tmp 27, false)⟩, ⟨some 16, .pick (.tmp 27) (.cst (.bool true)) (.tmp 35), none⟩]) (.cond (.var 16) (.seq (.region [⟨some 5, .mv (.cst (.bool false)), none⟩]) .ret) .skip)))))))) (.kill [5, 8, 9, 10, 11, 12, 13, 14, 15, 16])) (.region [⟨none, .mv (.var 7), none⟩, ⟨none, .bin .add (.tmp 0) (.cst (.int .i64 1)), none⟩, ⟨some 7, .mv (.tmp 1), none⟩]))
def mf3 : MFun := ⟨5, 17, .seq (.region [⟨some 5, .mv (.cst (.bool false)), none⟩]) (.seq (.region [⟨none, .call (.fn 11) [], none⟩, ⟨some 6, .mv (.tmp 0), none⟩]) (.seq (.region [⟨none, .mv (.var 1), none⟩, ⟨none, .mv (.var 1), none⟩, ⟨none, .lenSl (.tmp 1), none⟩, ⟨none, .minmax false (.tmp 2) [.cst (.int .i64 20)], none⟩, ⟨none, .sliceSl 1 (.tmp 0) none (some (.tmp 3)), none⟩, ⟨some 1, .mv (.tmp 4), none⟩]) (.seq (.region [⟨none, .mv (.var 2), none⟩, ⟨none, .mv (.var 2), none⟩, ⟨none, .lenSl (.tmp 1), none⟩, ⟨none, .minmax false (.tmp 2) [.cst (.int .i64 20)], none⟩, ⟨none, .sliceSl 1 (.tmp 0) none (some (.tmp 3)), none⟩, ⟨some 2, .mv (.tmp 4), none⟩]) (.seq (.seq (.region [⟨some 7, .mv (.cst (.int .i64 0)), none⟩]) (.seq (.block 0 (.loop [5, 8, 9, 10, 11, 12, 13, 14, 15, 16] lp3x0)) (.kill [0, 1, 2, 3, 4, 5, 7, 8, 9, 10, 11, 12, 13, 14, 15, 16]))) (.seq (.region [⟨none, .mv (.var 6), none⟩, ⟨some 5, .mv (.tmp 0), none⟩]) .ret))))), [.tmp 5]⟩
def mask3x0 : List Nat := [5, 8, 9, 10, 11, 12, 13, 14, 15, 16]
abbrev st3x0 (v0 v1 v2 v3 v4 v6 v7 : AV) : List AV := [v0, v1, v2, v3, v4, .undef, v6, v7, .undef, .undef, .undef, .undef, .undef, .undef, .undef, .undef, .undef]
theorem cl3x0 {v0 v1 v2 v3 v4 d5 v6 v7 d8 d9 d10 d11 d12 d13 d14 d15 d16 : AV} : clear mask3x0 [v0, v1, v2, v3, v4, d5, v6, v7, d8, d9, d10, d11, d12, d13, d14, d15, d16] = st3x0 v0 v1 v2 v3 v4 v6 v7 := by simp only [mask3x0, clear, List.foldl_cons, List.foldl_nil, List.set_cons_zero, List.set_cons_succ]
theorem go3x0 {E : Env} {fuel : Nat} {A : Arena} {o : Out} {k : List KC} {v0 v1 v2 v3 v4 d5 v6 v7 d8 d9 d10 d11 d12 d13 d14 d15 d16 : AV} (h : iter (evC E fuel lp3x0) mask3x0 fuel (st3x0 v0 v1 v2 v3 v4 v6 v7) A = some o) :
    run E fuel (.code (.loop [5, 8, 9, 10, 11, 12, 13, 14, 15, 16] lp3x0) :: k) [v0, v1, v2, v3, v4, d5, v6, v7, d8, d9, d10, d11, d12, d13, d14, d15, d16] A = after E fuel k o := run_loopC mask3x0 _ _ (by rw [cl3x0]; exact h)
set_option maxHeartbeats 4000000 in
theorem comp3 : compFun Tryd.prog Tryd.f3 5 [0, 1, 2, 3, 4, 10, 11, 12, 13, 14, 15, 16, 17, 18, 31, 38, 91] [] true ([[5, 8, 9, 10, 11, 12, 13, 14, 15, 16]], [[5, 8, 9, 10, 11, 12, 13, 14, 15, 16], [0, 1, 2, 3, 4, 5, 7, 8, 9, 10, 11, 12, 13, 14, 15, 16]]) = some mf3 := by kernel_rfl
theorem at3 : Tryd.prog.funcs[3]? = some Tryd.f3 := by kernel_rfl
def lp4x0 : MC := .seq (.seq (.region [⟨none, .mv (.var 11), none⟩, ⟨none, .mv (.var 7), none⟩, ⟨none, .lenSl (.tmp 1), none⟩, ⟨some 16, .bin .lss (.tmp 0) (.tmp 2), none⟩]) (.cond (.var 16) .skip (.exit 0))) (.seq (.seq (.block 1 (.seq (.region [⟨none, .mv (.var 9), none⟩, ⟨none, .mv (.var 11), none⟩, ⟨none, .indexSl 1 (.tmp 0) (.tmp 1), none⟩, ⟨none, .load false 1 (.tmp 2), none⟩, ⟨none, .mv (.var 7), none⟩, ⟨none, .mv (.var 11), none⟩, ⟨none, .indexSl 1 (.tmp 4) (.tmp 5), none⟩, ⟨none, .load false 1 (.tmp 6), none⟩, ⟨some 17, .bin .neq (.tmp 3) (.tmp 7), none⟩]) (.cond (.var 17) (.seq (.region [⟨none, .mv (.var 4), none⟩, ⟨none, .mv (.tmp 0), none⟩, ⟨none, .mv (.var 7), some (.tmp 1, true)⟩, ⟨none, .mv (.var 11), some (.tmp 1, true)⟩, ⟨none, .indexSl 1 (.tmp 2) (.tmp 3), some (.tmp 1, true)⟩, ⟨none, .load false 1 (.tmp 4), some (.tmp 1, true)⟩, ⟨none, .mv (.var 9), some (.tmp 1, true)⟩, ⟨none, .mv (.var 11), some (.tmp 1, true)⟩, ⟨none, .indexSl 1 (.tmp 6) (.tmp 7), some (.tmp 1, true)⟩, ⟨none, .load false 1 (.tmp 8), some (.tmp 1, true)⟩, ⟨none, .bin .lss (.tmp 5) (.tmp 9), some (.tmp 1, true)⟩, ⟨none, .pick (.tmp 1) (.tmp 10) (.cst (.bool false)), none⟩, ⟨some 3, .mv (.tmp 11), none⟩]) .ret) .skip))) (.kill [0, 1, 2, 3, 5, 6, 8, 10, 12, 13, 14, 15, 16, 17])) (.region [⟨none, .mv (.var 11), none⟩, ⟨none, .bin .add (.tmp 0) (.cst (.int .i64 1)), none⟩, ⟨some 11, .mv (.tmp 1), none⟩]))
def mf4 : MFun := ⟨3, 18, .seq (.region [⟨some 3, .mv (.cst (.bool false)), none⟩]) (.seq (.region [⟨none, .call (.fn 11) [], none⟩, ⟨some 4, .mv (.tmp 0), none⟩]) (.seq (.region [⟨none, .mv (.var 0), none⟩, ⟨none, .call (.fn 13) [.tmp 0], none⟩, ⟨some 5, .mv (.tmp 1), none⟩]) (.seq (.region [⟨none, .mv (.var 1), none⟩, ⟨none, .call (.fn 14) [.tmp 0], none⟩, ⟨some 6, .mv (.tmp 1), none⟩]) (.seq (.region [⟨none, .mv (.var 6), none⟩, ⟨none, .mv (.var 5), none⟩, ⟨none, .call (.fn 15) [.tmp 0, .tmp 1], none⟩, ⟨none, .mv (.tmp 2), none⟩, ⟨none, .extract (.tmp 3) 0, none⟩, ⟨none, .extract (.tmp 3) 1, none⟩, ⟨some 7, .mv (.tmp 4), none⟩, ⟨some 8, .mv (.tmp 5), none⟩]) (.seq (.region [⟨none, .mv (.var 2), none⟩, ⟨none, .mv (.var 5), none⟩, ⟨none, .lenSl (.tmp 1), none⟩, ⟨none, .call (.fn 24) [.tmp 0, .tmp 2], none⟩, ⟨some 9, .mv (.tmp 3), none⟩]) (.seq (.region [⟨none, .mv (.var 6), none⟩, ⟨none, .mv (.var 5), none⟩, ⟨none, .mv (.var 9), none⟩, ⟨none, .call (.fn 20) [.tmp 0, .tmp 1, .tmp 2], none⟩, ⟨some 10, .mv (.tmp 3), none⟩]) (.seq (.seq (.region [⟨none, .mv (.var 8), none⟩, ⟨some 12, .un .not (.tmp 0), none⟩]) (.cond (.var 12) (.seq (.region [⟨none, .mv (.var 4), none⟩, ⟨none, .mv (.tmp 0), none⟩, ⟨none, .mv (.var 7), some (.tmp 1, true)⟩, ⟨none, .lenSl (.tmp 2), some (.tmp 1, true)⟩, ⟨none, .bin .eql (.tmp 3) (.cst (.int .i64 0)), some (.tmp 1, true)⟩, ⟨none, .pick (.tmp 1) (.tmp 4) (.cst (.bool false)), none⟩, ⟨none, .mv (.tmp 5), none⟩, ⟨none, .mv (.var 10), some (.tmp 6, true)⟩, ⟨none, .un .not (.tmp 7), some (.tmp 6, true)⟩, ⟨none, .pick (.tmp 6) (.tmp 8) (.cst (.bool false)), none⟩, ⟨none, .mv (.tmp 9), none⟩, ⟨none, .mv (.var 6), some (.tmp 10, true)⟩, ⟨none, .mv (.var 5), some (.tmp 10, true)⟩, ⟨none, .mv (.var 5), some (.tmp 10, true)⟩, ⟨none, .lenSl (.tmp 13), some (.tmp 10, true)⟩, ⟨none, .bin .shl (.cst (.int .i64 1)) (.tmp 14), some (.tmp 10, true)⟩, ⟨none, .bin .sub (.tmp 15) (.cst (.int .i64 1)), some (.tmp 10, true)⟩, ⟨none, .mv (.var 5), some (.tmp 10, true)⟩, ⟨none, .lenSl (.tmp 17), some (.tmp 10, true)⟩, ⟨none, .call (.fn 24) [.tmp 16, .tmp 18], some (.tmp 10, true)⟩, ⟨none, .call (.fn 20) [.tmp 11, .tmp 12, .tmp 19], some (.tmp 10, true)⟩, ⟨none, .un .not (.tmp 20), some (.tmp 10, true)⟩, ⟨none, .pick (.tmp 10) (.tmp 21) (.cst (.bool false)), none⟩, ⟨some 3, .mv (.tmp 22), none⟩]) .ret) .skip)) (.seq (.seq (.region [⟨none, .mv (.var 6), none⟩, ⟨none, .mv (.var 5), none⟩, ⟨none, .mv (.var 7), none⟩, ⟨none, .call (.fn 20) [.tmp 0, .tmp 1, .tmp 2], none⟩, ⟨some 13, .un .not (.tmp 3), none⟩]) (.cond (.var 13) (.seq (.region [⟨some 3, .mv (.cst (.bool false)), none⟩]) .ret) .skip)) (.seq (.seq (.region [⟨none, .mv (.var 10), none⟩, ⟨none, .un .not (.tmp 0), none⟩, ⟨none, .mv (.tmp 1), none⟩, ⟨none, .mv (.var 9), some (.tmp 2, false)⟩, ⟨none, .lenSl (.tmp 3), some (.tmp 2, false)⟩, ⟨none, .mv (.var 7), some (.tmp 2, false)⟩, ⟨none, .lenSl (.tmp 5), some (.tmp 2, false)⟩, ⟨none, .bin .gtr (.tmp 4) (.tmp 6), some (.tmp 2, false)⟩, ⟨some 14, .pick (.tmp 2) (.cst (.bool true)) (.tmp 7), none⟩]) (.cond (.var 14) (.seq (.region [⟨none, .mv (.var 4), none⟩, ⟨some 3, .mv (.tmp 0), none⟩]) .ret) .skip)) (.seq (.seq (.region [⟨none, .mv (.var 9), none⟩, ⟨none, .lenSl (.tmp 0), none⟩, ⟨none, .mv (.var 7), none⟩, ⟨none, .lenSl (.tmp 2), none⟩, ⟨some 15, .bin .lss (.tmp 1) (.tmp 3), none⟩]) (.cond (.var 15) (.seq (.region [⟨some 3, .mv (.cst (.bool false)), none⟩]) .ret) .skip)) (.seq (.seq (.region [⟨some 11, .mv (.cst (.int .i64 0)), none⟩]) (.seq (.block 0 (.loop [0, 1, 2, 3, 5, 6, 8, 10, 12, 13, 14, 15, 16, 17] lp4x0)) (.kill [0, 1, 2, 3, 5, 6, 7, 8, 9, 10, 11, 12, 13, 14, 15, 16, 17]))) (.seq (.region [⟨none, .mv (.var 4), none⟩, ⟨some 3, .mv (.tmp 0), none⟩]) .ret)))))))))))), [.tmp 3]⟩
def mask4x0 : List Nat := [0, 1, 2, 3, 5, 6, 8, 10, 12, 13, 14, 15, 16, 17]
abbrev st4x0 (v4 v7 v9 v11 : AV) : List AV := [.undef, .undef, .undef, .undef, v4, .undef, .undef, v7, .undef, v9, .undef, v11, .undef, .undef, .undef, .undef, .undef, .undef]
theorem cl4x0 {d0 d1 d2 d3 v4 d5 d6 v7 d8 v9 d10 v11 d12 d13 d14 d15 d16 d17 : AV} : clear mask4x0 [d0, d1, d2, d3, v4, d5, d6, v7, d8, v9, d10, v11, d12, d13, d14, d15, d16, d17] = st4x0 v4 v7 v9 v11 := by simp only [mask4x0, clear, List.foldl_cons, List.foldl_nil, List.set_cons_zero, List.set_cons_succ]
theorem go4x0 {E : Env} {fuel : Nat} {A : Arena} {o : Out} {k : List KC} {d0 d1 d2 d3 v4 d5 d6 v7 d8 v9 d10 v11 d12 d13 d14 d15 d16 d17 : AV} (h : iter (evC E fuel lp4x0) mask4x0 fuel (st4x0 v4 v7 v9 v11) A = some o) :
    run E fuel (.code (.loop [0, 1, 2, 3, 5, 6, 8, 10, 12, 13, 14, 15, 16, 17] lp4x0) :: k) [d0, d1, d2, d3, v4, d5, d6, v7, d8, v9, d10, v11, d12, d13, d14, d15, d16, d17] A = after E fuel k o := run_loopC mask4x0 _ _ (by rw [cl4x0]; exact h)
set_option maxHeartbeats 4000000 in
theorem comp4 : compFun Tryd.prog Tryd.f4 3 [0, 1, 2, 6, 7, 8, 9, 10, 11, 12, 13, 14, 35, 63, 72, 78, 82, 93] [] true ([[0, 1, 2, 3, 5, 6, 8, 10, 12, 13, 14, 15, 16, 17]], [[0, 1, 2, 3, 5, 6, 8, 10, 12, 13, 14, 15, 16, 17], [0, 1, 2, 3, 5, 6, 7, 8, 9, 10, 11, 12, 13, 14, 15, 16, 17]]) = some mf4 := by kernel_rfl
theorem at4 : Tryd.prog.funcs[4]? = some Tryd.f4 := by kernel_rfl
def mf5 : MFun := ⟨3, 12, .seq (.region [⟨some 3, .mv (.cst (.bool false)), none⟩]) (.seq (.region [⟨none, .call (.fn 11) [], none⟩, ⟨some 4, .mv (.tmp 0), none⟩]) (.seq (.region [⟨none, .mv (.var 0), none⟩, ⟨none, .call (.fn 13) [.tmp 0], none⟩, ⟨some 5, .mv (.tmp 1), none⟩]) (.seq (.region [⟨none, .mv (.var 1), none⟩, ⟨none, .call (.fn 14) [.tmp 0], none⟩, ⟨some 6, .mv (.tmp 1), none⟩]) (.seq (.region [⟨none, .mv (.var 6), none⟩, ⟨none, .mv (.var 5), none⟩, ⟨none, .call (.fn 15) [.tmp 0, .tmp 1], none⟩, ⟨none, .mv (.tmp 2), none⟩, ⟨none, .extract (.tmp 3) 0, none⟩, ⟨none, .extract (.tmp 3) 1, none⟩, ⟨some 7, .mv (.tmp 4), none⟩, ⟨some 8, .mv (.tmp 5), none⟩]) (.seq (.seq (.region [⟨none, .mv (.var 8), none⟩, ⟨none, .un .not (.tmp 0), none⟩, ⟨none, .mv (.tmp 1), none⟩, ⟨none, .mv (.var 7), some (.tmp 2, false)⟩, ⟨none, .lenSl (.tmp 3), some (.tmp 2, false)⟩, ⟨none, .bin .eql (.tmp 4) (.cst (.int .i64 0)), some (.tmp 2, false)⟩, ⟨some 11, .pick (.tmp 2) (.cst (.bool true)) (.tmp 5), none⟩]) (.cond (.var 11) (.seq (.region [⟨none, .mv (.var 4), none⟩, ⟨none, .mv (.tmp 0), none⟩, ⟨none, .mv (.var 8), some (.tmp 1, true)⟩, ⟨none, .mv (.tmp 2), some (.tmp 1, true)⟩, ⟨none, .mv (.var 6), some (.tmp 3, false)⟩, ⟨none, .lenSl (.tmp 4), some (.tmp 3, false)⟩, ⟨none, .bin .gtr (.tmp 5) (.cst (.int .i64 0)), some (.tmp 3, false)⟩, ⟨none, .pick (.tmp 3) (.cst (.bool true)) (.tmp 6), some (.tmp 1, true)⟩, ⟨none, .pick (.tmp 1) (.tmp 7) (.cst (.bool false)), none⟩, ⟨some 3, .mv (.tmp 8), none⟩]) .ret) .skip)) (.seq (.region [⟨none, .mv (.var 2), none⟩, ⟨none, .mv (.var 7), none⟩, ⟨none, .lenSl (.tmp 1), none⟩, ⟨none, .call (.fn 25) [.tmp 0, .tmp 2], none⟩, ⟨some 9, .mv (.tmp 3), none⟩]) (.seq (.regionD [] [⟨none, .buildSlice 1 [], none⟩, ⟨none, .mv (.var 7), none⟩, ⟨none, .mv (.var 9), none⟩, ⟨none, .sliceSl 1 (.tmp 1) none (some (.tmp 2)), none⟩, ⟨none, .append 1 8 (.tmp 0) (.tmp 3), none⟩, ⟨none, .mv (.var 7), none⟩, ⟨none, .mv (.var 9), none⟩, ⟨none, .bin .add (.tmp 6) (.cst (.int .i64 1)), none⟩, ⟨none, .sliceSl 1 (.tmp 5) (some (.tmp 7)) none, none⟩, ⟨none, .append 1 8 (.tmp 4) (.tmp 8), none⟩, ⟨some 10, .mv (.tmp 9), none⟩] [(0, 3), (0, 8), (4, 8)]) (.seq (.region [⟨none, .mv (.var 4), none⟩, ⟨none, .mv (.tmp 0), none⟩, ⟨none, .mv (.var 6), some (.tmp 1, true)⟩, ⟨none, .mv (.var 5), some (.tmp 1, true)⟩, ⟨none, .mv (.var 10), some (.tmp 1, true)⟩, ⟨none, .call (.fn 20) [.tmp 2, .tmp 3, .tmp 4], some (.tmp 1, true)⟩, ⟨none, .un .not (.tmp 5), some (.tmp 1, true)⟩, ⟨none, .pick (.tmp 1) (.tmp 6) (.cst (.bool false)), none⟩, ⟨some 3, .mv (.tmp 7), none⟩]) .ret)))))))), [.tmp 3]⟩
set_option maxHeartbeats 4000000 in
theorem comp5 : compFun Tryd.prog Tryd.f5 3 [0, 1, 2, 6, 7, 8, 9, 10, 11, 12, 13, 31] [] true ([], []) = some mf5 := by kernel_rfl
theorem at5 : Tryd.prog.funcs[5]? = some Tryd.f5 := by kernel_rfl
def lp6x0 : MC := .seq (.seq (.region [⟨none, .mv (.var 10), none⟩, ⟨none, .mv (.var 6), none⟩, ⟨none, .lenSl (.tmp 1), none⟩, ⟨some 19, .bin .lss (.tmp 0) (.tmp 2), none⟩]) (.cond (.var 19) .skip (.exit 2))) (.seq (.seq (.block 3 (.region [⟨none, .mv (.var 9), none⟩, ⟨none, .mv (.tmp 0), none⟩, ⟨none, .mv (.var 6), some (.tmp 1, false)⟩, ⟨none, .mv (.var 10), some (.tmp 1, false)⟩, ⟨none, .indexSl 1 (.tmp 2) (.tmp 3), some (.tmp 1, false)⟩, ⟨none, .load false 1 (.tmp 4), some (.tmp 1, false)⟩, ⟨none, .mv (.var 7), some (.tmp 1, false)⟩, ⟨none, .mv (.var 8), some (.tmp 1, false)⟩, ⟨none, .indexSl 1 (.tmp 6) (.tmp 7), some (.tmp 1, false)⟩, ⟨none, .load false 1 (.tmp 8), some (.tmp 1, false)⟩, ⟨none, .bin .eql (.tmp 5) (.tmp 9), some (.tmp 1, false)⟩, ⟨none, .pick (.tmp 1) (.cst (.bool true)) (.tmp 10), none⟩, ⟨some 9, .mv (.tmp 11), none⟩])) (.kill [0, 1, 3, 11, 12, 13, 14, 15, 16, 17, 18, 19, 20, 21, 22, 23, 24, 25])) (.region [⟨none, .mv (.var 10), none⟩, ⟨none, .bin .add (.tmp 0) (.cst (.int .i64 1)), none⟩, ⟨some 10, .mv (.tmp 1), none⟩]))
def lp6x1 : MC := .seq (.seq (.region [⟨none, .mv (.var 8), none⟩, ⟨none, .mv (.var 7), none⟩, ⟨none, .lenSl (.tmp 1), none⟩, ⟨some 18, .bin .lss (.tmp 0) (.tmp 2), none⟩]) (.cond (.var 18) .skip (.exit 0))) (.seq (.seq (.block 1 (.seq (.region [⟨some 9, .mv (.cst (.bool false)), none⟩]) (.seq (.seq (.region [⟨some 10, .mv (.cst (.int .i64 0)), none⟩]) (.seq (.block 2 (.loop [0, 1, 3, 11, 12, 13, 14, 15, 16, 17, 18, 19, 20, 21, 22, 23, 24, 25] lp6x0)) (.kill [0, 1, 3, 10, 11, 12, 13, 14, 15, 16, 17, 18, 19, 20, 21, 22, 23, 24, 25]))) (.seq (.region [⟨none, .mv (.var 9), none⟩, ⟨none, .un .not (.tmp 0), none⟩, ⟨none, .mv (.tmp 1), none⟩, ⟨none, .mv (.var 8), some (.tmp 2, false)⟩, ⟨none, .bin .gtr (.tmp 3) (.cst (.int .i64 0)), some (.tmp 2, false)⟩, ⟨none, .mv (.tmp 4), some (.tmp 2, false)⟩, ⟨none, .mv (.var 7), some (.tmp 5, true)⟩, ⟨none, .mv (.var 8), some (.tmp 5, true)⟩, ⟨none, .indexSl 1 (.tmp 6) (.tmp 7), some (.tmp 5, true)⟩, ⟨none, .load false 1 (.tmp 8), some (.tmp 5, true)⟩, ⟨none, .mv (.var 7), some (.tmp 5, true)⟩, ⟨none, .mv (.var 8), some (.tmp 5, true)⟩, ⟨none, .bin .sub (.tmp 11) (.cst (.int .i64 1)), some (.tmp 5, true)⟩, ⟨none, .indexSl 1 (.tmp 10) (.tmp 12), some (.tmp 5, true)⟩, ⟨none, .load false 1 (.tmp 13), some (.tmp 5, true)⟩, ⟨none, .bin .leq (.tmp 9) (.tmp 14), some (.tmp 5, true)⟩, ⟨none, .pick (.tmp 5) (.tmp 15) (.cst (.bool false)), some (.tmp 2, false)⟩, ⟨some 20, .pick (.tmp 2) (.cst (.bool true)) (.tmp 16), none⟩]) (.cond (.var 20) (.seq (.region [⟨some 3, .mv (.cst (.bool false)), none⟩]) .ret) .skip))))) (.kill [0, 1, 3, 9, 10, 11, 12, 13, 14, 15, 16, 17, 18, 19, 20, 21, 22, 23, 24, 25])) (.region [⟨none, .mv (.var 8), none⟩, ⟨none, .bin .add (.tmp 0) (.cst (.int .i64 1)), none⟩, ⟨some 8, .mv (.tmp 1), none⟩]))
def lp6x2 : MC := .seq (.seq (.region [⟨none, .mv (.var 14), none⟩, ⟨none, .mv (.var 5), none⟩, ⟨none, .mv (.var 11), none⟩, ⟨none, .indexSl 1 (.tmp 1) (.tmp 2), none⟩, ⟨none, .fieldAddr 0 (.tmp 3), none⟩, ⟨none, .load false 1 (.tmp 4), none⟩, ⟨none, .lenSl (.tmp 5), none⟩, ⟨some 23, .bin .lss (.tmp 0) (.tmp 6), none⟩]) (.cond (.var 23) .skip (.exit 8))) (.seq (.seq (.block 9 (.seq (.region [⟨none, .mv (.var 5), none⟩, ⟨none, .mv (.var 11), none⟩, ⟨none, .indexSl 1 (.tmp 0) (.tmp 1), none⟩, ⟨none, .fieldAddr 0 (.tmp 2), none⟩, ⟨none, .load false 1 (.tmp 3), none⟩, ⟨none, .mv (.var 14), none⟩, ⟨none, .indexSl 1 (.tmp 4) (.tmp 5), none⟩, ⟨none, .load false 1 (.tmp 6), none⟩, ⟨none, .mv (.var 7), none⟩, ⟨none, .mv (.var 13), none⟩, ⟨none, .indexSl 1 (.tmp 8) (.tmp 9), none⟩, ⟨none, .load false 1 (.tmp 10), none⟩, ⟨some 24, .bin .eql (.tmp 7) (.tmp 11), none⟩]) (.cond (.var 24) (.region [⟨none, .mv (.var 12), none⟩, ⟨none, .bin .add (.tmp 0) (.cst (.int .i64 1)), none⟩, ⟨some 12, .mv (.tmp 1), none⟩]) .skip))) (.kill [0, 1, 3, 8, 9, 10, 15, 16, 17, 18, 19, 20, 21, 22, 23, 24, 25])) (.region [⟨none, .mv (.var 14), none⟩, ⟨none, .bin .add (.tmp 0) (.cst (.int .i64 1)), none⟩, ⟨some 14, .mv (.tmp 1), none⟩]))
def lp6x3 : MC := .seq (.seq (.region [⟨none, .mv (.var 13), none⟩, ⟨none, .mv (.var 7), none⟩, ⟨none, .lenSl (.tmp 1), none⟩, ⟨some 22, .bin .lss (.tmp 0) (.tmp 2), none⟩]) (.cond (.var 22) .skip (.exit 6))) (.seq (.seq (.block 7 (.seq (.region [⟨some 14, .mv (.cst (.int .i64 0)), none⟩]) (.seq (.block 8 (.loop [0, 1, 3, 8, 9, 10, 15, 16, 17, 18, 19, 20, 21, 22, 23, 24, 25] lp6x2)) (.kill [0, 1, 3, 8, 9, 10, 14, 15, 16, 17, 18, 19, 20, 21, 22, 23, 24, 25])))) (.kill [0, 1, 3, 8, 9, 10, 14, 15, 16, 17, 18, 19, 20, 21, 22, 23, 24, 25])) (.region [⟨none, .mv (.var 13), none⟩, ⟨none, .bin .add (.tmp 0) (.cst (.int .i64 1)), none⟩, ⟨some 13, .mv (.tmp 1), none⟩]))
def lp6x4 : MC := .seq (.seq (.region [⟨none, .mv (.var 11), none⟩, ⟨none, .mv (.var 5), none⟩, ⟨none, .lenSl (.tmp 1), none⟩, ⟨some 21, .bin .lss (.tmp 0) (.tmp 2), none⟩]) (.cond (.var 21) .skip (.exit 4))) (.seq (.seq (.block 5 (.seq (.region [⟨some 12, .mv (.cst (.int .i64 0)), none⟩]) (.seq (.seq (.region [⟨some 13, .mv (.cst (.int .i64 0)), none⟩]) (.seq (.block 6 (.loop [0, 1, 3, 8, 9, 10, 14, 15, 16, 17, 18, 19, 20, 21, 22, 23, 24, 25] lp6x3)) (.kill [0, 1, 3, 8, 9, 10, 13, 14, 15, 16, 17, 18, 19, 20, 21, 22, 23, 24, 25]))) (.seq (.region [⟨none, .mv (.var 12), none⟩, ⟨some 25, .bin .gtr (.tmp 0) (.cst (.int .i64 1)), none⟩]) (.cond (.var 25) (.seq (.region [⟨some 3, .mv (.cst (.bool false)), none⟩]) .ret) .skip))))) (.kill [0, 1, 3, 8, 9, 10, 12, 13, 14, 15, 16, 17, 18, 19, 20, 21, 22, 23, 24, 25])) (.region [⟨none, .mv (.var 11), none⟩, ⟨none, .bin .add (.tmp 0) (.cst (.int .i64 1)), none⟩, ⟨some 11, .mv (.tmp 1), none⟩]))
def mf6 : MFun := ⟨3, 26, .seq (.region [⟨some 3, .mv (.cst (.bool false)), none⟩]) (.seq (.region [⟨none, .call (.fn 11) [], none⟩, ⟨some 4, .mv (.tmp 0), none⟩]) (.seq (.region [⟨none, .mv (.var 0), none⟩, ⟨none, .call (.fn 13) [.tmp 0], none⟩, ⟨some 5, .mv (.tmp 1), none⟩]) (.seq (.region [⟨none, .mv (.var 1), none⟩, ⟨none, .call (.fn 14) [.tmp 0], none⟩, ⟨some 6, .mv (.tmp 1), none⟩]) (.seq (.region [⟨none, .mv (.var 6), none⟩, ⟨none, .mv (.var 5), none⟩, ⟨none, .call (.fn 22) [.tmp 0, .tmp 1], none⟩, ⟨some 7, .mv (.tmp 2), none⟩]) (.seq (.seq (.region [⟨some 8, .mv (.cst (.int .i64 0)), none⟩]) (.seq (.block 0 (.loop [0, 1, 3, 9, 10, 11, 12, 13, 14, 15, 16, 17, 18, 19, 20, 21, 22, 23, 24, 25] lp6x1)) (.kill [0, 1, 3, 8, 9, 10, 11, 12, 13, 14, 15, 16, 17, 18, 19, 20, 21, 22, 23, 24, 25]))) (.seq (.seq (.region [⟨some 11, .mv (.cst (.int .i64 0)), none⟩]) (.seq (.block 4 (.loop [0, 1, 3, 8, 9, 10, 12, 13, 14, 15, 16, 17, 18, 19, 20, 21, 22, 23, 24, 25] lp6x4)) (.kill [0, 1, 3, 8, 9, 10, 11, 12, 13, 14, 15, 16, 17, 18, 19, 20, 21, 22, 23, 24, 25]))) (.seq (.region [⟨none, .mv (.var 2), none⟩, ⟨none, .mv (.var 5), none⟩, ⟨none, .lenSl (.tmp 1), none⟩, ⟨none, .call (.fn 24) [.tmp 0, .tmp 2], none⟩, ⟨some 15, .mv (.tmp 3), none⟩]) (.seq (.region [⟨none, .mv (.var 6), none⟩, ⟨none, .mv (.var 5), none⟩, ⟨none, .call (.fn 15) [.tmp 0, .tmp 1], none⟩, ⟨none, .mv (.tmp 2), none⟩, ⟨none, .extract (.tmp 3) 0, none⟩, ⟨none, .extract (.tmp 3) 1, none⟩, ⟨some 16, .mv (.tmp 4), none⟩, ⟨some 17, .mv (.tmp 5), none⟩]) (.seq (.region [⟨none, .mv (.var 4), none⟩, ⟨none, .mv (.tmp 0), none⟩, ⟨none, .mv (.var 6), some (.tmp 1, true)⟩, ⟨none, .mv (.var 5), some (.tmp 1, true)⟩, ⟨none, .mv (.var 15), some (.tmp 1, true)⟩, ⟨none, .call (.fn 20) [.tmp 2, .tmp 3, .tmp 4], some (.tmp 1, true)⟩, ⟨none, .un .not (.tmp 5), some (.tmp 1, true)⟩, ⟨none, .mv (.tmp 6), some (.tmp 1, true)⟩, ⟨none, .mv (.var 15), some (.tmp 7, false)⟩, ⟨none, .lenSl (.tmp 8), some (.tmp 7, false)⟩, ⟨none, .mv (.var 7), some (.tmp 7, false)⟩, ⟨none, .lenSl (.tmp 10), some (.tmp 7, false)⟩, ⟨none, .bin .geq (.tmp 9) (.tmp 11), some (.tmp 7, false)⟩, ⟨none, .pick (.tmp 7) (.cst (.bool true)) (.tmp 12), some (.tmp 1, true)⟩, ⟨none, .pick (.tmp 1) (.tmp 13) (.cst (.bool false)), none⟩, ⟨none, .mv (.tmp 14), none⟩, ⟨none, .mv (.var 17), some (.tmp 15, true)⟩, ⟨none, .un .not (.tmp 16), some (.tmp 15, true)⟩, ⟨none, .mv (.tmp 17), some (.tmp 15, true)⟩, ⟨none, .mv (.var 16), some (.tmp 18, false)⟩, ⟨none, .lenSl (.tmp 19), some (.tmp 18, false)⟩, ⟨none, .mv (.var 7), some (.tmp 18, false)⟩, ⟨none, .lenSl (.tmp 21), some (.tmp 18, false)⟩, ⟨none, .bin .geq (.tmp 20) (.tmp 22), some (.tmp 18, false)⟩, ⟨none, .pick (.tmp 18) (.cst (.bool true)) (.tmp 23), some (.tmp 15, true)⟩, ⟨none, .pick (.tmp 15) (.tmp 24) (.cst (.bool false)), none⟩, ⟨some 3, .mv (.tmp 25), none⟩]) .ret))))))))), [.tmp 3]⟩
def mask6x0 : List Nat := [0, 1, 3, 11, 12, 13, 14, 15, 16, 17, 18, 19, 20, 21, 22, 23, 24, 25]
abbrev st6x0 (v2 v4 v5 v6 v7 v8 v9 v10 : AV) : List AV := [.undef, .undef, v2, .undef, v4, v5, v6, v7, v8, v9, v10, .undef, .undef, .undef, .undef, .undef, .undef, .undef, .undef, .undef, .undef, .undef, .undef, .undef, .undef, .undef]
theorem cl6x0 {d0 d1 v2 d3 v4 v5 v6 v7 v8 v9 v10 d11 d12 d13 d14 d15 d16 d17 d18 d19 d20 d21 d22 d23 d24 d25 : AV} : clear mask6x0 [d0, d1, v2, d3, v4, v5, v6, v7, v8, v9, v10, d11, d12, d13, d14, d15, d16, d17, d18, d19, d20, d21, d22, d23, d24, d25] = st6x0 v2 v4 v5 v6 v7 v8 v9 v10 := by simp only [mask6x0, clear, List.foldl_cons, List.foldl_nil, List.set_cons_zero, List.set_cons_succ]
theorem go6x0 {E : Env} {fuel : Nat} {A : Arena} {o : Out} {k : List KC} {d0 d1 v2 d3 v4 v5 v6 v7 v8 v9 v10 d11 d12 d13 d14 d15 d16 d17 d18 d19 d20 d21 d22 d23 d24 d25 : AV} (h : iter (evC E fuel lp6x0) mask6x0 fuel (st6x0 v2 v4 v5 v6 v7 v8 v9 v10) A = some o) :
    run E fuel (.code (.loop [0, 1, 3, 11, 12, 13, 14, 15, 16, 17, 18, 19, 20, 21, 22, 23, 24, 25] lp6x0) :: k) [d0, d1, v2, d3, v4, v5, v6, v7, v8, v9, v10, d11, d12, d13, d14, d15, d16, d17, d18, d19, d20, d21, d22, d23, d24, d25] A = after E fuel k o := run_loopC mask6x0 _ _ (by rw [cl6x0]; exact h)
def mask6x2 : List Nat := [0, 1, 3, 8, 9, 10, 15, 16, 17, 18, 19, 20, 21, 22, 23, 24, 25]
abbrev st6x2 (v2 v4 v5 v6 v7 v11 v12 v13 v14 : AV) : List AV := [.undef, .undef, v2, .undef, v4, v5, v6, v7, .undef, .undef, .undef, v11, v12, v13, v14, .undef, .undef, .undef, .undef, .undef, .undef, .undef, .undef, .undef, .undef, .undef]
theorem cl6x2 {d0 d1 v2 d3 v4 v5 v6 v7 d8 d9 d10 v11 v12 v13 v14 d15 d16 d17 d18 d19 d20 d21 d22 d23 d24 d25 : AV} : clear mask6x2 [d0, d1, v2, d3, v4, v5, v6, v7, d8, d9, d10, v11, v12, v13, v14, d15, d16, d17, d18, d19, d20, d21, d22, d23, d24, d25] = st6x2 v2 v4 v5 v6 v7 v11 v12 v13 v14 := by simp only [mask6x2, clear, List.foldl_cons, List.foldl_nil, List.set_cons_zero, List.set_cons_succ]
theorem go6x2 {E : Env} {fuel : Nat} {A : Arena} {o : Out} {k : List KC} {d0 d1 v2 d3 v4 v5 v6 v7 d8 d9 d10 v11 v12 v13 v14 d15 d16 d17 d18 d19 d20 d21 d22 d23 d24 d25 : AV} (h : iter (evC E fuel lp6x2) mask6x2 fuel (st6x2 v2 v4 v5 v6 v7 v11 v12 v13 v14) A = some o) :
    run E fuel (.code (.loop [0, 1, 3, 8, 9, 10, 15, 16, 17, 18, 19, 20, 21, 22, 23, 24, 25] lp6x2) :: k) [d0, d1, v2, d3, v4, v5, v6, v7, d8, d9, d10, v11, v12, v13, v14, d15, d16, d17, d18, d19, d20, d21, d22, d23, d24, d25] A = after E fuel k o := run_loopC mask6x2 _ _ (by rw [cl6x2]; exact h)
def mask6x3 : List Nat := [0, 1, 3, 8, 9, 10, 14, 15, 16, 17, 18, 19, 20, 21, 22, 23, 24, 25]
abbrev st6x3 (v2 v4 v5 v6 v7 v11 v12 v13 : AV) : List AV := [.undef, .undef, v2, .undef, v4, v5, v6, v7, .undef, .undef, .undef, v11, v12, v13, .undef, .undef, .undef, .undef, .undef, .undef, .undef, .undef, .undef, .undef, .undef, .undef]
theorem cl6x3 {d0 d1 v2 d3 v4 v5 v6 v7 d8 d9 d10 v11 v12 v13 d14 d15 d16 d17 d18 d19 d20 d21 d22 d23 d24 d25 : AV} : clear mask6x3 [d0, d1, v2, d3, v4, v5, v6, v7, d8, d9, d10, v11, v12, v13, d14, d15, d16, d17, d18, d19, d20, d21, d22, d23, d24, d25] = st6x3 v2 v4 v5 v6 v7 v11 v12 v13 := by simp only [mask6x3, clear, List.foldl_cons, List.foldl_nil, List.set_cons_zero, List.set_cons_succ]
theorem go6x3 {E : Env} {fuel : Nat} {A : Arena} {o : Out} {k : List KC} {d0 d1 v2 d3 v4 v5 v6 v7 d8 d9 d10 v11 v12 v13 d14 d15 d16 d17 d18 d19 d20 d21 d22 d23 d24 d25 : AV} (h : iter (evC E fuel lp6x3) mask6x3 fuel (st6x3 v2 v4 v5 v6 v7 v11 v12 v13) A = some o) :
    run E fuel (.code (.loop [0, 1, 3, 8, 9, 10, 14, 15, 16, 17, 18, 19, 20, 21, 22, 23, 24, 25] lp6x3) :: k) [d0, d1, v2, d3, v4, v5, v6, v7, d8, d9, d10, v11, v12, v13, d14, d15, d16, d17, d18, d19, d20, d21, d22, d23, d24, d25] A = after E fuel k o := run_loopC mask6x3 _ _ (by rw [cl6x3]; exact h)
def mask6x1 : List Nat := [0, 1, 3, 9, 10, 11, 12, 13, 14, 15, 16, 17, 18, 19, 20, 21, 22, 23, 24, 25]
abbrev st6x1 (v2 v4 v5 v6 v7 v8 : AV) : List AV := [.undef, .undef, v2, .undef, v4, v5, v6, v7, v8, .undef, .undef, .undef, .undef, .undef, .undef, .undef, .undef, .undef, .undef, .undef, .undef, .undef, .undef, .undef, .undef, .undef]
theorem cl6x1 {d0 d1 v2 d3 v4 v5 v6 v7 v8 d9 d10 d11 d12 d13 d14 d15 d16 d17 d18 d19 d20 d21 d22 d23 d24 d25 : AV} : clear mask6x1 [d0, d1, v2, d3, v4, v5, v6, v7, v8, d9, d10, d11, d12, d13, d14, d15, d16, d17, d18, d19, d20, d21, d22, d23, d24, d25] = st6x1 v2 v4 v5 v6 v7 v8 := by simp only [mask6x1, clear, List.foldl_cons, List.foldl_nil, List.set_cons_zero, List.set_cons_succ]
theorem go6x1 {E : Env} {fuel : Nat} {A : Arena} {o : Out} {k : List KC} {d0 d1 v2 d3 v4 v5 v6 v7 v8 d9 d10 d11 d12 d13 d14 d15 d16 d17 d18 d19 d20 d21 d22 d23 d24 d25 : AV} (h : iter (evC E fuel lp6x1) mask6x1 fuel (st6x1 v2 v4 v5 v6 v7 v8) A = some o) :
    run E fuel (.code (.loop [0, 1, 3, 9, 10, 11, 12, 13, 14, 15, 16, 17, 18, 19, 20, 21, 22, 23, 24, 25] lp6x1) :: k) [d0, d1, v2, d3, v4, v5, v6, v7, v8, d9, d10, d11, d12, d13, d14, d15, d16, d17, d18, d19, d20, d21, d22, d23, d24, d25] A = after E fuel k o := run_loopC mask6x1 _ _ (by rw [cl6x1]; exact h)
def mask6x4 : List Nat := [0, 1, 3, 8, 9, 10, 12, 13, 14, 15, 16, 17, 18, 19, 20, 21, 22, 23, 24, 25]
abbrev st6x4 (v2 v4 v5 v6 v7 v11 : AV) : List AV := [.undef, .undef, v2, .undef, v4, v5, v6, v7, .undef, .undef, .undef, v11, .undef, .undef, .undef, .undef, .undef, .undef, .undef, .undef, .undef, .undef, .undef, .undef, .undef, .undef]
theorem cl6x4 {d0 d1 v2 d3 v4 v5 v6 v7 d8 d9 d10 v11 d12 d13 d14 d15 d16 d17 d18 d19 d20 d21 d22 d23 d24 d25 : AV} : clear mask6x4 [d0, d1, v2, d3, v4, v5, v6, v7, d8, d9, d10, v11, d12, d13, d14, d15, d16, d17, d18, d19, d20, d21, d22, d23, d24, d25] = st6x4 v2 v4 v5 v6 v7 v11 := by simp only [mask6x4, clear, List.foldl_cons, List.foldl_nil, List.set_cons_zero, List.set_cons_succ]
theorem go6x4 {E : Env} {fuel : Nat} {A : Arena} {o : Out} {k : List KC} {d0 d1 v2 d3 v4 v5 v6 v7 d8 d9 d10 v11 d12 d13 d14 d15 d16 d17 d18 d19 d20 d21 d22 d23 d24 d25 : AV} (h : iter (evC E fuel lp6x4) mask6x4 fuel (st6x4 v2 v4 v5 v6 v7 v11) A = some o) :
    run E fuel (.code (.loop [0, 1, 3, 8, 9, 10, 12, 13, 14, 15, 16, 17, 18, 19, 20, 21, 22, 23, 24, 25] lp6x4) :: k) [d0, d1, v2, d3, v4, v5, v6, v7, d8, d9, d10, v11, d12, d13, d14, d15, d16, d17, d18, d19, d20, d21, d22, d23, d24, d25] A = after E fuel k o := run_loopC mask6x4 _ _ (by rw [cl6x4]; exact h)
set_option maxHeartbeats 4000000 in
theorem comp6 : compFun Tryd.prog Tryd.f6 3 [0, 1, 2, 6, 7, 8, 9, 10, 11, 12, 13, 14, 15, 16, 17, 18, 19, 20, 32, 38, 70, 74, 80, 90, 105, 109] [] true ([[0, 1, 3, 9, 10, 11, 12, 13, 14, 15, 16, 17, 18, 19, 20, 21, 22, 23, 24, 25], [0, 1, 3, 11, 12, 13, 14, 15, 16, 17, 18, 19, 20, 21, 22, 23, 24, 25], [0, 1, 3, 8, 9, 10, 12, 13, 14, 15, 16, 17, 18, 19, 20, 21, 22, 23, 24, 25], [0, 1, 3, 8, 9, 10, 14, 15, 16, 17, 18, 19, 20, 21, 22, 23, 24, 25], [0, 1, 3, 8, 9, 10, 15, 16, 17, 18, 19, 20, 21, 22, 23, 24, 25]], [[0, 1, 3, 11, 12, 13, 14, 15, 16, 17, 18, 19, 20, 21, 22, 23, 24, 25], [0, 1, 3, 10, 11, 12, 13, 14, 15, 16, 17, 18, 19, 20, 21, 22, 23, 24, 25], [0, 1, 3, 9, 10, 11, 12, 13, 14, 15, 16, 17, 18, 19, 20, 21, 22, 23, 24, 25], [0, 1, 3, 8, 9, 10, 11, 12, 13, 14, 15, 16, 17, 18, 19, 20, 21, 22, 23, 24, 25], [0, 1, 3, 8, 9, 10, 15, 16, 17, 18, 19, 20, 21, 22, 23, 24, 25], [0, 1, 3, 8, 9, 10, 14, 15, 16, 17, 18, 19, 20, 21, 22, 23, 24, 25], [0, 1, 3, 8, 9, 10, 14, 15, 16, 17, 18, 19, 20, 21, 22, 23, 24, 25], [0, 1, 3, 8, 9, 10, 13, 14, 15, 16, 17, 18, 19, 20, 21, 22, 23, 24, 25], [0, 1, 3, 8, 9, 10, 12, 13, 14, 15, 16, 17, 18, 19, 20, 21, 22, 23, 24, 25], [0, 1, 3, 8, 9, 10, 11, 12, 13, 14, 15, 16, 17, 18, 19, 20, 21, 22, 23, 24, 25]]) = some mf6 := by kernel_rfl
theorem at6 : Tryd.prog.funcs[6]? = some Tryd.f6 := by kernel_rfl
def mf7 : MFun := ⟨4, 14, .seq (.region [⟨some 4, .mv (.cst (.bool false)), none⟩]) (.seq (.region [⟨none, .call (.fn 11) [], none⟩, ⟨some 5, .mv (.tmp 0), none⟩]) (.seq (.region [⟨none, .mv (.var 0), none⟩, ⟨none, .mv (.var 0), none⟩, ⟨none, .lenSl (.tmp 1), none⟩, ⟨none, .minmax false (.tmp 2) [.cst (.int .i64 9)], none⟩, ⟨none, .sliceSl 1 (.tmp 0) none (some (.tmp 3)), none⟩, ⟨some 0, .mv (.tmp 4), none⟩]) (.seq (.region [⟨none, .mv (.var 0), none⟩, ⟨none, .call (.fn 13) [.tmp 0], none⟩, ⟨some 6, .mv (.tmp 1), none⟩]) (.seq (.region [⟨none, .buildSlice 1 [], none⟩, ⟨none, .mv (.var 0), none⟩, ⟨none, .append 1 8 (.tmp 0) (.tmp 1), none⟩, ⟨none, .mv (.var 3), none⟩, ⟨none, .buildF 1 [.tmp 3], none⟩, ⟨none, .append 1 8 (.tmp 2) (.tmp 4), none⟩, ⟨none, .call (.fn 13) [.tmp 5], none⟩, ⟨some 7, .mv (.tmp 6), none⟩]) (.seq (.region [⟨none, .mv (.var 1), none⟩, ⟨none, .call (.fn 25) [.tmp 0, .cst (.int .i64 4096)], none⟩, ⟨none, .call (.fn 14) [.tmp 1], none⟩, ⟨none, .mv (.var 6), none⟩, ⟨none, .call (.fn 15) [.tmp 2, .tmp 3], none⟩, ⟨none, .mv (.tmp 4), none⟩, ⟨none, .extract (.tmp 5) 0, none⟩, ⟨none, .extract (.tmp 5) 1, none⟩, ⟨some 8, .mv (.tmp 6), none⟩, ⟨some 9, .mv (.tmp 7), none⟩]) (.seq (.region [⟨none, .mv (.var 1), none⟩, ⟨none, .call (.fn 25) [.tmp 0, .cst (.int .i64 4096)], none⟩, ⟨none, .mv (.var 2), none⟩, ⟨none, .call (.fn 25) [.tmp 2, .cst (.int .i64 4096)], none⟩, ⟨none, .bin .or (.tmp 1) (.tmp 3), none⟩, ⟨none, .call (.fn 14) [.tmp 4], none⟩, ⟨none, .mv (.var 6), none⟩, ⟨none, .call (.fn 15) [.tmp 5, .tmp 6], none⟩, ⟨none, .mv (.tmp 7), none⟩, ⟨none, .extract (.tmp 8) 0, none⟩, ⟨none, .extract (.tmp 8) 1, none⟩, ⟨some 10, .mv (.tmp 9), none⟩, ⟨some 11, .mv (.tmp 10), none⟩]) (.seq (.region [⟨none, .mv (.var 1), none⟩, ⟨none, .call (.fn 25) [.tmp 0, .cst (.int .i64 4096)], none⟩, ⟨none, .call (.fn 14) [.tmp 1], none⟩, ⟨none, .mv (.var 7), none⟩, ⟨none, .call (.fn 15) [.tmp 2, .tmp 3], none⟩, ⟨none, .mv (.tmp 4), none⟩, ⟨none, .extract (.tmp 5) 0, none⟩, ⟨none, .extract (.tmp 5) 1, none⟩, ⟨some 12, .mv (.tmp 6), none⟩, ⟨some 13, .mv (.tmp 7), none⟩]) (.seq (.region [⟨none, .mv (.var 5), none⟩, ⟨none, .mv (.tmp 0), none⟩, ⟨none, .mv (.var 11), some (.tmp 1, true)⟩, ⟨none, .un .not (.tmp 2), some (.tmp 1, true)⟩, ⟨none, .mv (.tmp 3), some (.tmp 1, true)⟩, ⟨none, .mv (.var 9), some (.tmp 4, false)⟩, ⟨none, .mv (.tmp 5), some (.tmp 4, false)⟩, ⟨none, .mv (.var 8), some (.tmp 6, true)⟩, ⟨none, .lenSl (.tmp 7), some (.tmp 6, true)⟩, ⟨none, .mv (.var 10), some (.tmp 6, true)⟩, ⟨none, .lenSl (.tmp 9), some (.tmp 6, true)⟩, ⟨none, .bin .leq (.tmp 8) (.tmp 10), some (.tmp 6, true)⟩, ⟨none, .pick (.tmp 6) (.tmp 11) (.cst (.bool false)), some (.tmp 4, false)⟩, ⟨none, .pick (.tmp 4) (.cst (.bool true)) (.tmp 12), some (.tmp 1, true)⟩, ⟨none, .pick (.tmp 1) (.tmp 13) (.cst (.bool false)), none⟩, ⟨none, .mv (.tmp 14), none⟩, ⟨none, .mv (.var 9), some (.tmp 15, true)⟩, ⟨none, .un .not (.tmp 16), some (.tmp 15, true)⟩, ⟨none, .mv (.tmp 17), some (.tmp 15, true)⟩, ⟨none, .mv (.var 13), some (.tmp 18, false)⟩, ⟨none, .mv (.tmp 19), some (.tmp 18, false)⟩, ⟨none, .mv (.var 12), some (.tmp 20, true)⟩, ⟨none, .lenSl (.tmp 21), some (.tmp 20, true)⟩, ⟨none, .mv (.var 8), some (.tmp 20, true)⟩, ⟨none, .lenSl (.tmp 23), some (.tmp 20, true)⟩, ⟨none, .bin .leq (.tmp 22) (.tmp 24), some (.tmp 20, true)⟩, ⟨none, .pick (.tmp 20) (.tmp 25) (.cst (.bool false)), some (.tmp 18, false)⟩, ⟨none, .pick (.tmp 18) (.cst (.bool true)) (.tmp 26), some (.tmp 15, true)⟩, ⟨none, .pick (.tmp 15) (.tmp 27) (.cst (.bool false)), none⟩, ⟨some 4, .mv (.tmp 28), none⟩]) .ret)))))))), [.tmp 4]⟩
set_option maxHeartbeats 4000000 in
theorem comp7 : compFun Tryd.prog Tryd.f7 4 [0, 1, 2, 3, 8, 9, 10, 11, 12, 13, 14, 15, 16, 17] [] true ([], []) = some mf7 := by kernel_rfl
theorem at7 : Tryd.prog.funcs[7]? = some Tryd.f7 := by kernel_rfl
def lp8x0 : MC := .seq (.seq (.region [⟨none, .mv (.var 5), none⟩, ⟨none, .mv (.var 0), none⟩, ⟨none, .lenSl (.tmp 1), none⟩, ⟨some 11, .bin .lss (.tmp 0) (.tmp 2), none⟩]) (.cond (.var 11) .skip (.exit 0))) (.seq (.seq (.block 1 (.region [⟨none, .mv (.var 4), none⟩, ⟨none, .mv (.var 0), none⟩, ⟨none, .mv (.var 5), none⟩, ⟨none, .indexSl 1 (.tmp 1) (.tmp 2), none⟩, ⟨none, .load false 1 (.tmp 3), none⟩, ⟨none, .call (.fn 25) [.tmp 4, .cst (.int .i64 4096)], none⟩, ⟨none, .mv (.var 1), none⟩, ⟨none, .call (.fn 25) [.tmp 6, .cst (.int .i64 4096)], none⟩, ⟨none, .bin .and (.tmp 5) (.tmp 7), none⟩, ⟨none, .buildF 1 [.tmp 8], none⟩, ⟨none, .append 1 8 (.tmp 0) (.tmp 9), none⟩, ⟨some 4, .mv (.tmp 10), none⟩])) (.kill [2, 6, 7, 8, 9, 10, 11])) (.region [⟨none, .mv (.var 5), none⟩, ⟨none, .bin .add (.tmp 0) (.cst (.int .i64 1)), none⟩, ⟨some 5, .mv (.tmp 1), none⟩]))
def mf8 : MFun := ⟨2, 12, .seq (.region [⟨some 2, .mv (.cst (.bool false)), none⟩]) (.seq (.region [⟨none, .call (.fn 11) [], none⟩, ⟨some 3, .mv (.tmp 0), none⟩]) (.seq (.region [⟨some 4, .mv (.cst .nilS), none⟩]) (.seq (.seq (.region [⟨some 5, .mv (.cst (.int .i64 0)), none⟩]) (.seq (.block 0 (.loop [2, 6, 7, 8, 9, 10, 11] lp8x0)) (.kill [2, 5, 6, 7, 8, 9, 10, 11]))) (.seq (.region [⟨none, .mv (.var 1), none⟩, ⟨none, .call (.fn 14) [.tmp 0], none⟩, ⟨some 6, .mv (.tmp 1), none⟩]) (.seq (.region [⟨none, .mv (.var 6), none⟩, ⟨none, .mv (.var 0), none⟩, ⟨none, .call (.fn 13) [.tmp 1], none⟩, ⟨none, .call (.fn 15) [.tmp 0, .tmp 2], none⟩, ⟨none, .mv (.tmp 3), none⟩, ⟨none, .extract (.tmp 4) 0, none⟩, ⟨none, .extract (.tmp 4) 1, none⟩, ⟨some 7, .mv (.tmp 5), none⟩, ⟨some 8, .mv (.tmp 6), none⟩]) (.seq (.region [⟨none, .mv (.var 6), none⟩, ⟨none, .mv (.var 4), none⟩, ⟨none, .call (.fn 13) [.tmp 1], none⟩, ⟨none, .call (.fn 15) [.tmp 0, .tmp 2], none⟩, ⟨none, .mv (.tmp 3), none⟩, ⟨none, .extract (.tmp 4) 0, none⟩, ⟨none, .extract (.tmp 4) 1, none⟩, ⟨some 9, .mv (.tmp 5), none⟩, ⟨some 10, .mv (.tmp 6), none⟩]) (.seq (.region [⟨none, .mv (.var 3), none⟩, ⟨none, .mv (.tmp 0), none⟩, ⟨none, .mv (.var 8), some (.tmp 1, true)⟩, ⟨none, .mv (.var 10), some (.tmp 1, true)⟩, ⟨none, .eqBool false (.tmp 2) (.tmp 3), some (.tmp 1, true)⟩, ⟨none, .pick (.tmp 1) (.tmp 4) (.cst (.bool false)), none⟩, ⟨none, .mv (.tmp 5), none⟩, ⟨none, .mv (.var 7), some (.tmp 6, true)⟩, ⟨none, .mv (.var 9), some (.tmp 6, true)⟩, ⟨none, .call (.fn 19) [.tmp 7, .tmp 8], some (.tmp 6, true)⟩, ⟨none, .pick (.tmp 6) (.tmp 9) (.cst (.bool false)), none⟩, ⟨none, .mv (.tmp 10), none⟩, ⟨none, .mv (.var 6), some (.tmp 11, true)⟩, ⟨none, .mv (.var 0), some (.tmp 11, true)⟩, ⟨none, .call (.fn 13) [.tmp 13], some (.tmp 11, true)⟩, ⟨none, .call (.fn 22) [.tmp 12, .tmp 14], some (.tmp 11, true)⟩, ⟨none, .mv (.var 6), some (.tmp 11, true)⟩, ⟨none, .mv (.var 4), some (.tmp 11, true)⟩, ⟨none, .call (.fn 13) [.tmp 17], some (.tmp 11, true)⟩, ⟨none, .call (.fn 22) [.tmp 16, .tmp 18], some (.tmp 11, true)⟩, ⟨none, .call (.fn 19) [.tmp 15, .tmp 19], some (.tmp 11, true)⟩, ⟨none, .pick (.tmp 11) (.tmp 20) (.cst (.bool false)), none⟩, ⟨some 2, .mv (.tmp 21), none⟩]) .ret))))))), [.tmp 2]⟩
def mask8x0 : List Nat := [2, 6, 7, 8, 9, 10, 11]
abbrev st8x0 (v0 v1 v3 v4 v5 : AV) : List AV := [v0, v1, .undef, v3, v4, v5, .undef, .undef, .undef, .undef, .undef, .undef]
theorem cl8x0 {v0 v1 d2 v3 v4 v5 d6 d7 d8 d9 d10 d11 : AV} : clear mask8x0 [v0, v1, d2, v3, v4, v5, d6, d7, d8, d9, d10, d11] = st8x0 v0 v1 v3 v4 v5 := by simp only [mask8x0, clear, List.foldl_cons, List.foldl_nil, List.set_cons_zero, List.set_cons_succ]
theorem go8x0 {E : Env} {fuel : Nat} {A : Arena} {o : Out} {k : List KC} {v0 v1 d2 v3 v4 v5 d6 d7 d8 d9 d10 d11 : AV} (h : iter (evC E fuel lp8x0) mask8x0 fuel (st8x0 v0 v1 v3 v4 v5) A = some o) :
    run E fuel (.code (.loop [2, 6, 7, 8, 9, 10, 11] lp8x0) :: k) [v0, v1, d2, v3, v4, v5, d6, d7, d8, d9, d10, d11] A = after E fuel k o := run_loopC mask8x0 _ _ (by rw [cl8x0]; exact h)
set_option maxHeartbeats 4000000 in
theorem comp8 : compFun Tryd.prog Tryd.f8 2 [0, 1, 4, 5, 6, 7, 8, 9, 10, 11, 12, 17] [] true ([[2, 6, 7, 8, 9, 10, 11]], [[2, 6, 7, 8, 9, 10, 11], [2, 5, 6, 7, 8, 9, 10, 11]]) = some mf8 := by kernel_rfl
theorem at8 : Tryd.prog.funcs[8]? = some Tryd.f8 := by kernel_rfl
def lp9x0 : MC := .seq (.seq (.region [⟨none, .mv (.var 10), none⟩, ⟨none, .mv (.var 7), none⟩, ⟨none, .lenSl (.tmp 1), none⟩, ⟨some 13, .bin .lss (.tmp 0) (.tmp 2), none⟩]) (.cond (.var 13) .skip (.exit 0))) (.seq (.seq (.block 1 (.region [⟨none, .mv (.var 7), none⟩, ⟨none, .mv (.var 10), none⟩, ⟨none, .mv (.var 10), none⟩, ⟨none, .bin .add (.tmp 2) (.cst (.int .i64 1)), none⟩, ⟨none, .sliceSl 1 (.tmp 0) (some (.tmp 1)) (some (.tmp 3)), none⟩, ⟨none, .mv (.var 6), none⟩, ⟨none, .mv (.var 8), none⟩, ⟨none, .call (.fn 20) [.tmp 4, .tmp 5, .tmp 6], none⟩, ⟨none, .mv (.tmp 7), none⟩, ⟨none, .mv (.var 9), some (.tmp 8, true)⟩, ⟨none, .pick (.tmp 8) (.tmp 9) (.cst (.bool false)), none⟩, ⟨some 9, .mv (.tmp 10), none⟩])) (.kill [0, 1, 2, 4, 11, 12, 13, 14, 15])) (.region [⟨none, .mv (.var 10), none⟩, ⟨none, .bin .add (.tmp 0) (.cst (.int .i64 1)), none⟩, ⟨some 10, .mv (.tmp 1), none⟩]))
def mf9 : MFun := ⟨4, 16, .seq (.region [⟨some 4, .mv (.cst (.bool false)), none⟩]) (.seq (.region [⟨none, .call (.fn 11) [], none⟩, ⟨some 5, .mv (.tmp 0), none⟩]) (.seq (.region [⟨none, .mv (.var 0), none⟩, ⟨none, .call (.fn 13) [.tmp 0], none⟩, ⟨some 6, .mv (.tmp 1), none⟩]) (.seq (.region [⟨none, .mv (.var 1), none⟩, ⟨none, .call (.fn 14) [.tmp 0], none⟩, ⟨some 7, .mv (.tmp 1), none⟩]) (.seq (.region [⟨none, .mv (.var 2), none⟩, ⟨none, .mv (.var 6), none⟩, ⟨none, .lenSl (.tmp 1), none⟩, ⟨none, .call (.fn 24) [.tmp 0, .tmp 2], none⟩, ⟨some 8, .mv (.tmp 3), none⟩]) (.seq (.region [⟨some 9, .mv (.cst (.bool true)), none⟩]) (.seq (.seq (.region [⟨some 10, .mv (.cst (.int .i64 0)), none⟩]) (.seq (.block 0 (.loop [0, 1, 2, 4, 11, 12, 13, 14, 15] lp9x0)) (.kill [0, 1, 2, 4, 10, 11, 12, 13, 14, 15]))) (.seq (.seq (.region [⟨none, .mv (.var 7), none⟩, ⟨none, .mv (.var 6), none⟩, ⟨none, .mv (.var 8), none⟩, ⟨none, .call (.fn 20) [.tmp 0, .tmp 1, .tmp 2], none⟩, ⟨none, .mv (.var 9), none⟩, ⟨some 14, .eqBool true (.tmp 3) (.tmp 4), none⟩]) (.cond (.var 14) (.seq (.region [⟨some 4, .mv (.cst (.bool false)), none⟩]) .ret) .skip)) (.seq (.seq (.region [⟨none, .mv (.var 3), none⟩, ⟨none, .bin .geq (.tmp 0) (.cst (.int .i64 0)), none⟩, ⟨none, .mv (.tmp 1), none⟩, ⟨none, .mv (.var 3), some (.tmp 2, true)⟩, ⟨none, .mv (.var 6), some (.tmp 2, true)⟩, ⟨none, .lenSl (.tmp 4), some (.tmp 2, true)⟩, ⟨none, .bin .lss (.tmp 3) (.tmp 5), some (.tmp 2, true)⟩, ⟨some 15, .pick (.tmp 2) (.tmp 6) (.cst (.bool false)), none⟩]) (.cond (.var 15) (.region [⟨none, .mv (.var 6), none⟩, ⟨none, .lenSl (.tmp 0), none⟩, ⟨some 3, .mv (.tmp 1), none⟩]) .skip)) (.seq (.region [⟨none, .mv (.var 7), none⟩, ⟨none, .mv (.var 6), none⟩, ⟨none, .buildSlice 1 [], none⟩, ⟨none, .mv (.var 8), none⟩, ⟨none, .append 1 8 (.tmp 2) (.tmp 3), none⟩, ⟨none, .mv (.var 3), none⟩, ⟨none, .buildF 1 [.tmp 5], none⟩, ⟨none, .append 1 8 (.tmp 4) (.tmp 6), none⟩, ⟨none, .call (.fn 20) [.tmp 0, .tmp 1, .tmp 7], none⟩, ⟨some 11, .mv (.tmp 8), none⟩]) (.seq (.regionD [20] [⟨none, .mv (.var 8), none⟩, ⟨none, .lenSl (.tmp 0), none⟩, ⟨none, .bin .gtr (.tmp 1) (.cst (.int .i64 0)), none⟩, ⟨none, .mv (.tmp 2), none⟩, ⟨none, .mv (.var 7), some (.tmp 3, true)⟩, ⟨none, .mv (.var 6), some (.tmp 3, true)⟩, ⟨none, .buildSlice 1 [], some (.tmp 3, true)⟩, ⟨none, .mv (.var 8), some (.tmp 3, true)⟩, ⟨none, .append 1 8 (.tmp 6) (.tmp 7), some (.tmp 3, true)⟩, ⟨none, .mv (.var 8), some (.tmp 3, true)⟩, ⟨none, .indexSl 1 (.tmp 9) (.cst (.int .i64 0)), some (.tmp 3, true)⟩, ⟨none, .load false 1 (.tmp 10), some (.tmp 3, true)⟩, ⟨none, .buildF 1 [.tmp 11], some (.tmp 3, true)⟩, ⟨none, .append 1 8 (.tmp 8) (.tmp 12), some (.tmp 3, true)⟩, ⟨none, .call (.fn 20) [.tmp 4, .tmp 5, .tmp 13], some (.tmp 3, true)⟩, ⟨none, .pick (.tmp 3) (.tmp 14) (.cst (.bool false)), none⟩, ⟨some 12, .mv (.tmp 15), none⟩] [(6, 10), (8, 10), (6, 11), (8, 11)]) (.seq (.region [⟨none, .mv (.var 5), none⟩, ⟨none, .mv (.tmp 0), none⟩, ⟨none, .mv (.var 11), some (.tmp 1, true)⟩, ⟨none, .un .not (.tmp 2), some (.tmp 1, true)⟩, ⟨none, .pick (.tmp 1) (.tmp 3) (.cst (.bool false)), none⟩, ⟨none, .mv (.tmp 4), none⟩, ⟨none, .mv (.var 12), some (.tmp 5, true)⟩, ⟨none, .un .not (.tmp 6), some (.tmp 5, true)⟩, ⟨none, .pick (.tmp 5) (.tmp 7) (.cst (.bool false)), none⟩, ⟨some 4, .mv (.tmp 8), none⟩]) .ret))))))))))), [.tmp 4]⟩
def mask9x0 : List Nat := [0, 1, 2, 4, 11, 12, 13, 14, 15]
abbrev st9x0 (v3 v5 v6 v7 v8 v9 v10 : AV) : List AV := [.undef, .undef, .undef, v3, .undef, v5, v6, v7, v8, v9, v10, .undef, .undef, .undef, .undef, .undef]
theorem cl9x0 {d0 d1 d2 v3 d4 v5 v6 v7 v8 v9 v10 d11 d12 d13 d14 d15 : AV} : clear mask9x0 [d0, d1, d2, v3, d4, v5, v6, v7, v8, v9, v10, d11, d12, d13, d14, d15] = st9x0 v3 v5 v6 v7 v8 v9 v10 := by simp only [mask9x0, clear, List.foldl_cons, List.foldl_nil, List.set_cons_zero, List.set_cons_succ]
theorem go9x0 {E : Env} {fuel : Nat} {A : Arena} {o : Out} {k : List KC} {d0 d1 d2 v3 d4 v5 v6 v7 v8 v9 v10 d11 d12 d13 d14 d15 : AV} (h : iter (evC E fuel lp9x0) mask9x0 fuel (st9x0 v3 v5 v6 v7 v8 v9 v10) A = some o) :
    run E fuel (.code (.loop [0, 1, 2, 4, 11, 12, 13, 14, 15] lp9x0) :: k) [d0, d1, d2, v3, d4, v5, v6, v7, v8, v9, v10, d11, d12, d13, d14, d15] A = after E fuel k o := run_loopC mask9x0 _ _ (by rw [cl9x0]; exact h)
set_option maxHeartbeats 4000000 in
theorem comp9 : compFun Tryd.prog Tryd.f9 4 [0, 1, 2, 3, 8, 9, 10, 11, 12, 13, 14, 15, 16, 29, 48, 56] [20] true ([[0, 1, 2, 4, 11, 12, 13, 14, 15]], [[0, 1, 2, 4, 11, 12, 13, 14, 15], [0, 1, 2, 4, 10, 11, 12, 13, 14, 15]]) = some mf9 := by kernel_rfl
theorem at9 : Tryd.prog.funcs[9]? = some Tryd.f9 := by kernel_rfl
def lp10x0 : MC := .seq (.seq (.region [⟨none, .mv (.var 5), none⟩, ⟨none, .lenSl (.tmp 0), none⟩, ⟨some 11, .bin .leq (.tmp 1) (.cst (.int .i64 16)), none⟩]) (.cond (.var 11) .skip (.exit 1))) (.seq (.block 2 (.region [⟨none, .mv (.var 5), none⟩, ⟨none, .buildSlice 1 [.cst (.int .i64 3)], none⟩, ⟨none, .build [.nilS] [(0, (1, .tmp 1))], none⟩, ⟨none, .buildF 1 [.tmp 2], none⟩, ⟨none, .append 1 24 (.tmp 0) (.tmp 3), none⟩, ⟨some 5, .mv (.tmp 4), none⟩])) (.kill [0, 1, 3, 7, 8, 9, 10, 11, 12, 13, 14]))
def mf10 : MFun := ⟨3, 15, .seq (.region [⟨some 3, .mv (.cst (.bool false)), none⟩]) (.seq (.region [⟨none, .call (.fn 11) [], none⟩, ⟨some 4, .mv (.tmp 0), none⟩]) (.seq (.region [⟨none, .mv (.var 0), none⟩, ⟨none, .call (.fn 13) [.tmp 0], none⟩, ⟨some 5, .mv (.tmp 1), none⟩]) (.seq (.region [⟨none, .buildSlice 1 [.cst (.int .i64 3), .cst (.int .i64 7)], none⟩, ⟨some 6, .mv (.tmp 0), none⟩]) (.seq (.seq (.region [⟨none, .mv (.var 1), none⟩, ⟨none, .bin .geq (.tmp 0) (.cst (.int .i64 1)), none⟩, ⟨none, .mv (.tmp 1), none⟩, ⟨none, .mv (.var 1), some (.tmp 2, true)⟩, ⟨none, .bin .leq (.tmp 3) (.cst (.int .i64 1000000)), some (.tmp 2, true)⟩, ⟨some 9, .pick (.tmp 2) (.tmp 4) (.cst (.bool false)), none⟩]) (.cond (.var 9) (.region [⟨some 1, .mv (.cst (.int .i64 0)), none⟩]) .skip)) (.seq (.seq (.region [⟨none, .mv (.var 2), none⟩, ⟨some 10, .call (.fn 25) [.tmp 0, .cst (.int .i64 4)], none⟩]) (.seq (.block 0 (.seq (.region [⟨none, .bin .eql (.var 10) (.cst (.int .i64 0)), none⟩, ⟨some 12, .mv (.tmp 0), none⟩]) (.cond (.var 12) (.region [⟨none, .mv (.var 1), none⟩, ⟨none, .buildSlice 1 [.tmp 0], none⟩, ⟨some 6, .mv (.tmp 1), none⟩]) (.seq (.region [⟨none, .bin .eql (.var 10) (.cst (.int .i64 1)), none⟩, ⟨some 13, .mv (.tmp 0), none⟩]) (.cond (.var 13) (.region [⟨none, .buildSlice 1 [.cst (.int .i64 3), .cst (.int .i64 3)], none⟩, ⟨some 6, .mv (.tmp 0), none⟩]) (.seq (.region [⟨none, .bin .eql (.var 10) (.cst (.int .i64 2)), none⟩, ⟨some 14, .mv (.tmp 0), none⟩]) (.cond (.var 14) (.region [⟨none, .mv (.var 5), none⟩, ⟨none, .mv (.var 1), none⟩, ⟨none, .buildSlice 1 [.tmp 1], none⟩, ⟨none, .build [.nilS] [(0, (1, .tmp 2))], none⟩, ⟨none, .buildF 1 [.tmp 3], none⟩, ⟨none, .append 1 24 (.tmp 0) (.tmp 4), none⟩, ⟨some 5, .mv (.tmp 5), none⟩]) (.seq (.block 1 (.loop [0, 1, 3, 7, 8, 9, 10, 11, 12, 13, 14] lp10x0)) (.kill [0, 1, 3, 7, 8, 9, 10, 11, 12, 13, 14]))))))))) (.kill [0, 1, 3, 7, 8, 9, 10, 11, 12, 13, 14]))) (.seq (.region [⟨none, .mv (.var 6), none⟩, ⟨none, .mv (.var 5), none⟩, ⟨none, .call (.fn 15) [.tmp 0, .tmp 1], none⟩, ⟨none, .mv (.tmp 2), none⟩, ⟨none, .extract (.tmp 3) 0, none⟩, ⟨none, .extract (.tmp 3) 1, none⟩, ⟨some 7, .mv (.tmp 4), none⟩, ⟨some 8, .mv (.tmp 5), none⟩]) (.seq (.region [⟨none, .mv (.var 4), none⟩, ⟨none, .mv (.tmp 0), none⟩, ⟨none, .mv (.var 8), some (.tmp 1, true)⟩, ⟨none, .un .not (.tmp 2), some (.tmp 1, true)⟩, ⟨none, .pick (.tmp 1) (.tmp 3) (.cst (.bool false)), none⟩, ⟨none, .mv (.tmp 4), none⟩, ⟨none, .mv (.var 7), some (.tmp 5, true)⟩, ⟨none, .lenSl (.tmp 6), some (.tmp 5, true)⟩, ⟨none, .bin .eql (.tmp 7) (.cst (.int .i64 0)), some (.tmp 5, true)⟩, ⟨none, .pick (.tmp 5) (.tmp 8) (.cst (.bool false)), none⟩, ⟨none, .mv (.tmp 9), none⟩, ⟨none, .mv (.var 6), some (.tmp 10, true)⟩, ⟨none, .mv (.var 5), some (.tmp 10, true)⟩, ⟨none, .call (.fn 20) [.tmp 11, .tmp 12, .cst .nilS], some (.tmp 10, true)⟩, ⟨none, .un .not (.tmp 13), some (.tmp 10, true)⟩, ⟨none, .pick (.tmp 10) (.tmp 14) (.cst (.bool false)), none⟩, ⟨none, .mv (.tmp 15), none⟩, ⟨none, .mv (.var 6), some (.tmp 16, true)⟩, ⟨none, .mv (.var 5), some (.tmp 16, true)⟩, ⟨none, .call (.fn 22) [.tmp 17, .tmp 18], some (.tmp 16, true)⟩, ⟨none, .lenSl (.tmp 19), some (.tmp 16, true)⟩, ⟨none, .bin .eql (.tmp 20) (.cst (.int .i64 0)), some (.tmp 16, true)⟩, ⟨none, .pick (.tmp 16) (.tmp 21) (.cst (.bool false)), none⟩, ⟨none, .mv (.tmp 22), none⟩, ⟨none, .mv (.var 5), some (.tmp 23, true)⟩, ⟨none, .call (.fn 17) [.tmp 24], some (.tmp 23, true)⟩, ⟨none, .mv (.var 2), some (.tmp 23, true)⟩, ⟨none, .call (.fn 25) [.tmp 26, .cst (.int .i64 4)], some (.tmp 23, true)⟩, ⟨none, .bin .lss (.tmp 27) (.cst (.int .i64 2)), some (.tmp 23, true)⟩, ⟨none, .eqBool false (.tmp 25) (.tmp 28), some (.tmp 23, true)⟩, ⟨none, .pick (.tmp 23) (.tmp 29) (.cst (.bool false)), none⟩, ⟨some 3, .mv (.tmp 30), none⟩]) .ret))))))), [.tmp 3]⟩
def mask10x0 : List Nat := [0, 1, 3, 7, 8, 9, 10, 11, 12, 13, 14]
abbrev st10x0 (v2 v4 v5 v6 : AV) : List AV := [.undef, .undef, v2, .undef, v4, v5, v6, .undef, .undef, .undef, .undef, .undef, .undef, .undef, .undef]
theorem cl10x0 {d0 d1 v2 d3 v4 v5 v6 d7 d8 d9 d10 d11 d12 d13 d14 : AV} : clear mask10x0 [d0, d1, v2, d3, v4, v5, v6, d7, d8, d9, d10, d11, d12, d13, d14] = st10x0 v2 v4 v5 v6 := by simp only [mask10x0, clear, List.foldl_cons, List.foldl_nil, List.set_cons_zero, List.set_cons_succ]
theorem go10x0 {E : Env} {fuel : Nat} {A : Arena} {o : Out} {k : List KC} {d0 d1 v2 d3 v4 v5 v6 d7 d8 d9 d10 d11 d12 d13 d14 : AV} (h : iter (evC E fuel lp10x0) mask10x0 fuel (st10x0 v2 v4 v5 v6) A = some o) :
    run E fuel (.code (.loop [0, 1, 3, 7, 8, 9, 10, 11, 12, 13, 14] lp10x0) :: k) [d0, d1, v2, d3, v4, v5, v6, d7, d8, d9, d10, d11, d12, d13, d14] A = after E fuel k o := run_loopC mask10x0 _ _ (by rw [cl10x0]; exact h)
set_option maxHeartbeats 4000000 in
theorem comp10 : compFun Tryd.prog Tryd.f10 3 [0, 1, 2, 6, 7, 8, 9, 10, 11, 21, 23, 26, 32, 36, 39] [] true ([[0, 1, 3, 7, 8, 9, 10, 11, 12, 13, 14]], [[0, 1, 3, 7, 8, 9, 10, 11, 12, 13, 14], [0, 1, 3, 7, 8, 9, 10, 11, 12, 13, 14], [0, 1, 3, 7, 8, 9, 10, 11, 12, 13, 14]]) = some mf10 := by kernel_rfl
theorem at10 : Tryd.prog.funcs[10]? = some Tryd.f10 := by kernel_rfl
def mf11 : MFun := ⟨0, 11, .seq (.region [⟨some 0, .mv (.cst (.bool false)), none⟩]) (.seq (.region [⟨none, .buildSlice 1 [.cst (.int .i64 1), .cst (.int .i64 2)], none⟩, ⟨none, .build [.nilS] [(0, (1, .tmp 0))], none⟩, ⟨none, .buildSlice 1 [.cst (.int .i64 2), .cst (.int .i64 3)], none⟩, ⟨none, .build [.nilS] [(0, (1, .tmp 2))], none⟩, ⟨none, .buildSlice 1 [.cst (.int .i64 3), .cst (.int .i64 4)], none⟩, ⟨none, .build [.nilS] [(0, (1, .tmp 4))], none⟩, ⟨none, .buildSlice 1 [.cst (.int .i64 1), .cst (.int .i64 4)], none⟩, ⟨none, .build [.nilS] [(0, (1, .tmp 6))], none⟩, ⟨none, .buildSlice 1 [.tmp 1, .tmp 3, .tmp 5, .tmp 7], none⟩, ⟨some 1, .mv (.tmp 8), none⟩]) (.seq (.region [⟨none, .buildSlice 1 [.cst (.int .i64 1), .cst (.int .i64 2), .cst (.int .i64 3), .cst (.int .i64 4)], none⟩, ⟨some 2, .mv (.tmp 0), none⟩]) (.seq (.region [⟨none, .mv (.var 2), none⟩, ⟨none, .mv (.var 1), none⟩, ⟨none, .call (.fn 15) [.tmp 0, .tmp 1], none⟩, ⟨none, .mv (.tmp 2), none⟩, ⟨none, .extract (.tmp 3) 0, none⟩, ⟨none, .extract (.tmp 3) 1, none⟩, ⟨some 3, .mv (.tmp 4), none⟩, ⟨some 4, .mv (.tmp 5), none⟩]) (.seq (.region [⟨none, .buildF 1 [.cst (.int .i64 2)], none⟩, ⟨none, .mv (.var 1), none⟩, ⟨none, .call (.fn 15) [.tmp 0, .tmp 1], none⟩, ⟨none, .mv (.tmp 2), none⟩, ⟨none, .extract (.tmp 3) 0, none⟩, ⟨none, .extract (.tmp 3) 1, none⟩, ⟨some 5, .mv (.tmp 4), none⟩, ⟨some 6, .mv (.tmp 5), none⟩]) (.seq (.region [⟨none, .mv (.var 1), none⟩, ⟨none, .call (.fn 15) [.cst .nilS, .tmp 0], none⟩, ⟨none, .mv (.tmp 1), none⟩, ⟨none, .extract (.tmp 2) 0, none⟩, ⟨none, .extract (.tmp 2) 1, none⟩, ⟨some 7, .mv (.tmp 3), none⟩, ⟨some 8, .mv (.tmp 4), none⟩]) (.seq (.region [⟨none, .buildF 1 [.cst (.int .i64 5)], none⟩, ⟨none, .mv (.var 1), none⟩, ⟨none, .call (.fn 15) [.tmp 0, .tmp 1], none⟩, ⟨none, .mv (.tmp 2), none⟩, ⟨none, .extract (.tmp 3) 0, none⟩, ⟨none, .extract (.tmp 3) 1, none⟩, ⟨none, .mv (.tmp 4), none⟩, ⟨some 9, .mv (.tmp 5), none⟩]) (.seq (.region [⟨none, .mv (.var 4), none⟩, ⟨none, .mv (.tmp 0), none⟩, ⟨none, .mv (.var 6), some (.tmp 1, true)⟩, ⟨none, .pick (.tmp 1) (.tmp 2) (.cst (.bool false)), none⟩, ⟨none, .mv (.tmp 3), none⟩, ⟨none, .mv (.var 8), some (.tmp 4, true)⟩, ⟨none, .pick (.tmp 4) (.tmp 5) (.cst (.bool false)), none⟩, ⟨none, .mv (.tmp 6), none⟩, ⟨none, .mv (.var 9), some (.tmp 7, true)⟩, ⟨none, .un .not (.tmp 8), some (.tmp 7, true)⟩, ⟨none, .pick (.tmp 7) (.tmp 9) (.cst (.bool false)), none⟩, ⟨none, .mv (.tmp 10), none⟩, ⟨none, .mv (.var 3), some (.tmp 11, true)⟩, ⟨none, .buildF 1 [.cst (.int .i64 0), .cst (.int .i64 2)], some (.tmp 11, true)⟩, ⟨none, .call (.fn 19) [.tmp 12, .tmp 13], some (.tmp 11, true)⟩, ⟨none, .pick (.tmp 11) (.tmp 14) (.cst (.bool false)), none⟩, ⟨none, .mv (.tmp 15), none⟩, ⟨none, .mv (.var 5), some (.tmp 16, true)⟩, ⟨none, .buildF 1 [.cst (.int .i64 0)], some (.tmp 16, true)⟩, ⟨none, .call (.fn 19) [.tmp 17, .tmp 18], some (.tmp 16, true)⟩, ⟨none, .pick (.tmp 16) (.tmp 19) (.cst (.bool false)), none⟩, ⟨none, .mv (.tmp 20), none⟩, ⟨none, .mv (.var 7), some (.tmp 21, true)⟩, ⟨none, .lenSl (.tmp 22), some (.tmp 21, true)⟩, ⟨none, .bin .eql (.tmp 23) (.cst (.int .i64 0)), some (.tmp 21, true)⟩, ⟨none, .pick (.tmp 21) (.tmp 24) (.cst (.bool false)), none⟩, ⟨some 10, .mv (.tmp 25), none⟩]) (.seq (.region [⟨none, .mv (.var 10), none⟩, ⟨none, .mv (.tmp 0), none⟩, ⟨none, .mv (.var 1), some (.tmp 1, true)⟩, ⟨none, .call (.fn 17) [.tmp 2], some (.tmp 1, true)⟩, ⟨none, .pick (.tmp 1) (.tmp 3) (.cst (.bool false)), none⟩, ⟨none, .mv (.tmp 4), none⟩, ⟨none, .buildF 1 [.cst (.int .i64 1), .cst (.int .i64 2)], some (.tmp 5, true)⟩, ⟨none, .mv (.var 1), some (.tmp 5, true)⟩, ⟨none, .buildF 1 [.cst (.int .i64 0)], some (.tmp 5, true)⟩, ⟨none, .call (.fn 20) [.tmp 6, .tmp 7, .tmp 8], some (.tmp 5, true)⟩, ⟨none, .pick (.tmp 5) (.tmp 9) (.cst (.bool false)), none⟩, ⟨none, .mv (.tmp 10), none⟩, ⟨none, .buildF 1 [.cst (.int .i64 1), .cst (.int .i64 2)], some (.tmp 11, true)⟩, ⟨none, .mv (.var 1), some (.tmp 11, true)⟩, ⟨none, .buildF 1 [.cst (.int .i64 1)], some (.tmp 11, true)⟩, ⟨none, .call (.fn 20) [.tmp 12, .tmp 13, .tmp 14], some (.tmp 11, true)⟩, ⟨none, .un .not (.tmp 15), some (.tmp 11, true)⟩, ⟨none, .pick (.tmp 11) (.tmp 16) (.cst (.bool false)), none⟩, ⟨none, .mv (.tmp 17), none⟩, ⟨none, .buildF 1 [.cst (.int .i64 1), .cst (.int .i64 2)], some (.tmp 18, true)⟩, ⟨none, .mv (.var 1), some (.tmp 18, true)⟩, ⟨none, .buildF 1 [.cst (.int .i64 0), .cst (.int .i64 0)], some (.tmp 18, true)⟩, ⟨none, .call (.fn 20) [.tmp 19, .tmp 20, .tmp 21], some (.tmp 18, true)⟩, ⟨none, .un .not (.tmp 22), some (.tmp 18, true)⟩, ⟨none, .pick (.tmp 18) (.tmp 23) (.cst (.bool false)), none⟩, ⟨none, .mv (.tmp 24), none⟩, ⟨none, .mv (.var 2), some (.tmp 25, true)⟩, ⟨none, .mv (.var 1), some (.tmp 25, true)⟩, ⟨none, .call (.fn 22) [.tmp 26, .tmp 27], some (.tmp 25, true)⟩, ⟨none, .buildF 1 [.cst (.int .i64 1), .cst (.int .i64 3)], some (.tmp 25, true)⟩, ⟨none, .call (.fn 19) [.tmp 28, .tmp 29], some (.tmp 25, true)⟩, ⟨none, .pick (.tmp 25) (.tmp 30) (.cst (.bool false)), none⟩, ⟨none, .mv (.tmp 31), none⟩, ⟨none, .buildF 1 [.cst (.int .i64 5), .cst (.int .i64 6)], some (.tmp 32, true)⟩, ⟨none, .mv (.var 1), some (.tmp 32, true)⟩, ⟨none, .call (.fn 22) [.tmp 33, .tmp 34], some (.tmp 32, true)⟩, ⟨none, .lenSl (.tmp 35), some (.tmp 32, true)⟩, ⟨none, .bin .eql (.tmp 36) (.cst (.int .i64 0)), some (.tmp 32, true)⟩, ⟨none, .pick (.tmp 32) (.tmp 37) (.cst (.bool false)), none⟩, ⟨some 0, .mv (.tmp 38), none⟩]) .ret)))))))), [.tmp 0]⟩
set_option maxHeartbeats 4000000 in
theorem comp11 : compFun Tryd.prog Tryd.f11 0 [0, 1, 2, 3, 4, 5, 6, 7, 8, 10, 11] [] true ([], []) = some mf11 := by kernel_rfl
theorem at11 : Tryd.prog.funcs[11]? = some Tryd.f11 := by kernel_rfl
def lp12x0 : MC := .seq (.seq (.region [⟨none, .mv (.var 3), none⟩, ⟨none, .mv (.var 0), none⟩, ⟨none, .lenSl (.tmp 1), none⟩, ⟨none, .bin .lss (.tmp 0) (.tmp 2), none⟩, ⟨none, .mv (.tmp 3), none⟩, ⟨none, .mv (.var 3), some (.tmp 4, true)⟩, ⟨none, .bin .lss (.tmp 5) (.cst (.int .i64 11)), some (.tmp 4, true)⟩, ⟨some 4, .pick (.tmp 4) (.tmp 6) (.cst (.bool false)), none⟩]) (.cond (.var 4) .skip (.exit 0))) (.seq (.seq (.block 1 (.region [⟨none, .mv (.var 2), none⟩, ⟨none, .mv (.var 0), none⟩, ⟨none, .mv (.var 3), none⟩, ⟨none, .indexSl 1 (.tmp 1) (.tmp 2), none⟩, ⟨none, .fieldAddr 0 (.tmp 3), none⟩, ⟨none, .load false 1 (.tmp 4), none⟩, ⟨none, .mv (.var 0), none⟩, ⟨none, .mv (.var 3), none⟩, ⟨none, .indexSl 1 (.tmp 6) (.tmp 7), none⟩, ⟨none, .fieldAddr 0 (.tmp 8), none⟩, ⟨none, .load false 1 (.tmp 9), none⟩, ⟨none, .lenSl (.tmp 10), none⟩, ⟨none, .minmax false (.tmp 11) [.cst (.int .i64 20)], none⟩, ⟨none, .sliceSl 1 (.tmp 5) none (some (.tmp 12)), none⟩, ⟨none, .build [.nilS] [(0, (1, .tmp 13))], none⟩, ⟨none, .buildF 1 [.tmp 14], none⟩, ⟨none, .append 1 24 (.tmp 0) (.tmp 15), none⟩, ⟨some 2, .mv (.tmp 16), none⟩])) (.kill [1, 4])) (.region [⟨none, .mv (.var 3), none⟩, ⟨none, .bin .add (.tmp 0) (.cst (.int .i64 1)), none⟩, ⟨some 3, .mv (.tmp 1), none⟩]))
def mf12 : MFun := ⟨1, 5, .seq (.region [⟨some 1, .mv (.cst .nilS), none⟩]) (.seq (.region [⟨some 2, .mv (.cst .nilS), none⟩]) (.seq (.seq (.region [⟨some 3, .mv (.cst (.int .i64 0)), none⟩]) (.seq (.block 0 (.loop [1, 4] lp12x0)) (.kill [0, 1, 3, 4]))) (.seq (.region [⟨none, .mv (.var 2), none⟩, ⟨some 1, .mv (.tmp 0), none⟩]) .ret))), [.tmp 1]⟩
def mask12x0 : List Nat := [1, 4]
abbrev st12x0 (v0 v2 v3 : AV) : List AV := [v0, .undef, v2, v3, .undef]
theorem cl12x0 {v0 d1 v2 v3 d4 : AV} : clear mask12x0 [v0, d1, v2, v3, d4] = st12x0 v0 v2 v3 := by simp only [mask12x0, clear, List.foldl_cons, List.foldl_nil, List.set_cons_zero, List.set_cons_succ]
theorem go12x0 {E : Env} {fuel : Nat} {A : Arena} {o : Out} {k : List KC} {v0 d1 v2 v3 d4 : AV} (h : iter (evC E fuel lp12x0) mask12x0 fuel (st12x0 v0 v2 v3) A = some o) :
    run E fuel (.code (.loop [1, 4] lp12x0) :: k) [v0, d1, v2, v3, d4] A = after E fuel k o := run_loopC mask12x0 _ _ (by rw [cl12x0]; exact h)
set_option maxHeartbeats 4000000 in
theorem comp12 : compFun Tryd.prog Tryd.f12 1 [0, 2, 3, 4, 12] [] true ([[1, 4]], [[1, 4], [0, 1, 3, 4]]) = some mf12 := by kernel_rfl
theorem at12 : Tryd.prog.funcs[12]? = some Tryd.f12 := by kernel_rfl
def lp13x0 : MC := .seq (.seq (.region [⟨none, .mv (.var 3), none⟩, ⟨none, .mv (.var 0), none⟩, ⟨none, .lenSl (.tmp 1), none⟩, ⟨none, .bin .lss (.tmp 0) (.tmp 2), none⟩, ⟨none, .mv (.tmp 3), none⟩, ⟨none, .mv (.var 3), some (.tmp 4, true)⟩, ⟨none, .bin .lss (.tmp 5) (.cst (.int .i64 10)), some (.tmp 4, true)⟩, ⟨some 4, .pick (.tmp 4) (.tmp 6) (.cst (.bool false)), none⟩]) (.cond (.var 4) .skip (.exit 0))) (.seq (.seq (.block 1 (.region [⟨none, .mv (.var 2), none⟩, ⟨none, .mv (.var 0), none⟩, ⟨none, .mv (.var 3), none⟩, ⟨none, .indexSl 1 (.tmp 1) (.tmp 2), none⟩, ⟨none, .load false 1 (.tmp 3), none⟩, ⟨none, .call (.fn 14) [.tmp 4], none⟩, ⟨none, .build [.nilS] [(0, (1, .tmp 5))], none⟩, ⟨none, .buildF 1 [.tmp 6], none⟩, ⟨none, .append 1 24 (.tmp 0) (.tmp 7), none⟩, ⟨some 2, .mv (.tmp 8), none⟩])) (.kill [1, 4])) (.region [⟨none, .mv (.var 3), none⟩, ⟨none, .bin .add (.tmp 0) (.cst (.int .i64 1)), none⟩, ⟨some 3, .mv (.tmp 1), none⟩]))
def mf13 : MFun := ⟨1, 5, .seq (.region [⟨some 1, .mv (.cst .nilS), none⟩]) (.seq (.region [⟨some 2, .mv (.cst .nilS), none⟩]) (.seq (.seq (.region [⟨some 3, .mv (.cst (.int .i64 0)), none⟩]) (.seq (.block 0 (.loop [1, 4] lp13x0)) (.kill [0, 1, 3, 4]))) (.seq (.region [⟨none, .mv (.var 2), none⟩, ⟨some 1, .mv (.tmp 0), none⟩]) .ret))), [.tmp 1]⟩
def mask13x0 : List Nat := [1, 4]
abbrev st13x0 (v0 v2 v3 : AV) : List AV := [v0, .undef, v2, v3, .undef]
theorem cl13x0 {v0 d1 v2 v3 d4 : AV} : clear mask13x0 [v0, d1, v2, v3, d4] = st13x0 v0 v2 v3 := by simp only [mask13x0, clear, List.foldl_cons, List.foldl_nil, List.set_cons_zero, List.set_cons_succ]
theorem go13x0 {E : Env} {fuel : Nat} {A : Arena} {o : Out} {k : List KC} {v0 d1 v2 v3 d4 : AV} (h : iter (evC E fuel lp13x0) mask13x0 fuel (st13x0 v0 v2 v3) A = some o) :
    run E fuel (.code (.loop [1, 4] lp13x0) :: k) [v0, d1, v2, v3, d4] A = after E fuel k o := run_loopC mask13x0 _ _ (by rw [cl13x0]; exact h)
set_option maxHeartbeats 4000000 in
theorem comp13 : compFun Tryd.prog Tryd.f13 1 [0, 2, 3, 4, 12] [] true ([[1, 4]], [[1, 4], [0, 1, 3, 4]]) = some mf13 := by kernel_rfl
theorem at13 : Tryd.prog.funcs[13]? = some Tryd.f13 := by kernel_rfl
def lp14x0 : MC := .seq (.seq (.region [⟨none, .mv (.var 3), none⟩, ⟨some 4, .bin .lss (.tmp 0) (.cst (.int .i64 12)), none⟩]) (.cond (.var 4) .skip (.exit 0))) (.seq (.seq (.block 1 (.seq (.region [⟨none, .mv (.var 0), none⟩, ⟨none, .mv (.var 3), none⟩, ⟨none, .bin .shr (.tmp 0) (.tmp 1), none⟩, ⟨none, .bin .rem (.tmp 2) (.cst (.int .i64 2)), none⟩, ⟨some 5, .bin .eql (.tmp 3) (.cst (.int .i64 1)), none⟩]) (.cond (.var 5) (.region [⟨none, .mv (.var 2), none⟩, ⟨none, .mv (.var 3), none⟩, ⟨none, .bin .add (.cst (.int .i64 1)) (.tmp 1), none⟩, ⟨none, .buildF 1 [.tmp 2], none⟩, ⟨none, .append 1 8 (.tmp 0) (.tmp 3), none⟩, ⟨some 2, .mv (.tmp 4), none⟩]) .skip))) (.kill [1, 4, 5])) (.region [⟨none, .mv (.var 3), none⟩, ⟨none, .bin .add (.tmp 0) (.cst (.int .i64 1)), none⟩, ⟨some 3, .mv (.tmp 1), none⟩]))
def mf14 : MFun := ⟨1, 6, .seq (.region [⟨some 1, .mv (.cst .nilS), none⟩]) (.seq (.region [⟨none, .mv (.var 0), none⟩, ⟨none, .call (.fn 26) [.tmp 0, .cst (.int .i64 4096)], none⟩, ⟨some 0, .mv (.tmp 1), none⟩]) (.seq (.region [⟨some 2, .mv (.cst .nilS), none⟩]) (.seq (.seq (.region [⟨some 3, .mv (.cst (.int .i64 0)), none⟩]) (.seq (.block 0 (.loop [1, 4, 5] lp14x0)) (.kill [0, 1, 3, 4, 5]))) (.seq (.region [⟨none, .mv (.var 2), none⟩, ⟨some 1, .mv (.tmp 0), none⟩]) .ret)))), [.tmp 1]⟩
def mask14x0 : List Nat := [1, 4, 5]
abbrev st14x0 (v0 v2 v3 : AV) : List AV := [v0, .undef, v2, v3, .undef, .undef]
theorem cl14x0 {v0 d1 v2 v3 d4 d5 : AV} : clear mask14x0 [v0, d1, v2, v3, d4, d5] = st14x0 v0 v2 v3 := by simp only [mask14x0, clear, List.foldl_cons, List.foldl_nil, List.set_cons_zero, List.set_cons_succ]
theorem go14x0 {E : Env} {fuel : Nat} {A : Arena} {o : Out} {k : List KC} {v0 d1 v2 v3 d4 d5 : AV} (h : iter (evC E fuel lp14x0) mask14x0 fuel (st14x0 v0 v2 v3) A = some o) :
    run E fuel (.code (.loop [1, 4, 5] lp14x0) :: k) [v0, d1, v2, v3, d4, d5] A = after E fuel k o := run_loopC mask14x0 _ _ (by rw [cl14x0]; exact h)
set_option maxHeartbeats 4000000 in
theorem comp14 : compFun Tryd.prog Tryd.f14 1 [0, 2, 3, 4, 8, 15] [] true ([[1, 4, 5]], [[1, 4, 5], [0, 1, 3, 4, 5]]) = some mf14 := by kernel_rfl
theorem at14 : Tryd.prog.funcs[14]? = some Tryd.f14 := by kernel_rfl
def lp15x0 : MC := .seq (.seq (.region [⟨none, .mv (.var 7), none⟩, ⟨some 16, .bin .neq (.tmp 0) (.cst (.int .u64 0)), none⟩]) (.cond (.var 16) .skip (.exit 4))) (.seq (.seq (.block 5 (.region [⟨none, .mv (.var 8), none⟩, ⟨none, .mv (.var 7), none⟩, ⟨none, .call (.fn 30) [.tmp 1], none⟩, ⟨none, .buildF 1 [.tmp 2], none⟩, ⟨none, .append 1 8 (.tmp 0) (.tmp 3), none⟩, ⟨some 8, .mv (.tmp 4), none⟩])) (.kill [0, 1, 4, 5, 6, 9, 10, 11, 12, 13, 14, 15, 16])) (.region [⟨none, .mv (.var 7), none⟩, ⟨none, .mv (.var 7), none⟩, ⟨none, .bin .sub (.tmp 1) (.cst (.int .u64 1)), none⟩, ⟨none, .bin .and (.tmp 0) (.tmp 2), none⟩, ⟨some 7, .mv (.tmp 3), none⟩]))
def lp15x1 : MC := .region [⟨some 7, .mv (.var 14), none⟩]
def lp15x2 : MC := .seq (.block 3 (.seq (.region [⟨none, .load false 1 (.var 4), none⟩, ⟨none, .mv (.var 7), none⟩, ⟨some 15, .call (.fn 29) [.tmp 0, .tmp 1], none⟩]) (.cond (.var 15) (.seq (.region [⟨none, .load false 1 (.var 6), none⟩, ⟨none, .makeSlice 1 8 (.int .i64 0) (.cst (.int .i64 0)) (.tmp 0), none⟩, ⟨some 8, .mv (.tmp 1), none⟩]) (.seq (.seq (.block 4 (.loop [0, 1, 4, 5, 6, 9, 10, 11, 12, 13, 14, 15, 16] lp15x0)) (.kill [0, 1, 4, 5, 6, 7, 9, 10, 11, 12, 13, 14, 15, 16])) (.seq (.region [⟨none, .mv (.var 8), none⟩, ⟨none, .store 1 (.var 2) (.tmp 0), none⟩, ⟨none, .store 1 (.var 3) (.cst (.bool true)), none⟩]) .ret))) .skip))) (.kill [0, 1, 2, 3, 4, 5, 6, 7, 8, 9, 10, 11, 12, 13, 14, 15, 16])
def lp15x3 : MC := .seq (.region [⟨some 12, .bin .lss (.var 11) (.var 10), none⟩]) (.seq (.cond (.var 12) .skip (.exit 0)) (.seq (.seq (.block 1 (.seq (.region [⟨none, .mv (.var 11), none⟩, ⟨some 6, .alloc 1 (.int .i64 0), none⟩, ⟨none, .store 1 (.var 6) (.tmp 0), none⟩]) (.seq (.region [⟨none, .mv (.var 1), none⟩, ⟨none, .lenSl (.tmp 0), none⟩, ⟨none, .load false 1 (.var 6), none⟩, ⟨some 13, .call (.fn 28) [.tmp 1, .tmp 2], none⟩]) (.seq (.block 2 (.rangeFunc (.var 13) [14] lp15x1 lp15x2)) (.kill [0, 5, 6, 7, 8, 9, 12, 13, 14, 15, 16]))))) (.kill [0, 5, 6, 7, 8, 9, 12, 13, 14, 15, 16])) (.region [⟨none, .bin .add (.var 11) (.cst (.int .i64 1)), none⟩, ⟨some 11, .mv (.tmp 0), none⟩])))
def mf15 : MFun := ⟨2, 17, .seq (.region [⟨some 2, .alloc 1 .nilS, none⟩, ⟨some 3, .alloc 1 (.bool false), none⟩]) (.seq (.region [⟨none, .mv (.var 0), none⟩, ⟨none, .mv (.var 1), none⟩, ⟨none, .call (.fn 27) [.tmp 0, .tmp 1], none⟩, ⟨none, .mv (.tmp 2), none⟩, ⟨none, .extract (.tmp 3) 0, none⟩, ⟨none, .extract (.tmp 3) 1, none⟩, ⟨some 4, .alloc 1 .nilM, none⟩, ⟨none, .store 1 (.var 4) (.tmp 4), none⟩, ⟨some 5, .mv (.tmp 5), none⟩]) (.seq (.seq (.region [⟨none, .mv (.var 5), none⟩, ⟨some 9, .un .not (.tmp 0), none⟩]) (.cond (.var 9) (.seq (.region [⟨none, .store 1 (.var 2) (.cst .nilS), none⟩, ⟨none, .store 1 (.var 3) (.cst (.bool false)), none⟩]) .ret) .skip)) (.seq (.seq (.region [⟨none, .mv (.var 1), none⟩, ⟨none, .lenSl (.tmp 0), none⟩, ⟨some 10, .bin .add (.tmp 1) (.cst (.int .i64 1)), none⟩, ⟨some 11, .mv (.cst (.int .i64 0)), none⟩]) (.seq (.block 0 (.loop [0, 5, 6, 7, 8, 9, 12, 13, 14, 15, 16] lp15x3)) (.kill [0, 1, 4, 5, 6, 7, 8, 9, 10, 11, 12, 13, 14, 15, 16]))) (.seq (.region [⟨none, .store 1 (.var 2) (.cst .nilS), none⟩, ⟨none, .store 1 (.var 3) (.cst (.bool false)), none⟩]) .ret)))), [.cell 2 false 1, .cell 3 false 1]⟩
def mask15x0 : List Nat := [0, 1, 4, 5, 6, 9, 10, 11, 12, 13, 14, 15, 16]
abbrev st15x0 (v2 v3 v7 v8 : AV) : List AV := [.undef, .undef, v2, v3, .undef, .undef, .undef, v7, v8, .undef, .undef, .undef, .undef, .undef, .undef, .undef, .undef]
theorem cl15x0 {d0 d1 v2 v3 d4 d5 d6 v7 v8 d9 d10 d11 d12 d13 d14 d15 d16 : AV} : clear mask15x0 [d0, d1, v2, v3, d4, d5, d6, v7, v8, d9, d10, d11, d12, d13, d14, d15, d16] = st15x0 v2 v3 v7 v8 := by simp only [mask15x0, clear, List.foldl_cons, List.foldl_nil, List.set_cons_zero, List.set_cons_succ]
theorem go15x0 {E : Env} {fuel : Nat} {A : Arena} {o : Out} {k : List KC} {d0 d1 v2 v3 d4 d5 d6 v7 v8 d9 d10 d11 d12 d13 d14 d15 d16 : AV} (h : iter (evC E fuel lp15x0) mask15x0 fuel (st15x0 v2 v3 v7 v8) A = some o) :
    run E fuel (.code (.loop [0, 1, 4, 5, 6, 9, 10, 11, 12, 13, 14, 15, 16] lp15x0) :: k) [d0, d1, v2, v3, d4, d5, d6, v7, v8, d9, d10, d11, d12, d13, d14, d15, d16] A = after E fuel k o := run_loopC mask15x0 _ _ (by rw [cl15x0]; exact h)
def mask15x3 : List Nat := [0, 5, 6, 7, 8, 9, 12, 13, 14, 15, 16]
abbrev st15x3 (v1 v2 v3 v4 v10 v11 : AV) : List AV := [.undef, v1, v2, v3, v4, .undef, .undef, .undef, .undef, .undef, v10, v11, .undef, .undef, .undef, .undef, .undef]
theorem cl15x3 {d0 v1 v2 v3 v4 d5 d6 d7 d8 d9 v10 v11 d12 d13 d14 d15 d16 : AV} : clear mask15x3 [d0, v1, v2, v3, v4, d5, d6, d7, d8, d9, v10, v11, d12, d13, d14, d15, d16] = st15x3 v1 v2 v3 v4 v10 v11 := by simp only [mask15x3, clear, List.foldl_cons, List.foldl_nil, List.set_cons_zero, List.set_cons_succ]
theorem go15x3 {E : Env} {fuel : Nat} {A : Arena} {o : Out} {k : List KC} {d0 v1 v2 v3 v4 d5 d6 d7 d8 d9 v10 v11 d12 d13 d14 d15 d16 : AV} (h : iter (evC E fuel lp15x3) mask15x3 fuel (st15x3 v1 v2 v3 v4 v10 v11) A = some o) :
    run E fuel (.code (.loop [0, 5, 6, 7, 8, 9, 12, 13, 14, 15, 16] lp15x3) :: k) [d0, v1, v2, v3, v4, d5, d6, d7, d8, d9, v10, v11, d12, d13, d14, d15, d16] A = after E fuel k o := run_loopC mask15x3 _ _ (by rw [cl15x3]; exact h)
set_option maxHeartbeats 4000000 in
theorem comp15 : compFun Tryd.prog Tryd.f15 2 [0, 1, 4, 5, 6, 7, 8, 9, 10, 18, 21, 22, 23, 28, 29, 32, 36] [] true ([[0, 5, 6, 7, 8, 9, 12, 13, 14, 15, 16], [0, 1, 4, 5, 6, 9, 10, 11, 12, 13, 14, 15, 16]], [[0, 1, 4, 5, 6, 9, 10, 11, 12, 13, 14, 15, 16], [0, 1, 4, 5, 6, 7, 9, 10, 11, 12, 13, 14, 15, 16], [0, 1, 2, 3, 4, 5, 6, 7, 8, 9, 10, 11, 12, 13, 14, 15, 16], [0, 5, 6, 7, 8, 9, 12, 13, 14, 15, 16], [0, 5, 6, 7, 8, 9, 12, 13, 14, 15, 16], [0, 1, 4, 5, 6, 7, 8, 9, 10, 11, 12, 13, 14, 15, 16]]) = some mf15 := by kernel_rfl
theorem at15 : Tryd.prog.funcs[15]? = some Tryd.f15 := by kernel_rfl
def lp16x0 : MC := .seq (.seq (.region [⟨none, .mv (.var 14), none⟩, ⟨none, .mv (.var 1), none⟩, ⟨none, .lenSl (.tmp 1), none⟩, ⟨some 17, .bin .lss (.tmp 0) (.tmp 2), none⟩]) (.cond (.var 17) .skip (.exit 2))) (.seq (.seq (.block 3 (.seq (.region [⟨none, .mv (.var 10), none⟩, ⟨none, .mv (.var 14), none⟩, ⟨none, .bin .shr (.tmp 0) (.tmp 1), none⟩, ⟨none, .bin .rem (.tmp 2) (.cst (.int .i64 2)), none⟩, ⟨some 18, .bin .eql (.tmp 3) (.cst (.int .i64 1)), none⟩]) (.cond (.var 18) (.seq (.region [⟨none, .mv (.var 11), none⟩, ⟨none, .mv (.var 4), none⟩, ⟨none, .mv (.var 14), none⟩, ⟨none, .indexSl 1 (.tmp 1) (.tmp 2), none⟩, ⟨none, .load false 1 (.tmp 3), none⟩, ⟨none, .bin .or (.tmp 0) (.tmp 4), none⟩, ⟨some 11, .mv (.tmp 5), none⟩]) (.seq (.region [⟨none, .mv (.var 12), none⟩, ⟨none, .mv (.var 5), none⟩, ⟨none, .mv (.var 14), none⟩, ⟨none, .indexSl 1 (.tmp 1) (.tmp 2), none⟩, ⟨none, .load false 1 (.tmp 3), none⟩, ⟨none, .bin .or (.tmp 0) (.tmp 4), none⟩, ⟨some 12, .mv (.tmp 5), none⟩]) (.region [⟨none, .mv (.var 13), none⟩, ⟨none, .mv (.var 14), none⟩, ⟨none, .buildF 1 [.tmp 1], none⟩, ⟨none, .append 1 8 (.tmp 0) (.tmp 2), none⟩, ⟨some 13, .mv (.tmp 3), none⟩]))) .skip))) (.kill [0, 2, 3, 15, 16, 17, 18, 19])) (.region [⟨none, .mv (.var 14), none⟩, ⟨none, .bin .add (.tmp 0) (.cst (.int .i64 1)), none⟩, ⟨some 14, .mv (.tmp 1), none⟩]))
def lp16x1 : MC := .seq (.seq (.region [⟨none, .mv (.var 10), none⟩, ⟨none, .mv (.var 1), none⟩, ⟨none, .lenSl (.tmp 1), none⟩, ⟨none, .bin .shl (.cst (.int .i64 1)) (.tmp 2), none⟩, ⟨some 16, .bin .lss (.tmp 0) (.tmp 3), none⟩]) (.cond (.var 16) .skip (.exit 0))) (.seq (.seq (.block 1 (.seq (.region [⟨some 11, .mv (.cst (.int .i64 0)), none⟩]) (.seq (.region [⟨some 12, .mv (.cst (.int .i64 0)), none⟩]) (.seq (.region [⟨some 13, .mv (.cst .nilS), none⟩]) (.seq (.seq (.region [⟨some 14, .mv (.cst (.int .i64 0)), none⟩]) (.seq (.block 2 (.loop [0, 2, 3, 15, 16, 17, 18, 19] lp16x0)) (.kill [0, 2, 3, 14, 15, 16, 17, 18, 19]))) (.seq (.region [⟨none, .mv (.var 11), none⟩, ⟨none, .mv (.var 6), none⟩, ⟨none, .bin .eql (.tmp 0) (.tmp 1), none⟩, ⟨none, .mv (.tmp 2), none⟩, ⟨none, .mv (.var 12), some (.tmp 3, true)⟩, ⟨none, .mv (.var 7), some (.tmp 3, true)⟩, ⟨none, .bin .eql (.tmp 4) (.tmp 5), some (.tmp 3, true)⟩, ⟨none, .pick (.tmp 3) (.tmp 6) (.cst (.bool false)), none⟩, ⟨none, .mv (.tmp 7), none⟩, ⟨none, .mv (.var 9), some (.tmp 8, true)⟩, ⟨none, .un .not (.tmp 9), some (.tmp 8, true)⟩, ⟨none, .mv (.tmp 10), some (.tmp 8, true)⟩, ⟨none, .mv (.var 13), some (.tmp 11, false)⟩, ⟨none, .mv (.var 8), some (.tmp 11, false)⟩, ⟨none, .call (.fn 33) [.tmp 12, .tmp 13], some (.tmp 11, false)⟩, ⟨none, .pick (.tmp 11) (.cst (.bool true)) (.tmp 14), some (.tmp 8, true)⟩, ⟨some 19, .pick (.tmp 8) (.tmp 15) (.cst (.bool false)), none⟩]) (.cond (.var 19) (.seq (.region [⟨none, .mv (.var 13), none⟩, ⟨some 8, .mv (.tmp 0), none⟩]) (.region [⟨some 9, .mv (.cst (.bool true)), none⟩])) .skip))))))) (.kill [0, 2, 3, 11, 12, 13, 14, 15, 16, 17, 18, 19])) (.region [⟨none, .mv (.var 10), none⟩, ⟨none, .bin .add (.tmp 0) (.cst (.int .i64 1)), none⟩, ⟨some 10, .mv (.tmp 1), none⟩]))
def mf16 : MFun := ⟨2, 20, .seq (.region [⟨some 2, .mv (.cst .nilS), none⟩, ⟨some 3, .mv (.cst (.bool false)), none⟩]) (.seq (.seq (.region [⟨none, .mv (.var 0), none⟩, ⟨none, .call (.fn 31) [.tmp 0], none⟩, ⟨none, .un .not (.tmp 1), none⟩, ⟨none, .mv (.tmp 2), none⟩, ⟨none, .mv (.var 1), some (.tmp 3, false)⟩, ⟨none, .call (.fn 18) [.tmp 4], some (.tmp 3, false)⟩, ⟨none, .un .not (.tmp 5), some (.tmp 3, false)⟩, ⟨some 15, .pick (.tmp 3) (.cst (.bool true)) (.tmp 6), none⟩]) (.cond (.var 15) (.seq (.region [⟨some 2, .mv (.cst .nilS), none⟩, ⟨some 3, .mv (.cst (.bool false)), none⟩]) .ret) .skip)) (.seq (.region [⟨none, .mv (.var 0), none⟩, ⟨none, .mv (.var 1), none⟩, ⟨none, .call (.fn 32) [.tmp 0, .tmp 1, .cst (.int .i64 0)], none⟩, ⟨some 4, .mv (.tmp 2), none⟩]) (.seq (.region [⟨none, .mv (.var 0), none⟩, ⟨none, .mv (.var 1), none⟩, ⟨none, .call (.fn 32) [.tmp 0, .tmp 1, .cst (.int .i64 62)], none⟩, ⟨some 5, .mv (.tmp 2), none⟩]) (.seq (.region [⟨none, .mv (.var 0), none⟩, ⟨none, .lenSl (.tmp 0), none⟩, ⟨none, .minmax false (.tmp 1) [.cst (.int .i64 62)], none⟩, ⟨none, .bin .shl (.cst (.int .i64 1)) (.tmp 2), none⟩, ⟨none, .bin .sub (.tmp 3) (.cst (.int .i64 1)), none⟩, ⟨some 6, .mv (.tmp 4), none⟩]) (.seq (.region [⟨none, .mv (.var 0), none⟩, ⟨none, .lenSl (.tmp 0), none⟩, ⟨none, .bin .sub (.tmp 1) (.cst (.int .i64 62)), none⟩, ⟨none, .minmax true (.tmp 2) [.cst (.int .i64 0)], none⟩, ⟨none, .bin .shl (.cst (.int .i64 1)) (.tmp 3), none⟩, ⟨none, .bin .sub (.tmp 4) (.cst (.int .i64 1)), none⟩, ⟨some 7, .mv (.tmp 5), none⟩]) (.seq (.region [⟨none, .buildSlice 1 [], none⟩, ⟨some 8, .mv (.tmp 0), none⟩]) (.seq (.region [⟨some 9, .mv (.cst (.bool false)), none⟩]) (.seq (.seq (.region [⟨some 10, .mv (.cst (.int .i64 0)), none⟩]) (.seq (.block 0 (.loop [0, 2, 3, 11, 12, 13, 14, 15, 16, 17, 18, 19] lp16x1)) (.kill [0, 1, 2, 3, 4, 5, 6, 7, 10, 11, 12, 13, 14, 15, 16, 17, 18, 19]))) (.seq (.region [⟨none, .mv (.var 8), none⟩, ⟨none, .mv (.var 9), none⟩, ⟨some 2, .mv (.tmp 0), none⟩, ⟨some 3, .mv (.tmp 1), none⟩]) .ret))))))))), [.tmp 2, .tmp 3]⟩
def mask16x0 : List Nat := [0, 2, 3, 15, 16, 17, 18, 19]
abbrev st16x0 (v1 v4 v5 v6 v7 v8 v9 v10 v11 v12 v13 v14 : AV) : List AV := [.undef, v1, .undef, .undef, v4, v5, v6, v7, v8, v9, v10, v11, v12, v13, v14, .undef, .undef, .undef, .undef, .undef]
theorem cl16x0 {d0 v1 d2 d3 v4 v5 v6 v7 v8 v9 v10 v11 v12 v13 v14 d15 d16 d17 d18 d19 : AV} : clear mask16x0 [d0, v1, d2, d3, v4, v5, v6, v7, v8, v9, v10, v11, v12, v13, v14, d15, d16, d17, d18, d19] = st16x0 v1 v4 v5 v6 v7 v8 v9 v10 v11 v12 v13 v14 := by simp only [mask16x0, clear, List.foldl_cons, List.foldl_nil, List.set_cons_zero, List.set_cons_succ]
theorem go16x0 {E : Env} {fuel : Nat} {A : Arena} {o : Out} {k : List KC} {d0 v1 d2 d3 v4 v5 v6 v7 v8 v9 v10 v11 v12 v13 v14 d15 d16 d17 d18 d19 : AV} (h : iter (evC E fuel lp16x0) mask16x0 fuel (st16x0 v1 v4 v5 v6 v7 v8 v9 v10 v11 v12 v13 v14) A = some o) :
    run E fuel (.code (.loop [0, 2, 3, 15, 16, 17, 18, 19] lp16x0) :: k) [d0, v1, d2, d3, v4, v5, v6, v7, v8, v9, v10, v11, v12, v13, v14, d15, d16, d17, d18, d19] A = after E fuel k o := run_loopC mask16x0 _ _ (by rw [cl16x0]; exact h)
def mask16x1 : List Nat := [0, 2, 3, 11, 12, 13, 14, 15, 16, 17, 18, 19]
abbrev st16x1 (v1 v4 v5 v6 v7 v8 v9 v10 : AV) : List AV := [.undef, v1, .undef, .undef, v4, v5, v6, v7, v8, v9, v10, .undef, .undef, .undef, .undef, .undef, .undef, .undef, .undef, .undef]
theorem cl16x1 {d0 v1 d2 d3 v4 v5 v6 v7 v8 v9 v10 d11 d12 d13 d14 d15 d16 d17 d18 d19 : AV} : clear mask16x1 [d0, v1, d2, d3, v4, v5, v6, v7, v8, v9, v10, d11, d12, d13, d14, d15, d16, d17, d18, d19] = st16x1 v1 v4 v5 v6 v7 v8 v9 v10 := by simp only [mask16x1, clear, List.foldl_cons, List.foldl_nil, List.set_cons_zero, List.set_cons_succ]
theorem go16x1 {E : Env} {fuel : Nat} {A : Arena} {o : Out} {k : List KC} {d0 v1 d2 d3 v4 v5 v6 v7 v8 v9 v10 d11 d12 d13 d14 d15 d16 d17 d18 d19 : AV} (h : iter (evC E fuel lp16x1) mask16x1 fuel (st16x1 v1 v4 v5 v6 v7 v8 v9 v10) A = some o) :
    run E fuel (.code (.loop [0, 2, 3, 11, 12, 13, 14, 15, 16, 17, 18, 19] lp16x1) :: k) [d0, v1, d2, d3, v4, v5, v6, v7, v8, v9, v10, d11, d12, d13, d14, d15, d16, d17, d18, d19] A = after E fuel k o := run_loopC mask16x1 _ _ (by rw [cl16x1]; exact h)
set_option maxHeartbeats 4000000 in
theorem comp16 : compFun Tryd.prog Tryd.f16 2 [0, 1, 4, 5, 6, 7, 8, 9, 10, 11, 12, 13, 14, 15, 16, 24, 47, 53, 60, 93] [] true ([[0, 2, 3, 11, 12, 13, 14, 15, 16, 17, 18, 19], [0, 2, 3, 15, 16, 17, 18, 19]], [[0, 2, 3, 15, 16, 17, 18, 19], [0, 2, 3, 14, 15, 16, 17, 18, 19], [0, 2, 3, 11, 12, 13, 14, 15, 16, 17, 18, 19], [0, 1, 2, 3, 4, 5, 6, 7, 10, 11, 12, 13, 14, 15, 16, 17, 18, 19]]) = some mf16 := by kernel_rfl
theorem at16 : Tryd.prog.funcs[16]? = some Tryd.f16 := by kernel_rfl
def mf17 : MFun := ⟨1, 2, .seq (.region [⟨some 1, .mv (.cst (.bool false)), none⟩]) (.seq (.region [⟨none, .mv (.var 0), none⟩, ⟨none, .lenSl (.tmp 0), none⟩, ⟨none, .bin .leq (.tmp 1) (.cst (.int .i64 16)), none⟩, ⟨none, .mv (.tmp 2), none⟩, ⟨none, .mv (.var 0), some (.tmp 3, true)⟩, ⟨none, .call (.fn 34) [.tmp 4, .fn 35], some (.tmp 3, true)⟩, ⟨none, .un .not (.tmp 5), some (.tmp 3, true)⟩, ⟨none, .pick (.tmp 3) (.tmp 6) (.cst (.bool false)), none⟩, ⟨some 1, .mv (.tmp 7), none⟩]) .ret), [.tmp 1]⟩
set_option maxHeartbeats 4000000 in
theorem comp17 : compFun Tryd.prog Tryd.f17 1 [0, 2] [] true ([], []) = some mf17 := by kernel_rfl
theorem at17 : Tryd.prog.funcs[17]? = some Tryd.f17 := by kernel_rfl
def lp18x0 : MC := .seq (.seq (.region [⟨none, .mv (.var 2), none⟩, ⟨none, .mv (.var 0), none⟩, ⟨none, .lenSl (.tmp 1), none⟩, ⟨some 4, .bin .lss (.tmp 0) (.tmp 2), none⟩]) (.cond (.var 4) .skip (.exit 0))) (.seq (.seq (.block 1 (.seq (.region [⟨none, .mv (.var 0), none⟩, ⟨none, .mv (.var 2), none⟩, ⟨none, .indexSl 1 (.tmp 0) (.tmp 1), none⟩, ⟨none, .fieldAddr 0 (.tmp 2), none⟩, ⟨none, .load false 1 (.tmp 3), none⟩, ⟨none, .call (.fn 31) [.tmp 4], none⟩, ⟨some 5, .un .not (.tmp 5), none⟩]) (.cond (.var 5) (.seq (.region [⟨some 1, .mv (.cst (.bool false)), none⟩]) .ret) .skip))) (.kill [1, 3, 4, 5])) (.region [⟨none, .mv (.var 2), none⟩, ⟨none, .bin .add (.tmp 0) (.cst (.int .i64 1)), none⟩, ⟨some 2, .mv (.tmp 1), none⟩]))
def mf18 : MFun := ⟨1, 6, .seq (.region [⟨some 1, .mv (.cst (.bool false)), none⟩]) (.seq (.seq (.region [⟨none, .mv (.var 0), none⟩, ⟨none, .lenSl (.tmp 0), none⟩, ⟨some 3, .bin .gtr (.tmp 1) (.cst (.int .i64 16)), none⟩]) (.cond (.var 3) (.seq (.region [⟨some 1, .mv (.cst (.bool false)), none⟩]) .ret) .skip)) (.seq (.seq (.region [⟨some 2, .mv (.cst (.int .i64 0)), none⟩]) (.seq (.block 0 (.loop [1, 3, 4, 5] lp18x0)) (.kill [0, 1, 2, 3, 4, 5]))) (.seq (.region [⟨some 1, .mv (.cst (.bool true)), none⟩]) .ret))), [.tmp 1]⟩
def mask18x0 : List Nat := [1, 3, 4, 5]
abbrev st18x0 (v0 v2 : AV) : List AV := [v0, .undef, v2, .undef, .undef, .undef]
theorem cl18x0 {v0 d1 v2 d3 d4 d5 : AV} : clear mask18x0 [v0, d1, v2, d3, d4, d5] = st18x0 v0 v2 := by simp only [mask18x0, clear, List.foldl_cons, List.foldl_nil, List.set_cons_zero, List.set_cons_succ]
theorem go18x0 {E : Env} {fuel : Nat} {A : Arena} {o : Out} {k : List KC} {v0 d1 v2 d3 d4 d5 : AV} (h : iter (evC E fuel lp18x0) mask18x0 fuel (st18x0 v0 v2) A = some o) :
    run E fuel (.code (.loop [1, 3, 4, 5] lp18x0) :: k) [v0, d1, v2, d3, d4, d5] A = after E fuel k o := run_loopC mask18x0 _ _ (by rw [cl18x0]; exact h)
set_option maxHeartbeats 4000000 in
theorem comp18 : compFun Tryd.prog Tryd.f18 1 [0, 2, 3, 6, 10, 19] [] true ([[1, 3, 4, 5]], [[1, 3, 4, 5], [0, 1, 2, 3, 4, 5]]) = some mf18 := by kernel_rfl
theorem at18 : Tryd.prog.funcs[18]? = some Tryd.f18 := by kernel_rfl
def lp19x0 : MC := .seq (.seq (.region [⟨none, .mv (.var 3), none⟩, ⟨none, .mv (.var 0), none⟩, ⟨none, .lenSl (.tmp 1), none⟩, ⟨some 5, .bin .lss (.tmp 0) (.tmp 2), none⟩]) (.cond (.var 5) .skip (.exit 0))) (.seq (.seq (.block 1 (.seq (.region [⟨none, .mv (.var 0), none⟩, ⟨none, .mv (.var 3), none⟩, ⟨none, .indexSl 1 (.tmp 0) (.tmp 1), none⟩, ⟨none, .load false 1 (.tmp 2), none⟩, ⟨none, .mv (.var 1), none⟩, ⟨none, .mv (.var 3), none⟩, ⟨none, .indexSl 1 (.tmp 4) (.tmp 5), none⟩, ⟨none, .load false 1 (.tmp 6), none⟩, ⟨some 6, .bin .neq (.tmp 3) (.tmp 7), none⟩]) (.cond (.var 6) (.seq (.region [⟨some 2, .mv (.cst (.bool false)), none⟩]) .ret) .skip))) (.kill [2, 4, 5, 6])) (.region [⟨none, .mv (.var 3), none⟩, ⟨none, .bin .add (.tmp 0) (.cst (.int .i64 1)), none⟩, ⟨some 3, .mv (.tmp 1), none⟩]))
def mf19 : MFun := ⟨2, 7, .seq (.region [⟨some 2, .mv (.cst (.bool false)), none⟩]) (.seq (.seq (.region [⟨none, .mv (.var 0), none⟩, ⟨none, .lenSl (.tmp 0), none⟩, ⟨none, .mv (.var 1), none⟩, ⟨none, .lenSl (.tmp 2), none⟩, ⟨some 4, .bin .neq (.tmp 1) (.tmp 3), none⟩]) (.cond (.var 4) (.seq (.region [⟨some 2, .mv (.cst (.bool false)), none⟩]) .ret) .skip)) (.seq (.seq (.region [⟨some 3, .mv (.cst (.int .i64 0)), none⟩]) (.seq (.block 0 (.loop [2, 4, 5, 6] lp19x0)) (.kill [0, 1, 2, 3, 4, 5, 6]))) (.seq (.region [⟨some 2, .mv (.cst (.bool true)), none⟩]) .ret))), [.tmp 2]⟩
def mask19x0 : List Nat := [2, 4, 5, 6]
abbrev st19x0 (v0 v1 v3 : AV) : List AV := [v0, v1, .undef, v3, .undef, .undef, .undef]
theorem cl19x0 {v0 v1 d2 v3 d4 d5 d6 : AV} : clear mask19x0 [v0, v1, d2, v3, d4, d5, d6] = st19x0 v0 v1 v3 := by simp only [mask19x0, clear, List.foldl_cons, List.foldl_nil, List.set_cons_zero, List.set_cons_succ]
theorem go19x0 {E : Env} {fuel : Nat} {A : Arena} {o : Out} {k : List KC} {v0 v1 d2 v3 d4 d5 d6 : AV} (h : iter (evC E fuel lp19x0) mask19x0 fuel (st19x0 v0 v1 v3) A = some o) :
    run E fuel (.code (.loop [2, 4, 5, 6] lp19x0) :: k) [v0, v1, d2, v3, d4, d5, d6] A = after E fuel k o := run_loopC mask19x0 _ _ (by rw [cl19x0]; exact h)
set_option maxHeartbeats 4000000 in
theorem comp19 : compFun Tryd.prog Tryd.f19 2 [0, 1, 4, 5, 10, 14, 25] [] true ([[2, 4, 5, 6]], [[2, 4, 5, 6], [0, 1, 2, 3, 4, 5, 6]]) = some mf19 := by kernel_rfl
theorem at19 : Tryd.prog.funcs[19]? = some Tryd.f19 := by kernel_rfl
def lp20x0 : MC := .seq (.region [⟨some 12, .bin .lss (.var 11) (.var 10), none⟩]) (.seq (.cond (.var 12) .skip (.exit 0)) (.seq (.seq (.block 1 (.seq (.region [⟨none, .indexSl 1 (.var 9) (.var 11), none⟩, ⟨none, .load false 1 (.tmp 0), none⟩, ⟨some 8, .mv (.tmp 1), none⟩]) (.seq (.seq (.region [⟨none, .mv (.var 8), none⟩, ⟨none, .mv (.var 6), none⟩, ⟨none, .bin .leq (.tmp 0) (.tmp 1), none⟩, ⟨none, .mv (.tmp 2), none⟩, ⟨none, .mv (.var 8), some (.tmp 3, false)⟩, ⟨none, .mv (.var 1), some (.tmp 3, false)⟩, ⟨none, .lenSl (.tmp 5), some (.tmp 3, false)⟩, ⟨none, .bin .geq (.tmp 4) (.tmp 6), some (.tmp 3, false)⟩, ⟨some 13, .pick (.tmp 3) (.cst (.bool true)) (.tmp 7), none⟩]) (.cond (.var 13) (.seq (.region [⟨some 3, .mv (.cst (.bool false)), none⟩]) .ret) .skip)) (.region [⟨none, .mv (.var 8), none⟩, ⟨none, .mv (.var 7), none⟩, ⟨none, .mv (.var 8), none⟩, ⟨none, .bin .shl (.cst (.int .u64 1)) (.tmp 2), none⟩, ⟨none, .bin .or (.tmp 1) (.tmp 3), none⟩, ⟨some 6, .mv (.tmp 0), none⟩, ⟨some 7, .mv (.tmp 4), none⟩])))) (.kill [0, 2, 3, 8, 12, 13])) (.region [⟨none, .bin .add (.var 11) (.cst (.int .i64 1)), none⟩, ⟨some 11, .mv (.tmp 0), none⟩])))
def mf20 : MFun := ⟨3, 14, .seq (.region [⟨some 3, .mv (.cst (.bool false)), none⟩]) (.seq (.region [⟨none, .mv (.var 0), none⟩, ⟨none, .mv (.var 1), none⟩, ⟨none, .call (.fn 27) [.tmp 0, .tmp 1], none⟩, ⟨none, .mv (.tmp 2), none⟩, ⟨none, .extract (.tmp 3) 0, none⟩, ⟨none, .extract (.tmp 3) 1, none⟩, ⟨some 4, .mv (.tmp 4), none⟩, ⟨some 5, .mv (.tmp 5), none⟩]) (.seq (.region [⟨some 6, .mv (.cst (.int .i64 (-1))), none⟩, ⟨some 7, .mv (.cst (.int .u64 0)), none⟩]) (.seq (.seq (.region [⟨some 9, .mv (.var 2), none⟩, ⟨some 10, .lenSl (.var 9), none⟩, ⟨some 11, .mv (.cst (.int .i64 0)), none⟩]) (.seq (.block 0 (.loop [0, 2, 3, 8, 12, 13] lp20x0)) (.kill [0, 1, 2, 3, 6, 8, 9, 10, 11, 12, 13]))) (.seq (.region [⟨none, .mv (.var 5), none⟩, ⟨none, .mv (.tmp 0), none⟩, ⟨none, .mv (.var 4), some (.tmp 1, true)⟩, ⟨none, .mv (.var 7), some (.tmp 1, true)⟩, ⟨none, .call (.fn 29) [.tmp 2, .tmp 3], some (.tmp 1, true)⟩, ⟨none, .pick (.tmp 1) (.tmp 4) (.cst (.bool false)), none⟩, ⟨some 3, .mv (.tmp 5), none⟩]) .ret)))), [.tmp 3]⟩
def mask20x0 : List Nat := [0, 2, 3, 8, 12, 13]
abbrev st20x0 (v1 v4 v5 v6 v7 v9 v10 v11 : AV) : List AV := [.undef, v1, .undef, .undef, v4, v5, v6, v7, .undef, v9, v10, v11, .undef, .undef]
theorem cl20x0 {d0 v1 d2 d3 v4 v5 v6 v7 d8 v9 v10 v11 d12 d13 : AV} : clear mask20x0 [d0, v1, d2, d3, v4, v5, v6, v7, d8, v9, v10, v11, d12, d13] = st20x0 v1 v4 v5 v6 v7 v9 v10 v11 := by simp only [mask20x0, clear, List.foldl_cons, List.foldl_nil, List.set_cons_zero, List.set_cons_succ]
theorem go20x0 {E : Env} {fuel : Nat} {A : Arena} {o : Out} {k : List KC} {d0 v1 d2 d3 v4 v5 v6 v7 d8 v9 v10 v11 d12 d13 : AV} (h : iter (evC E fuel lp20x0) mask20x0 fuel (st20x0 v1 v4 v5 v6 v7 v9 v10 v11) A = some o) :
    run E fuel (.code (.loop [0, 2, 3, 8, 12, 13] lp20x0) :: k) [d0, v1, d2, d3, v4, v5, v6, v7, d8, v9, v10, v11, d12, d13] A = after E fuel k o := run_loopC mask20x0 _ _ (by rw [cl20x0]; exact h)
set_option maxHeartbeats 4000000 in
theorem comp20 : compFun Tryd.prog Tryd.f20 3 [0, 1, 2, 6, 7, 8, 9, 10, 12, 19, 20, 21, 22, 33] [] true ([[0, 2, 3, 8, 12, 13]], [[0, 2, 3, 8, 12, 13], [0, 1, 2, 3, 6, 8, 9, 10, 11, 12, 13]]) = some mf20 := by kernel_rfl
theorem at20 : Tryd.prog.funcs[20]? = some Tryd.f20 := by kernel_rfl
def lp21x0 : MC := .seq (.seq (.region [⟨none, .mv (.var 4), none⟩, ⟨none, .mv (.var 2), none⟩, ⟨none, .lenSl (.tmp 1), none⟩, ⟨some 9, .bin .lss (.tmp 0) (.tmp 2), none⟩]) (.cond (.var 9) .skip (.exit 0))) (.seq (.seq (.block 1 (.seq (.region [⟨none, .mv (.var 2), none⟩, ⟨none, .mv (.var 4), none⟩, ⟨none, .indexSl 1 (.tmp 0) (.tmp 1), none⟩, ⟨none, .load false 1 (.tmp 2), none⟩, ⟨none, .bin .lss (.tmp 3) (.cst (.int .i64 0)), none⟩, ⟨none, .mv (.tmp 4), none⟩, ⟨none, .mv (.var 2), some (.tmp 5, false)⟩, ⟨none, .mv (.var 4), some (.tmp 5, false)⟩, ⟨none, .indexSl 1 (.tmp 6) (.tmp 7), some (.tmp 5, false)⟩, ⟨none, .load false 1 (.tmp 8), some (.tmp 5, false)⟩, ⟨none, .mv (.var 1), some (.tmp 5, false)⟩, ⟨none, .lenSl (.tmp 10), some (.tmp 5, false)⟩, ⟨none, .bin .geq (.tmp 9) (.tmp 11), some (.tmp 5, false)⟩, ⟨none, .pick (.tmp 5) (.cst (.bool true)) (.tmp 12), none⟩, ⟨none, .mv (.tmp 13), none⟩, ⟨none, .mv (.var 4), some (.tmp 14, false)⟩, ⟨none, .bin .gtr (.tmp 15) (.cst (.int .i64 0)), some (.tmp 14, false)⟩, ⟨none, .mv (.tmp 16), some (.tmp 14, false)⟩, ⟨none, .mv (.var 2), some (.tmp 17, true)⟩, ⟨none, .mv (.var 4), some (.tmp 17, true)⟩, ⟨none, .bin .sub (.tmp 19) (.cst (.int .i64 1)), some (.tmp 17, true)⟩, ⟨none, .indexSl 1 (.tmp 18) (.tmp 20), some (.tmp 17, true)⟩, ⟨none, .load false 1 (.tmp 21), some (.tmp 17, true)⟩, ⟨none, .mv (.var 2), some (.tmp 17, true)⟩, ⟨none, .mv (.var 4), some (.tmp 17, true)⟩, ⟨none, .indexSl 1 (.tmp 23) (.tmp 24), some (.tmp 17, true)⟩, ⟨none, .load false 1 (.tmp 25), some (.tmp 17, true)⟩, ⟨none, .bin .geq (.tmp 22) (.tmp 26), some (.tmp 17, true)⟩, ⟨none, .pick (.tmp 17) (.tmp 27) (.cst (.bool false)), some (.tmp 14, false)⟩, ⟨some 10, .pick (.tmp 14) (.cst (.bool true)) (.tmp 28), none⟩]) (.cond (.var 10) (.seq (.region [⟨some 3, .mv (.cst (.bool false)), none⟩]) .ret) .skip))) (.kill [3, 5, 6, 7, 8, 9, 10, 11, 12, 13])) (.region [⟨none, .mv (.var 4), none⟩, ⟨none, .bin .add (.tmp 0) (.cst (.int .i64 1)), none⟩, ⟨some 4, .mv (.tmp 1), none⟩]))
def lp21x1 : MC := .seq (.seq (.region [⟨none, .mv (.var 7), none⟩, ⟨none, .mv (.var 2), none⟩, ⟨none, .lenSl (.tmp 1), none⟩, ⟨some 12, .bin .lss (.tmp 0) (.tmp 2), none⟩]) (.cond (.var 12) .skip (.exit 4))) (.seq (.seq (.block 5 (.region [⟨none, .mv (.var 6), none⟩, ⟨none, .mv (.tmp 0), none⟩, ⟨none, .mv (.var 1), some (.tmp 1, false)⟩, ⟨none, .mv (.var 2), some (.tmp 1, false)⟩, ⟨none, .mv (.var 7), some (.tmp 1, false)⟩, ⟨none, .indexSl 1 (.tmp 3) (.tmp 4), some (.tmp 1, false)⟩, ⟨none, .load false 1 (.tmp 5), some (.tmp 1, false)⟩, ⟨none, .indexSl 1 (.tmp 2) (.tmp 6), some (.tmp 1, false)⟩, ⟨none, .fieldAddr 0 (.tmp 7), some (.tmp 1, false)⟩, ⟨none, .load false 1 (.tmp 8), some (.tmp 1, false)⟩, ⟨none, .mv (.var 0), some (.tmp 1, false)⟩, ⟨none, .mv (.var 5), some (.tmp 1, false)⟩, ⟨none, .indexSl 1 (.tmp 10) (.tmp 11), some (.tmp 1, false)⟩, ⟨none, .load false 1 (.tmp 12), some (.tmp 1, false)⟩, ⟨none, .call (.fn 37) [.tmp 9, .tmp 13], some (.tmp 1, false)⟩, ⟨none, .pick (.tmp 1) (.cst (.bool true)) (.tmp 14), none⟩, ⟨some 6, .mv (.tmp 15), none⟩])) (.kill [3, 4, 8, 9, 10, 11, 12, 13])) (.region [⟨none, .mv (.var 7), none⟩, ⟨none, .bin .add (.tmp 0) (.cst (.int .i64 1)), none⟩, ⟨some 7, .mv (.tmp 1), none⟩]))
def lp21x2 : MC := .seq (.seq (.region [⟨none, .mv (.var 5), none⟩, ⟨none, .mv (.var 0), none⟩, ⟨none, .lenSl (.tmp 1), none⟩, ⟨some 11, .bin .lss (.tmp 0) (.tmp 2), none⟩]) (.cond (.var 11) .skip (.exit 2))) (.seq (.seq (.block 3 (.seq (.region [⟨some 6, .mv (.cst (.bool false)), none⟩]) (.seq (.seq (.region [⟨some 7, .mv (.cst (.int .i64 0)), none⟩]) (.seq (.block 4 (.loop [3, 4, 8, 9, 10, 11, 12, 13] lp21x1)) (.kill [3, 4, 7, 8, 9, 10, 11, 12, 13]))) (.seq (.region [⟨none, .mv (.var 6), none⟩, ⟨some 13, .un .not (.tmp 0), none⟩]) (.cond (.var 13) (.seq (.region [⟨some 3, .mv (.cst (.bool false)), none⟩]) .ret) .skip))))) (.kill [3, 4, 6, 7, 8, 9, 10, 11, 12, 13])) (.region [⟨none, .mv (.var 5), none⟩, ⟨none, .bin .add (.tmp 0) (.cst (.int .i64 1)), none⟩, ⟨some 5, .mv (.tmp 1), none⟩]))
def mf21 : MFun := ⟨3, 14, .seq (.region [⟨some 3, .mv (.cst (.bool false)), none⟩]) (.seq (.seq (.region [⟨none, .mv (.var 0), none⟩, ⟨none, .call (.fn 31) [.tmp 0], none⟩, ⟨none, .un .not (.tmp 1), none⟩, ⟨none, .mv (.tmp 2), none⟩, ⟨none, .mv (.var 1), some (.tmp 3, false)⟩, ⟨none, .call (.fn 18) [.tmp 4], some (.tmp 3, false)⟩, ⟨none, .un .not (.tmp 5), some (.tmp 3, false)⟩, ⟨some 8, .pick (.tmp 3) (.cst (.bool true)) (.tmp 6), none⟩]) (.cond (.var 8) (.seq (.region [⟨some 3, .mv (.cst (.bool false)), none⟩]) .ret) .skip)) (.seq (.seq (.region [⟨some 4, .mv (.cst (.int .i64 0)), none⟩]) (.seq (.block 0 (.loop [3, 5, 6, 7, 8, 9, 10, 11, 12, 13] lp21x0)) (.kill [3, 4, 5, 6, 7, 8, 9, 10, 11, 12, 13]))) (.seq (.seq (.region [⟨some 5, .mv (.cst (.int .i64 0)), none⟩]) (.seq (.block 2 (.loop [3, 4, 6, 7, 8, 9, 10, 11, 12, 13] lp21x2)) (.kill [0, 1, 2, 3, 4, 5, 6, 7, 8, 9, 10, 11, 12, 13]))) (.seq (.region [⟨some 3, .mv (.cst (.bool true)), none⟩]) .ret)))), [.tmp 3]⟩
def mask21x1 : List Nat := [3, 4, 8, 9, 10, 11, 12, 13]
abbrev st21x1 (v0 v1 v2 v5 v6 v7 : AV) : List AV := [v0, v1, v2, .undef, .undef, v5, v6, v7, .undef, .undef, .undef, .undef, .undef, .undef]
theorem cl21x1 {v0 v1 v2 d3 d4 v5 v6 v7 d8 d9 d10 d11 d12 d13 : AV} : clear mask21x1 [v0, v1, v2, d3, d4, v5, v6, v7, d8, d9, d10, d11, d12, d13] = st21x1 v0 v1 v2 v5 v6 v7 := by simp only [mask21x1, clear, List.foldl_cons, List.foldl_nil, List.set_cons_zero, List.set_cons_succ]
theorem go21x1 {E : Env} {fuel : Nat} {A : Arena} {o : Out} {k : List KC} {v0 v1 v2 d3 d4 v5 v6 v7 d8 d9 d10 d11 d12 d13 : AV} (h : iter (evC E fuel lp21x1) mask21x1 fuel (st21x1 v0 v1 v2 v5 v6 v7) A = some o) :
    run E fuel (.code (.loop [3, 4, 8, 9, 10, 11, 12, 13] lp21x1) :: k) [v0, v1, v2, d3, d4, v5, v6, v7, d8, d9, d10, d11, d12, d13] A = after E fuel k o := run_loopC mask21x1 _ _ (by rw [cl21x1]; exact h)
def mask21x0 : List Nat := [3, 5, 6, 7, 8, 9, 10, 11, 12, 13]
abbrev st21x0 (v0 v1 v2 v4 : AV) : List AV := [v0, v1, v2, .undef, v4, .undef, .undef, .undef, .undef, .undef, .undef, .undef, .undef, .undef]
theorem cl21x0 {v0 v1 v2 d3 v4 d5 d6 d7 d8 d9 d10 d11 d12 d13 : AV} : clear mask21x0 [v0, v1, v2, d3, v4, d5, d6, d7, d8, d9, d10, d11, d12, d13] = st21x0 v0 v1 v2 v4 := by simp only [mask21x0, clear, List.foldl_cons, List.foldl_nil, List.set_cons_zero, List.set_cons_succ]
theorem go21x0 {E : Env} {fuel : Nat} {A : Arena} {o : Out} {k : List KC} {v0 v1 v2 d3 v4 d5 d6 d7 d8 d9 d10 d11 d12 d13 : AV} (h : iter (evC E fuel lp21x0) mask21x0 fuel (st21x0 v0 v1 v2 v4) A = some o) :
    run E fuel (.code (.loop [3, 5, 6, 7, 8, 9, 10, 11, 12, 13] lp21x0) :: k) [v0, v1, v2, d3, v4, d5, d6, d7, d8, d9, d10, d11, d12, d13] A = after E fuel k o := run_loopC mask21x0 _ _ (by rw [cl21x0]; exact h)
def mask21x2 : List Nat := [3, 4, 6, 7, 8, 9, 10, 11, 12, 13]
abbrev st21x2 (v0 v1 v2 v5 : AV) : List AV := [v0, v1, v2, .undef, .undef, v5, .undef, .undef, .undef, .undef, .undef, .undef, .undef, .undef]
theorem cl21x2 {v0 v1 v2 d3 d4 v5 d6 d7 d8 d9 d10 d11 d12 d13 : AV} : clear mask21x2 [v0, v1, v2, d3, d4, v5, d6, d7, d8, d9, d10, d11, d12, d13] = st21x2 v0 v1 v2 v5 := by simp only [mask21x2, clear, List.foldl_cons, List.foldl_nil, List.set_cons_zero, List.set_cons_succ]
theorem go21x2 {E : Env} {fuel : Nat} {A : Arena} {o : Out} {k : List KC} {v0 v1 v2 d3 d4 v5 d6 d7 d8 d9 d10 d11 d12 d13 : AV} (h : iter (evC E fuel lp21x2) mask21x2 fuel (st21x2 v0 v1 v2 v5) A = some o) :
    run E fuel (.code (.loop [3, 4, 6, 7, 8, 9, 10, 11, 12, 13] lp21x2) :: k) [v0, v1, v2, d3, d4, v5, d6, d7, d8, d9, d10, d11, d12, d13] A = after E fuel k o := run_loopC mask21x2 _ _ (by rw [cl21x2]; exact h)
set_option maxHeartbeats 4000000 in
theorem comp21 : compFun Tryd.prog Tryd.f21 3 [0, 1, 2, 6, 7, 8, 9, 10, 18, 22, 54, 58, 64, 84] [37] true ([[3, 5, 6, 7, 8, 9, 10, 11, 12, 13], [3, 4, 6, 7, 8, 9, 10, 11, 12, 13], [3, 4, 8, 9, 10, 11, 12, 13]], [[3, 5, 6, 7, 8, 9, 10, 11, 12, 13], [3, 4, 5, 6, 7, 8, 9, 10, 11, 12, 13], [3, 4, 8, 9, 10, 11, 12, 13], [3, 4, 7, 8, 9, 10, 11, 12, 13], [3, 4, 6, 7, 8, 9, 10, 11, 12, 13], [0, 1, 2, 3, 4, 5, 6, 7, 8, 9, 10, 11, 12, 13]]) = some mf21 := by kernel_rfl
theorem at21 : Tryd.prog.funcs[21]? = some Tryd.f21 := by kernel_rfl
def lp22x0 : MC := .seq (.region [⟨some 9, .bin .lss (.var 8) (.var 7), none⟩]) (.seq (.cond (.var 9) .skip (.exit 0)) (.seq (.seq (.block 1 (.seq (.region [⟨none, .indexSl 1 (.var 6) (.var 8), none⟩, ⟨none, .load false 1 (.tmp 0), none⟩, ⟨some 5, .mv (.tmp 1), none⟩]) (.seq (.region [⟨none, .mv (.var 3), none⟩, ⟨none, .mv (.var 5), none⟩, ⟨none, .lookup 1 false (.int .u64 0) (.tmp 0) (.tmp 1), none⟩, ⟨none, .bin .neq (.tmp 2) (.cst (.int .u64 0)), none⟩, ⟨none, .mv (.tmp 3), none⟩, ⟨none, .mv (.var 3), some (.tmp 4, true)⟩, ⟨none, .mv (.var 5), some (.tmp 4, true)⟩, ⟨none, .lookup 1 false (.int .u64 0) (.tmp 5) (.tmp 6), some (.tmp 4, true)⟩, ⟨none, .mv (.var 4), some (.tmp 4, true)⟩, ⟨none, .bin .and (.tmp 7) (.tmp 8), some (.tmp 4, true)⟩, ⟨none, .bin .eql (.tmp 9) (.cst (.int .u64 0)), some (.tmp 4, true)⟩, ⟨some 10, .pick (.tmp 4) (.tmp 10) (.cst (.bool false)), none⟩]) (.cond (.var 10) (.seq (.region [⟨none, .mv (.var 4), none⟩, ⟨none, .mv (.var 3), none⟩, ⟨none, .mv (.var 5), none⟩, ⟨none, .lookup 1 false (.int .u64 0) (.tmp 1) (.tmp 2), none⟩, ⟨none, .bin .or (.tmp 0) (.tmp 3), none⟩, ⟨some 4, .mv (.tmp 4), none⟩]) (.region [⟨none, .mv (.var 2), none⟩, ⟨none, .mv (.var 5), none⟩, ⟨none, .buildF 1 [.tmp 1], none⟩, ⟨none, .append 1 8 (.tmp 0) (.tmp 2), none⟩, ⟨some 2, .mv (.tmp 3), none⟩])) .skip)))) (.kill [0, 1, 5, 9, 10])) (.region [⟨none, .bin .add (.var 8) (.cst (.int .i64 1)), none⟩, ⟨some 8, .mv (.tmp 0), none⟩])))
def mf22 : MFun := ⟨2, 11, .seq (.region [⟨some 2, .mv (.cst .nilS), none⟩]) (.seq (.region [⟨none, .mv (.var 0), none⟩, ⟨none, .mv (.var 1), none⟩, ⟨none, .call (.fn 27) [.tmp 0, .tmp 1], none⟩, ⟨none, .mv (.tmp 2), none⟩, ⟨none, .extract (.tmp 3) 0, none⟩, ⟨none, .extract (.tmp 3) 1, none⟩, ⟨some 3, .mv (.tmp 4), none⟩, ⟨none, .mv (.tmp 5), none⟩]) (.seq (.region [⟨some 4, .mv (.cst (.int .u64 0)), none⟩]) (.seq (.seq (.region [⟨some 6, .mv (.var 0), none⟩, ⟨some 7, .lenSl (.var 6), none⟩, ⟨some 8, .mv (.cst (.int .i64 0)), none⟩]) (.seq (.block 0 (.loop [0, 1, 5, 9, 10] lp22x0)) (.kill [0, 1, 3, 4, 5, 6, 7, 8, 9, 10]))) (.seq (.region [⟨none, .mv (.var 2), none⟩, ⟨some 2, .mv (.tmp 0), none⟩]) .ret)))), [.tmp 2]⟩
def mask22x0 : List Nat := [0, 1, 5, 9, 10]
abbrev st22x0 (v2 v3 v4 v6 v7 v8 : AV) : List AV := [.undef, .undef, v2, v3, v4, .undef, v6, v7, v8, .undef, .undef]
theorem cl22x0 {d0 d1 v2 v3 v4 d5 v6 v7 v8 d9 d10 : AV} : clear mask22x0 [d0, d1, v2, v3, v4, d5, v6, v7, v8, d9, d10] = st22x0 v2 v3 v4 v6 v7 v8 := by simp only [mask22x0, clear, List.foldl_cons, List.foldl_nil, List.set_cons_zero, List.set_cons_succ]
theorem go22x0 {E : Env} {fuel : Nat} {A : Arena} {o : Out} {k : List KC} {d0 d1 v2 v3 v4 d5 v6 v7 v8 d9 d10 : AV} (h : iter (evC E fuel lp22x0) mask22x0 fuel (st22x0 v2 v3 v4 v6 v7 v8) A = some o) :
    run E fuel (.code (.loop [0, 1, 5, 9, 10] lp22x0) :: k) [d0, d1, v2, v3, v4, d5, v6, v7, v8, d9, d10] A = after E fuel k o := run_loopC mask22x0 _ _ (by rw [cl22x0]; exact h)
set_option maxHeartbeats 4000000 in
theorem comp22 : compFun Tryd.prog Tryd.f22 2 [0, 1, 4, 5, 7, 9, 16, 17, 18, 19, 33] [] true ([[0, 1, 5, 9, 10]], [[0, 1, 5, 9, 10], [0, 1, 3, 4, 5, 6, 7, 8, 9, 10]]) = some mf22 := by kernel_rfl
theorem at22 : Tryd.prog.funcs[22]? = some Tryd.f22 := by kernel_rfl
def lp23x0 : MC := .seq (.seq (.region [⟨none, .mv (.var 8), none⟩, ⟨none, .mv (.var 1), none⟩, ⟨none, .lenSl (.tmp 1), none⟩, ⟨some 12, .bin .lss (.tmp 0) (.tmp 2), none⟩]) (.cond (.var 12) .skip (.exit 2))) (.seq (.seq (.block 3 (.seq (.region [⟨none, .mv (.var 1), none⟩, ⟨none, .mv (.var 8), none⟩, ⟨none, .indexSl 1 (.tmp 0) (.tmp 1), none⟩, ⟨none, .fieldAddr 0 (.tmp 2), none⟩, ⟨none, .load false 1 (.tmp 3), none⟩, ⟨none, .mv (.var 0), none⟩, ⟨none, .mv (.var 5), none⟩, ⟨none, .indexSl 1 (.tmp 5) (.tmp 6), none⟩, ⟨none, .load false 1 (.tmp 7), none⟩, ⟨some 13, .call (.fn 37) [.tmp 4, .tmp 8], none⟩]) (.cond (.var 13) (.seq (.region [⟨some 6, .mv (.cst (.bool true)), none⟩]) (.region [⟨none, .mv (.var 7), none⟩, ⟨none, .mv (.tmp 0), none⟩, ⟨none, .mv (.var 3), some (.tmp 1, false)⟩, ⟨none, .mv (.var 8), some (.tmp 1, false)⟩, ⟨none, .indexSl 1 (.tmp 2) (.tmp 3), some (.tmp 1, false)⟩, ⟨none, .load false 1 (.tmp 4), some (.tmp 1, false)⟩, ⟨none, .pick (.tmp 1) (.cst (.bool true)) (.tmp 5), none⟩, ⟨some 7, .mv (.tmp 6), none⟩])) .skip))) (.kill [2, 9, 10, 11, 12, 13, 14, 15])) (.region [⟨none, .mv (.var 8), none⟩, ⟨none, .bin .add (.tmp 0) (.cst (.int .i64 1)), none⟩, ⟨some 8, .mv (.tmp 1), none⟩]))
def lp23x1 : MC := .seq (.seq (.region [⟨none, .mv (.var 9), none⟩, ⟨none, .mv (.var 1), none⟩, ⟨none, .lenSl (.tmp 1), none⟩, ⟨some 15, .bin .lss (.tmp 0) (.tmp 2), none⟩]) (.cond (.var 15) .skip (.exit 4))) (.seq (.seq (.block 5 (.region [⟨none, .mv (.var 3), none⟩, ⟨none, .mv (.var 9), none⟩, ⟨none, .mv (.var 3), none⟩, ⟨none, .mv (.var 9), none⟩, ⟨none, .indexSl 1 (.tmp 2) (.tmp 3), none⟩, ⟨none, .load false 1 (.tmp 4), none⟩, ⟨none, .mv (.tmp 5), none⟩, ⟨none, .mv (.var 1), some (.tmp 6, false)⟩, ⟨none, .mv (.var 9), some (.tmp 6, false)⟩, ⟨none, .indexSl 1 (.tmp 7) (.tmp 8), some (.tmp 6, false)⟩, ⟨none, .fieldAddr 0 (.tmp 9), some (.tmp 6, false)⟩, ⟨none, .load false 1 (.tmp 10), some (.tmp 6, false)⟩, ⟨none, .mv (.var 0), some (.tmp 6, false)⟩, ⟨none, .mv (.var 5), some (.tmp 6, false)⟩, ⟨none, .indexSl 1 (.tmp 12) (.tmp 13), some (.tmp 6, false)⟩, ⟨none, .load false 1 (.tmp 14), some (.tmp 6, false)⟩, ⟨none, .call (.fn 37) [.tmp 11, .tmp 15], some (.tmp 6, false)⟩, ⟨none, .pick (.tmp 6) (.cst (.bool true)) (.tmp 16), none⟩, ⟨none, .indexSl 1 (.tmp 0) (.tmp 1), none⟩, ⟨none, .store 1 (.tmp 18) (.tmp 17), none⟩])) (.kill [2, 6, 7, 8, 10, 11, 12, 13, 14, 15])) (.region [⟨none, .mv (.var 9), none⟩, ⟨none, .bin .add (.tmp 0) (.cst (.int .i64 1)), none⟩, ⟨some 9, .mv (.tmp 1), none⟩]))
def lp23x2 : MC := .seq (.seq (.region [⟨none, .mv (.var 5), none⟩, ⟨none, .mv (.var 0), none⟩, ⟨none, .lenSl (.tmp 1), none⟩, ⟨some 11, .bin .lss (.tmp 0) (.tmp 2), none⟩]) (.cond (.var 11) .skip (.exit 0))) (.seq (.seq (.block 1 (.seq (.region [⟨some 6, .mv (.cst (.bool false)), none⟩]) (.seq (.region [⟨some 7, .mv (.cst (.bool false)), none⟩]) (.seq (.seq (.region [⟨some 8, .mv (.cst (.int .i64 0)), none⟩]) (.seq (.block 2 (.loop [2, 9, 10, 11, 12, 13, 14, 15] lp23x0)) (.kill [2, 8, 9, 10, 11, 12, 13, 14, 15]))) (.seq (.seq (.region [⟨none, .mv (.var 6), none⟩, ⟨none, .un .not (.tmp 0), none⟩, ⟨none, .mv (.tmp 1), none⟩, ⟨none, .mv (.var 7), some (.tmp 2, false)⟩, ⟨some 14, .pick (.tmp 2) (.cst (.bool true)) (.tmp 3), none⟩]) (.cond (.var 14) (.exit 1) .skip)) (.seq (.region [⟨none, .mv (.var 4), none⟩, ⟨none, .mv (.var 0), none⟩, ⟨none, .mv (.var 5), none⟩, ⟨none, .indexSl 1 (.tmp 1) (.tmp 2), none⟩, ⟨none, .load false 1 (.tmp 3), none⟩, ⟨none, .buildF 1 [.tmp 4], none⟩, ⟨none, .append 1 8 (.tmp 0) (.tmp 5), none⟩, ⟨some 4, .mv (.tmp 6), none⟩]) (.seq (.region [⟨some 9, .mv (.cst (.int .i64 0)), none⟩]) (.seq (.block 4 (.loop [2, 6, 7, 8, 10, 11, 12, 13, 14, 15] lp23x1)) (.kill [2, 6, 7, 8, 9, 10, 11, 12, 13, 14, 15]))))))))) (.kill [2, 6, 7, 8, 9, 10, 11, 12, 13, 14, 15])) (.region [⟨none, .mv (.var 5), none⟩, ⟨none, .bin .add (.tmp 0) (.cst (.int .i64 1)), none⟩, ⟨some 5, .mv (.tmp 1), none⟩]))
def mf23 : MFun := ⟨2, 16, .seq (.region [⟨some 2, .mv (.cst .nilS), none⟩]) (.seq (.seq (.region [⟨none, .mv (.var 0), none⟩, ⟨none, .call (.fn 31) [.tmp 0], none⟩, ⟨none, .un .not (.tmp 1), none⟩, ⟨none, .mv (.tmp 2), none⟩, ⟨none, .mv (.var 1), some (.tmp 3, false)⟩, ⟨none, .call (.fn 18) [.tmp 4], some (.tmp 3, false)⟩, ⟨none, .un .not (.tmp 5), some (.tmp 3, false)⟩, ⟨some 10, .pick (.tmp 3) (.cst (.bool true)) (.tmp 6), none⟩]) (.cond (.var 10) (.seq (.region [⟨some 2, .mv (.cst .nilS), none⟩]) .ret) .skip)) (.seq (.region [⟨none, .mv (.var 1), none⟩, ⟨none, .lenSl (.tmp 0), none⟩, ⟨none, .makeSlice 1 1 (.bool false) (.tmp 1) (.tmp 1), none⟩, ⟨some 3, .mv (.tmp 2), none⟩]) (.seq (.region [⟨some 4, .mv (.cst .nilS), none⟩]) (.seq (.seq (.region [⟨some 5, .mv (.cst (.int .i64 0)), none⟩]) (.seq (.block 0 (.loop [2, 6, 7, 8, 9, 10, 11, 12, 13, 14, 15] lp23x2)) (.kill [0, 1, 2, 3, 5, 6, 7, 8, 9, 10, 11, 12, 13, 14, 15]))) (.seq (.region [⟨none, .mv (.var 4), none⟩, ⟨some 2, .mv (.tmp 0), none⟩]) .ret))))), [.tmp 2]⟩
def mask23x0 : List Nat := [2, 9, 10, 11, 12, 13, 14, 15]
abbrev st23x0 (v0 v1 v3 v4 v5 v6 v7 v8 : AV) : List AV := [v0, v1, .undef, v3, v4, v5, v6, v7, v8, .undef, .undef, .undef, .undef, .undef, .undef, .undef]
theorem cl23x0 {v0 v1 d2 v3 v4 v5 v6 v7 v8 d9 d10 d11 d12 d13 d14 d15 : AV} : clear mask23x0 [v0, v1, d2, v3, v4, v5, v6, v7, v8, d9, d10, d11, d12, d13, d14, d15] = st23x0 v0 v1 v3 v4 v5 v6 v7 v8 := by simp only [mask23x0, clear, List.foldl_cons, List.foldl_nil, List.set_cons_zero, List.set_cons_succ]
theorem go23x0 {E : Env} {fuel : Nat} {A : Arena} {o : Out} {k : List KC} {v0 v1 d2 v3 v4 v5 v6 v7 v8 d9 d10 d11 d12 d13 d14 d15 : AV} (h : iter (evC E fuel lp23x0) mask23x0 fuel (st23x0 v0 v1 v3 v4 v5 v6 v7 v8) A = some o) :
    run E fuel (.code (.loop [2, 9, 10, 11, 12, 13, 14, 15] lp23x0) :: k) [v0, v1, d2, v3, v4, v5, v6, v7, v8, d9, d10, d11, d12, d13, d14, d15] A = after E fuel k o := run_loopC mask23x0 _ _ (by rw [cl23x0]; exact h)
def mask23x1 : List Nat := [2, 6, 7, 8, 10, 11, 12, 13, 14, 15]
abbrev st23x1 (v0 v1 v3 v4 v5 v9 : AV) : List AV := [v0, v1, .undef, v3, v4, v5, .undef, .undef, .undef, v9, .undef, .undef, .undef, .undef, .undef, .undef]
theorem cl23x1 {v0 v1 d2 v3 v4 v5 d6 d7 d8 v9 d10 d11 d12 d13 d14 d15 : AV} : clear mask23x1 [v0, v1, d2, v3, v4, v5, d6, d7, d8, v9, d10, d11, d12, d13, d14, d15] = st23x1 v0 v1 v3 v4 v5 v9 := by simp only [mask23x1, clear, List.foldl_cons, List.foldl_nil, List.set_cons_zero, List.set_cons_succ]
theorem go23x1 {E : Env} {fuel : Nat} {A : Arena} {o : Out} {k : List KC} {v0 v1 d2 v3 v4 v5 d6 d7 d8 v9 d10 d11 d12 d13 d14 d15 : AV} (h : iter (evC E fuel lp23x1) mask23x1 fuel (st23x1 v0 v1 v3 v4 v5 v9) A = some o) :
    run E fuel (.code (.loop [2, 6, 7, 8, 10, 11, 12, 13, 14, 15] lp23x1) :: k) [v0, v1, d2, v3, v4, v5, d6, d7, d8, v9, d10, d11, d12, d13, d14, d15] A = after E fuel k o := run_loopC mask23x1 _ _ (by rw [cl23x1]; exact h)
def mask23x2 : List Nat := [2, 6, 7, 8, 9, 10, 11, 12, 13, 14, 15]
abbrev st23x2 (v0 v1 v3 v4 v5 : AV) : List AV := [v0, v1, .undef, v3, v4, v5, .undef, .undef, .undef, .undef, .undef, .undef, .undef, .undef, .undef, .undef]
theorem cl23x2 {v0 v1 d2 v3 v4 v5 d6 d7 d8 d9 d10 d11 d12 d13 d14 d15 : AV} : clear mask23x2 [v0, v1, d2, v3, v4, v5, d6, d7, d8, d9, d10, d11, d12, d13, d14, d15] = st23x2 v0 v1 v3 v4 v5 := by simp only [mask23x2, clear, List.foldl_cons, List.foldl_nil, List.set_cons_zero, List.set_cons_succ]
theorem go23x2 {E : Env} {fuel : Nat} {A : Arena} {o : Out} {k : List KC} {v0 v1 d2 v3 v4 v5 d6 d7 d8 d9 d10 d11 d12 d13 d14 d15 : AV} (h : iter (evC E fuel lp23x2) mask23x2 fuel (st23x2 v0 v1 v3 v4 v5) A = some o) :
    run E fuel (.code (.loop [2, 6, 7, 8, 9, 10, 11, 12, 13, 14, 15] lp23x2) :: k) [v0, v1, d2, v3, v4, v5, d6, d7, d8, d9, d10, d11, d12, d13, d14, d15] A = after E fuel k o := run_loopC mask23x2 _ _ (by rw [cl23x2]; exact h)
set_option maxHeartbeats 4000000 in
theorem comp23 : compFun Tryd.prog Tryd.f23 2 [0, 1, 4, 5, 6, 7, 8, 9, 10, 11, 19, 26, 32, 44, 56, 67] [37] true ([[2, 6, 7, 8, 9, 10, 11, 12, 13, 14, 15], [2, 9, 10, 11, 12, 13, 14, 15], [2, 6, 7, 8, 10, 11, 12, 13, 14, 15]], [[2, 9, 10, 11, 12, 13, 14, 15], [2, 8, 9, 10, 11, 12, 13, 14, 15], [2, 6, 7, 8, 10, 11, 12, 13, 14, 15], [2, 6, 7, 8, 9, 10, 11, 12, 13, 14, 15], [2, 6, 7, 8, 9, 10, 11, 12, 13, 14, 15], [0, 1, 2, 3, 5, 6, 7, 8, 9, 10, 11, 12, 13, 14, 15]]) = some mf23 := by kernel_rfl
theorem at23 : Tryd.prog.funcs[23]? = some Tryd.f23 := by kernel_rfl
def lp24x0 : MC := .seq (.seq (.region [⟨none, .mv (.var 4), none⟩, ⟨none, .mv (.var 1), none⟩, ⟨some 5, .bin .lss (.tmp 0) (.tmp 1), none⟩]) (.cond (.var 5) .skip (.exit 0))) (.seq (.seq (.block 1 (.seq (.region [⟨none, .mv (.var 0), none⟩, ⟨none, .mv (.var 4), none⟩, ⟨none, .bin .shr (.tmp 0) (.tmp 1), none⟩, ⟨none, .bin .rem (.tmp 2) (.cst (.int .i64 2)), none⟩, ⟨some 6, .bin .eql (.tmp 3) (.cst (.int .i64 1)), none⟩]) (.cond (.var 6) (.region [⟨none, .mv (.var 3), none⟩, ⟨none, .mv (.var 4), none⟩, ⟨none, .buildF 1 [.tmp 1], none⟩, ⟨none, .append 1 8 (.tmp 0) (.tmp 2), none⟩, ⟨some 3, .mv (.tmp 3), none⟩]) .skip))) (.kill [2, 5, 6])) (.region [⟨none, .mv (.var 4), none⟩, ⟨none, .bin .add (.tmp 0) (.cst (.int .i64 1)), none⟩, ⟨some 4, .mv (.tmp 1), none⟩]))
def mf24 : MFun := ⟨2, 7, .seq (.region [⟨some 2, .mv (.cst .nilS), none⟩]) (.seq (.region [⟨none, .mv (.var 0), none⟩, ⟨none, .mv (.var 1), none⟩, ⟨none, .bin .shl (.cst (.int .i64 1)) (.tmp 1), none⟩, ⟨none, .call (.fn 25) [.tmp 0, .tmp 2], none⟩, ⟨some 0, .mv (.tmp 3), none⟩]) (.seq (.region [⟨some 3, .mv (.cst .nilS), none⟩]) (.seq (.seq (.region [⟨some 4, .mv (.cst (.int .i64 0)), none⟩]) (.seq (.block 0 (.loop [2, 5, 6] lp24x0)) (.kill [0, 1, 2, 4, 5, 6]))) (.seq (.region [⟨none, .mv (.var 3), none⟩, ⟨some 2, .mv (.tmp 0), none⟩]) .ret)))), [.tmp 2]⟩
def mask24x0 : List Nat := [2, 5, 6]
abbrev st24x0 (v0 v1 v3 v4 : AV) : List AV := [v0, v1, .undef, v3, v4, .undef, .undef]
theorem cl24x0 {v0 v1 d2 v3 v4 d5 d6 : AV} : clear mask24x0 [v0, v1, d2, v3, v4, d5, d6] = st24x0 v0 v1 v3 v4 := by simp only [mask24x0, clear, List.foldl_cons, List.foldl_nil, List.set_cons_zero, List.set_cons_succ]
theorem go24x0 {E : Env} {fuel : Nat} {A : Arena} {o : Out} {k : List KC} {v0 v1 d2 v3 v4 d5 d6 : AV} (h : iter (evC E fuel lp24x0) mask24x0 fuel (st24x0 v0 v1 v3 v4) A = some o) :
    run E fuel (.code (.loop [2, 5, 6] lp24x0) :: k) [v0, v1, d2, v3, v4, d5, d6] A = after E fuel k o := run_loopC mask24x0 _ _ (by rw [cl24x0]; exact h)
set_option maxHeartbeats 4000000 in
theorem comp24 : compFun Tryd.prog Tryd.f24 2 [0, 1, 4, 5, 6, 13, 20] [] true ([[2, 5, 6]], [[2, 5, 6], [0, 1, 2, 4, 5, 6]]) = some mf24 := by kernel_rfl
theorem at24 : Tryd.prog.funcs[24]? = some Tryd.f24 := by kernel_rfl
def mf25 : MFun := ⟨2, 4, .seq (.region [⟨some 2, .mv (.cst (.int .i64 0)), none⟩]) (.seq (.seq (.region [⟨none, .mv (.var 0), none⟩, ⟨some 3, .bin .lss (.tmp 0) (.cst (.int .i64 0)), none⟩]) (.cond (.var 3) (.region [⟨none, .mv (.var 0), none⟩, ⟨none, .bin .add (.tmp 0) (.cst (.int .i64 1)), none⟩, ⟨none, .un .neg (.tmp 1), none⟩, ⟨some 0, .mv (.tmp 2), none⟩]) .skip)) (.seq (.region [⟨none, .mv (.var 0), none⟩, ⟨none, .mv (.var 1), none⟩, ⟨none, .bin .rem (.tmp 0) (.tmp 1), none⟩, ⟨some 2, .mv (.tmp 2), none⟩]) .ret)), [.tmp 2]⟩
set_option maxHeartbeats 4000000 in
theorem comp25 : compFun Tryd.prog Tryd.f25 2 [0, 1, 4, 6] [] true ([], []) = some mf25 := by kernel_rfl
theorem at25 : Tryd.prog.funcs[25]? = some Tryd.f25 := by kernel_rfl
def mf26 : MFun := ⟨2, 4, .seq (.region [⟨some 2, .mv (.cst (.int .i64 0)), none⟩]) (.seq (.seq (.region [⟨none, .mv (.var 0), none⟩, ⟨some 3, .bin .lss (.tmp 0) (.cst (.int .i64 0)), none⟩]) (.cond (.var 3) (.region [⟨none, .mv (.var 0), none⟩, ⟨none, .bin .add (.tmp 0) (.cst (.int .i64 1)), none⟩, ⟨none, .un .neg (.tmp 1), none⟩, ⟨some 0, .mv (.tmp 2), none⟩]) .skip)) (.seq (.region [⟨none, .mv (.var 0), none⟩, ⟨none, .mv (.var 1), none⟩, ⟨none, .bin .rem (.tmp 0) (.tmp 1), none⟩, ⟨some 2, .mv (.tmp 2), none⟩]) .ret)), [.tmp 2]⟩
set_option maxHeartbeats 4000000 in
theorem comp26 : compFun Tryd.prog Tryd.f26 2 [0, 1, 4, 6] [] true ([], []) = some mf26 := by kernel_rfl
theorem at26 : Tryd.prog.funcs[26]? = some Tryd.f26 := by kernel_rfl
def lp27x0 : MC := .seq (.region [⟨some 15, .bin .lss (.var 14) (.var 13), none⟩]) (.seq (.cond (.var 15) .skip (.exit 0)) (.seq (.seq (.block 1 (.seq (.region [⟨none, .indexSl 1 (.var 12) (.var 14), none⟩, ⟨none, .load false 1 (.tmp 0), none⟩, ⟨some 5, .mv (.tmp 1), none⟩]) (.region [⟨none, .mv (.var 4), none⟩, ⟨none, .mv (.var 5), none⟩, ⟨none, .mapUpdate 1 (.tmp 0) (.tmp 1) (.cst (.int .u64 0)), none⟩]))) (.kill [0, 2, 3, 5, 6, 7, 8, 9, 10, 11, 15, 16, 17, 18, 19, 20, 21, 22, 23, 24])) (.region [⟨none, .bin .add (.var 14) (.cst (.int .i64 1)), none⟩, ⟨some 14, .mv (.tmp 0), none⟩])))
def lp27x1 : MC := .seq (.region [⟨some 23, .bin .lss (.var 22) (.var 21), none⟩]) (.seq (.cond (.var 23) .skip (.exit 4)) (.seq (.seq (.block 5 (.seq (.region [⟨none, .indexSl 1 (.var 20) (.var 22), none⟩, ⟨none, .load false 1 (.tmp 0), none⟩, ⟨some 8, .mv (.tmp 1), none⟩]) (.seq (.region [⟨none, .mv (.var 4), none⟩, ⟨none, .mv (.var 8), none⟩, ⟨none, .lookup 1 true (.int .u64 0) (.tmp 0) (.tmp 1), none⟩, ⟨none, .mv (.tmp 2), none⟩, ⟨none, .extract (.tmp 3) 0, none⟩, ⟨none, .extract (.tmp 3) 1, none⟩, ⟨some 9, .mv (.tmp 4), none⟩, ⟨some 10, .mv (.tmp 5), none⟩]) (.seq (.region [⟨some 24, .mv (.var 10), none⟩]) (.cond (.var 24) (.region [⟨none, .mv (.var 4), none⟩, ⟨none, .mv (.var 8), none⟩, ⟨none, .mv (.var 9), none⟩, ⟨none, .mv (.var 6), none⟩, ⟨none, .bin .shl (.cst (.int .u64 1)) (.tmp 3), none⟩, ⟨none, .bin .or (.tmp 2) (.tmp 4), none⟩, ⟨none, .mapUpdate 1 (.tmp 0) (.tmp 1) (.tmp 5), none⟩]) .skip))))) (.kill [0, 1, 2, 3, 5, 7, 8, 9, 10, 11, 12, 13, 14, 15, 19, 23, 24])) (.region [⟨none, .bin .add (.var 22) (.cst (.int .i64 1)), none⟩, ⟨some 22, .mv (.tmp 0), none⟩])))
def lp27x2 : MC := .seq (.region [⟨some 19, .bin .lss (.var 18) (.var 17), none⟩]) (.seq (.cond (.var 19) .skip (.exit 2)) (.seq (.seq (.block 3 (.seq (.region [⟨none, .mv (.var 18), none⟩, ⟨none, .indexSl 1 (.var 16) (.var 18), none⟩, ⟨none, .load true 1 (.tmp 1), none⟩, ⟨some 7, .alloc 1 (.agg [.nilS]), none⟩, ⟨some 6, .mv (.tmp 0), none⟩, ⟨none, .store 1 (.var 7) (.tmp 2), none⟩]) (.seq (.region [⟨none, .fieldAddr 0 (.var 7), none⟩, ⟨some 20, .load false 1 (.tmp 0), none⟩, ⟨some 21, .lenSl (.var 20), none⟩, ⟨some 22, .mv (.cst (.int .i64 0)), none⟩]) (.seq (.block 4 (.loop [0, 1, 2, 3, 5, 7, 8, 9, 10, 11, 12, 13, 14, 15, 19, 23, 24] lp27x1)) (.kill [0, 1, 2, 3, 5, 6, 7, 8, 9, 10, 11, 12, 13, 14, 15, 19, 20, 21, 22, 23, 24]))))) (.kill [0, 1, 2, 3, 5, 6, 7, 8, 9, 10, 11, 12, 13, 14, 15, 19, 20, 21, 22, 23, 24])) (.region [⟨none, .bin .add (.var 18) (.cst (.int .i64 1)), none⟩, ⟨some 18, .mv (.tmp 0), none⟩])))
def mf27 : MFun := ⟨2, 25, .seq (.region [⟨some 2, .mv (.cst .nilM), none⟩, ⟨some 3, .mv (.cst (.bool false)), none⟩]) (.seq (.seq (.region [⟨none, .mv (.var 0), none⟩, ⟨none, .call (.fn 36) [.tmp 0], none⟩, ⟨none, .un .not (.tmp 1), none⟩, ⟨none, .mv (.tmp 2), none⟩, ⟨none, .mv (.var 1), some (.tmp 3, false)⟩, ⟨none, .call (.fn 17) [.tmp 4], some (.tmp 3, false)⟩, ⟨none, .un .not (.tmp 5), some (.tmp 3, false)⟩, ⟨some 11, .pick (.tmp 3) (.cst (.bool true)) (.tmp 6), none⟩]) (.cond (.var 11) (.seq (.region [⟨some 2, .mv (.cst .nilM), none⟩, ⟨some 3, .mv (.cst (.bool false)), none⟩]) .ret) .skip)) (.seq (.region [⟨none, .makeMap, none⟩, ⟨some 4, .mv (.tmp 0), none⟩]) (.seq (.seq (.region [⟨some 12, .mv (.var 0), none⟩, ⟨some 13, .lenSl (.var 12), none⟩, ⟨some 14, .mv (.cst (.int .i64 0)), none⟩]) (.seq (.block 0 (.loop [0, 2, 3, 5, 6, 7, 8, 9, 10, 11, 15, 16, 17, 18, 19, 20, 21, 22, 23, 24] lp27x0)) (.kill [0, 2, 3, 5, 6, 7, 8, 9, 10, 11, 12, 13, 14, 15, 16, 17, 18, 19, 20, 21, 22, 23, 24]))) (.seq (.seq (.region [⟨some 16, .mv (.var 1), none⟩, ⟨some 17, .lenSl (.var 16), none⟩, ⟨some 18, .mv (.cst (.int .i64 0)), none⟩]) (.seq (.block 2 (.loop [0, 1, 2, 3, 5, 6, 7, 8, 9, 10, 11, 12, 13, 14, 15, 19, 20, 21, 22, 23, 24] lp27x2)) (.kill [0, 1, 2, 3, 5, 6, 7, 8, 9, 10, 11, 12, 13, 14, 15, 16, 17, 18, 19, 20, 21, 22, 23, 24]))) (.seq (.region [⟨none, .mv (.var 4), none⟩, ⟨some 2, .mv (.tmp 0), none⟩, ⟨some 3, .mv (.cst (.bool true)), none⟩]) .ret))))), [.tmp 2, .tmp 3]⟩
def mask27x1 : List Nat := [0, 1, 2, 3, 5, 7, 8, 9, 10, 11, 12, 13, 14, 15, 19, 23, 24]
abbrev st27x1 (v4 v6 v16 v17 v18 v20 v21 v22 : AV) : List AV := [.undef, .undef, .undef, .undef, v4, .undef, v6, .undef, .undef, .undef, .undef, .undef, .undef, .undef, .undef, .undef, v16, v17, v18, .undef, v20, v21, v22, .undef, .undef]
theorem cl27x1 {d0 d1 d2 d3 v4 d5 v6 d7 d8 d9 d10 d11 d12 d13 d14 d15 v16 v17 v18 d19 v20 v21 v22 d23 d24 : AV} : clear mask27x1 [d0, d1, d2, d3, v4, d5, v6, d7, d8, d9, d10, d11, d12, d13, d14, d15, v16, v17, v18, d19, v20, v21, v22, d23, d24] = st27x1 v4 v6 v16 v17 v18 v20 v21 v22 := by simp only [mask27x1, clear, List.foldl_cons, List.foldl_nil, List.set_cons_zero, List.set_cons_succ]
theorem go27x1 {E : Env} {fuel : Nat} {A : Arena} {o : Out} {k : List KC} {d0 d1 d2 d3 v4 d5 v6 d7 d8 d9 d10 d11 d12 d13 d14 d15 v16 v17 v18 d19 v20 v21 v22 d23 d24 : AV} (h : iter (evC E fuel lp27x1) mask27x1 fuel (st27x1 v4 v6 v16 v17 v18 v20 v21 v22) A = some o) :
    run E fuel (.code (.loop [0, 1, 2, 3, 5, 7, 8, 9, 10, 11, 12, 13, 14, 15, 19, 23, 24] lp27x1) :: k) [d0, d1, d2, d3, v4, d5, v6, d7, d8, d9, d10, d11, d12, d13, d14, d15, v16, v17, v18, d19, v20, v21, v22, d23, d24] A = after E fuel k o := run_loopC mask27x1 _ _ (by rw [cl27x1]; exact h)
def mask27x0 : List Nat := [0, 2, 3, 5, 6, 7, 8, 9, 10, 11, 15, 16, 17, 18, 19, 20, 21, 22, 23, 24]
abbrev st27x0 (v1 v4 v12 v13 v14 : AV) : List AV := [.undef, v1, .undef, .undef, v4, .undef, .undef, .undef, .undef, .undef, .undef, .undef, v12, v13, v14, .undef, .undef, .undef, .undef, .undef, .undef, .undef, .undef, .undef, .undef]
theorem cl27x0 {d0 v1 d2 d3 v4 d5 d6 d7 d8 d9 d10 d11 v12 v13 v14 d15 d16 d17 d18 d19 d20 d21 d22 d23 d24 : AV} : clear mask27x0 [d0, v1, d2, d3, v4, d5, d6, d7, d8, d9, d10, d11, v12, v13, v14, d15, d16, d17, d18, d19, d20, d21, d22, d23, d24] = st27x0 v1 v4 v12 v13 v14 := by simp only [mask27x0, clear, List.foldl_cons, List.foldl_nil, List.set_cons_zero, List.set_cons_succ]
theorem go27x0 {E : Env} {fuel : Nat} {A : Arena} {o : Out} {k : List KC} {d0 v1 d2 d3 v4 d5 d6 d7 d8 d9 d10 d11 v12 v13 v14 d15 d16 d17 d18 d19 d20 d21 d22 d23 d24 : AV} (h : iter (evC E fuel lp27x0) mask27x0 fuel (st27x0 v1 v4 v12 v13 v14) A = some o) :
    run E fuel (.code (.loop [0, 2, 3, 5, 6, 7, 8, 9, 10, 11, 15, 16, 17, 18, 19, 20, 21, 22, 23, 24] lp27x0) :: k) [d0, v1, d2, d3, v4, d5, d6, d7, d8, d9, d10, d11, v12, v13, v14, d15, d16, d17, d18, d19, d20, d21, d22, d23, d24] A = after E fuel k o := run_loopC mask27x0 _ _ (by rw [cl27x0]; exact h)
def mask27x2 : List Nat := [0, 1, 2, 3, 5, 6, 7, 8, 9, 10, 11, 12, 13, 14, 15, 19, 20, 21, 22, 23, 24]
abbrev st27x2 (v4 v16 v17 v18 : AV) : List AV := [.undef, .undef, .undef, .undef, v4, .undef, .undef, .undef, .undef, .undef, .undef, .undef, .undef, .undef, .undef, .undef, v16, v17, v18, .undef, .undef, .undef, .undef, .undef, .undef]
theorem cl27x2 {d0 d1 d2 d3 v4 d5 d6 d7 d8 d9 d10 d11 d12 d13 d14 d15 v16 v17 v18 d19 d20 d21 d22 d23 d24 : AV} : clear mask27x2 [d0, d1, d2, d3, v4, d5, d6, d7, d8, d9, d10, d11, d12, d13, d14, d15, v16, v17, v18, d19, d20, d21, d22, d23, d24] = st27x2 v4 v16 v17 v18 := by simp only [mask27x2, clear, List.foldl_cons, List.foldl_nil, List.set_cons_zero, List.set_cons_succ]
theorem go27x2 {E : Env} {fuel : Nat} {A : Arena} {o : Out} {k : List KC} {d0 d1 d2 d3 v4 d5 d6 d7 d8 d9 d10 d11 d12 d13 d14 d15 v16 v17 v18 d19 d20 d21 d22 d23 d24 : AV} (h : iter (evC E fuel lp27x2) mask27x2 fuel (st27x2 v4 v16 v17 v18) A = some o) :
    run E fuel (.code (.loop [0, 1, 2, 3, 5, 6, 7, 8, 9, 10, 11, 12, 13, 14, 15, 19, 20, 21, 22, 23, 24] lp27x2) :: k) [d0, d1, d2, d3, v4, d5, d6, d7, d8, d9, d10, d11, d12, d13, d14, d15, v16, v17, v18, d19, d20, d21, d22, d23, d24] A = after E fuel k o := run_loopC mask27x2 _ _ (by rw [cl27x2]; exact h)
set_option maxHeartbeats 4000000 in
theorem comp27 : compFun Tryd.prog Tryd.f27 2 [0, 1, 4, 5, 6, 8, 9, 10, 12, 13, 14, 22, 24, 25, 26, 27, 33, 34, 35, 36, 41, 42, 43, 44, 53] [] true ([[0, 2, 3, 5, 6, 7, 8, 9, 10, 11, 15, 16, 17, 18, 19, 20, 21, 22, 23, 24], [0, 1, 2, 3, 5, 6, 7, 8, 9, 10, 11, 12, 13, 14, 15, 19, 20, 21, 22, 23, 24], [0, 1, 2, 3, 5, 7, 8, 9, 10, 11, 12, 13, 14, 15, 19, 23, 24]], [[0, 2, 3, 5, 6, 7, 8, 9, 10, 11, 15, 16, 17, 18, 19, 20, 21, 22, 23, 24], [0, 2, 3, 5, 6, 7, 8, 9, 10, 11, 12, 13, 14, 15, 16, 17, 18, 19, 20, 21, 22, 23, 24], [0, 1, 2, 3, 5, 7, 8, 9, 10, 11, 12, 13, 14, 15, 19, 23, 24], [0, 1, 2, 3, 5, 6, 7, 8, 9, 10, 11, 12, 13, 14, 15, 19, 20, 21, 22, 23, 24], [0, 1, 2, 3, 5, 6, 7, 8, 9, 10, 11, 12, 13, 14, 15, 19, 20, 21, 22, 23, 24], [0, 1, 2, 3, 5, 6, 7, 8, 9, 10, 11, 12, 13, 14, 15, 16, 17, 18, 19, 20, 21, 22, 23, 24]]) = some mf27 := by kernel_rfl
theorem at27 : Tryd.prog.funcs[27]? = some Tryd.f27 := by kernel_rfl
def mf28 : MFun := ⟨2, 5, .seq (.region [⟨some 2, .box (.var 0), none⟩, ⟨some 3, .box (.var 1), none⟩, ⟨some 4, .mv (.cst .nilF), none⟩]) (.seq (.region [⟨none, .makeFunc (.func 38) [] [.var 2, .var 3], none⟩, ⟨some 4, .mv (.tmp 0), none⟩]) .ret), [.tmp 4]⟩
set_option maxHeartbeats 4000000 in
theorem comp28 : compFun Tryd.prog Tryd.f28 2 [0, 1, 2, 3, 4] [] true ([], []) = some mf28 := by kernel_rfl
theorem at28 : Tryd.prog.funcs[28]? = some Tryd.f28 := by kernel_rfl
def mf30 : MFun := ⟨1, 2, .seq (.region [⟨some 1, .mv (.cst (.int .i64 0)), none⟩]) (.seq (.cond (.cst (.bool false)) (.seq (.region [⟨none, .mv (.var 0), none⟩, ⟨none, .convInt .u32 (.tmp 0), none⟩, ⟨none, .call (.fn 40) [.tmp 1], none⟩, ⟨some 1, .mv (.tmp 2), none⟩]) .ret) .skip) (.seq (.region [⟨none, .mv (.var 0), none⟩, ⟨none, .call (.fn 41) [.tmp 0], none⟩, ⟨some 1, .mv (.tmp 1), none⟩]) .ret)), [.tmp 1]⟩
set_option maxHeartbeats 4000000 in
theorem comp30 : compFun Tryd.prog Tryd.f30 1 [0, 2] [] true ([], []) = some mf30 := by kernel_rfl
theorem at30 : Tryd.prog.funcs[30]? = some Tryd.f30 := by kernel_rfl
def lp31x0 : MC := .seq (.seq (.region [⟨none, .mv (.var 2), none⟩, ⟨none, .mv (.var 0), none⟩, ⟨none, .lenSl (.tmp 1), none⟩, ⟨some 3, .bin .lss (.tmp 0) (.tmp 2), none⟩]) (.cond (.var 3) .skip (.exit 0))) (.seq (.seq (.block 1 (.seq (.region [⟨none, .mv (.var 0), none⟩, ⟨none, .mv (.var 2), none⟩, ⟨none, .indexSl 1 (.tmp 0) (.tmp 1), none⟩, ⟨none, .load false 1 (.tmp 2), none⟩, ⟨none, .bin .lss (.tmp 3) (.cst (.int .i64 1)), none⟩, ⟨none, .mv (.tmp 4), none⟩, ⟨none, .mv (.var 0), some (.tmp 5, false)⟩, ⟨none, .mv (.var 2), some (.tmp 5, false)⟩, ⟨none, .indexSl 1 (.tmp 6) (.tmp 7), some (.tmp 5, false)⟩, ⟨none, .load false 1 (.tmp 8), some (.tmp 5, false)⟩, ⟨none, .bin .gtr (.tmp 9) (.cst (.int .i64 1000000)), some (.tmp 5, false)⟩, ⟨none, .pick (.tmp 5) (.cst (.bool true)) (.tmp 10), none⟩, ⟨none, .mv (.tmp 11), none⟩, ⟨none, .mv (.var 2), some (.tmp 12, false)⟩, ⟨none, .bin .gtr (.tmp 13) (.cst (.int .i64 0)), some (.tmp 12, false)⟩, ⟨none, .mv (.tmp 14), some (.tmp 12, false)⟩, ⟨none, .mv (.var 0), some (.tmp 15, true)⟩, ⟨none, .mv (.var 2), some (.tmp 15, true)⟩, ⟨none, .bin .sub (.tmp 17) (.cst (.int .i64 1)), some (.tmp 15, true)⟩, ⟨none, .indexSl 1 (.tmp 16) (.tmp 18), some (.tmp 15, true)⟩, ⟨none, .load false 1 (.tmp 19), some (.tmp 15, true)⟩, ⟨none, .mv (.var 0), some (.tmp 15, true)⟩, ⟨none, .mv (.var 2), some (.tmp 15, true)⟩, ⟨none, .indexSl 1 (.tmp 21) (.tmp 22), some (.tmp 15, true)⟩, ⟨none, .load false 1 (.tmp 23), some (.tmp 15, true)⟩, ⟨none, .bin .geq (.tmp 20) (.tmp 24), some (.tmp 15, true)⟩, ⟨none, .pick (.tmp 15) (.tmp 25) (.cst (.bool false)), some (.tmp 12, false)⟩, ⟨some 4, .pick (.tmp 12) (.cst (.bool true)) (.tmp 26), none⟩]) (.cond (.var 4) (.seq (.region [⟨some 1, .mv (.cst (.bool false)), none⟩]) .ret) .skip))) (.kill [1, 3, 4])) (.region [⟨none, .mv (.var 2), none⟩, ⟨none, .bin .add (.tmp 0) (.cst (.int .i64 1)), none⟩, ⟨some 2, .mv (.tmp 1), none⟩]))
def mf31 : MFun := ⟨1, 5, .seq (.region [⟨some 1, .mv (.cst (.bool false)), none⟩]) (.seq (.seq (.region [⟨some 2, .mv (.cst (.int .i64 0)), none⟩]) (.seq (.block 0 (.loop [1, 3, 4] lp31x0)) (.kill [1, 2, 3, 4]))) (.seq (.region [⟨none, .mv (.var 0), none⟩, ⟨none, .lenSl (.tmp 0), none⟩, ⟨none, .bin .leq (.tmp 1) (.cst (.int .i64 100)), none⟩, ⟨some 1, .mv (.tmp 2), none⟩]) .ret)), [.tmp 1]⟩
def mask31x0 : List Nat := [1, 3, 4]
abbrev st31x0 (v0 v2 : AV) : List AV := [v0, .undef, v2, .undef, .undef]
theorem cl31x0 {v0 d1 v2 d3 d4 : AV} : clear mask31x0 [v0, d1, v2, d3, d4] = st31x0 v0 v2 := by simp only [mask31x0, clear, List.foldl_cons, List.foldl_nil, List.set_cons_zero, List.set_cons_succ]
theorem go31x0 {E : Env} {fuel : Nat} {A : Arena} {o : Out} {k : List KC} {v0 d1 v2 d3 d4 : AV} (h : iter (evC E fuel lp31x0) mask31x0 fuel (st31x0 v0 v2) A = some o) :
    run E fuel (.code (.loop [1, 3, 4] lp31x0) :: k) [v0, d1, v2, d3, d4] A = after E fuel k o := run_loopC mask31x0 _ _ (by rw [cl31x0]; exact h)
set_option maxHeartbeats 4000000 in
theorem comp31 : compFun Tryd.prog Tryd.f31 1 [0, 2, 3, 7, 37] [] true ([[1, 3, 4]], [[1, 3, 4], [1, 2, 3, 4]]) = some mf31 := by kernel_rfl
theorem at31 : Tryd.prog.funcs[31]? = some Tryd.f31 := by kernel_rfl
def lp32x0 : MC := .seq (.seq (.region [⟨none, .mv (.var 7), none⟩, ⟨none, .mv (.var 0), none⟩, ⟨none, .lenSl (.tmp 1), none⟩, ⟨none, .bin .lss (.tmp 0) (.tmp 2), none⟩, ⟨none, .mv (.tmp 3), none⟩, ⟨none, .mv (.var 7), some (.tmp 4, true)⟩, ⟨none, .mv (.var 2), some (.tmp 4, true)⟩, ⟨none, .bin .add (.tmp 6) (.cst (.int .i64 62)), some (.tmp 4, true)⟩, ⟨none, .bin .lss (.tmp 5) (.tmp 7), some (.tmp 4, true)⟩, ⟨some 9, .pick (.tmp 4) (.tmp 8) (.cst (.bool false)), none⟩]) (.cond (.var 9) .skip (.exit 2))) (.seq (.seq (.block 3 (.seq (.region [⟨none, .mv (.var 1), none⟩, ⟨none, .mv (.var 5), none⟩, ⟨none, .indexSl 1 (.tmp 0) (.tmp 1), none⟩, ⟨none, .fieldAddr 0 (.tmp 2), none⟩, ⟨none, .load false 1 (.tmp 3), none⟩, ⟨none, .mv (.var 0), none⟩, ⟨none, .mv (.var 7), none⟩, ⟨none, .indexSl 1 (.tmp 5) (.tmp 6), none⟩, ⟨none, .load false 1 (.tmp 7), none⟩, ⟨some 10, .call (.fn 37) [.tmp 4, .tmp 8], none⟩]) (.cond (.var 10) (.region [⟨none, .mv (.var 6), none⟩, ⟨none, .mv (.var 7), none⟩, ⟨none, .mv (.var 2), none⟩, ⟨none, .bin .sub (.tmp 1) (.tmp 2), none⟩, ⟨none, .bin .shl (.cst (.int .i64 1)) (.tmp 3), none⟩, ⟨none, .bin .or (.tmp 0) (.tmp 4), none⟩, ⟨some 6, .mv (.tmp 5), none⟩]) .skip))) (.kill [3, 8, 9, 10])) (.region [⟨none, .mv (.var 7), none⟩, ⟨none, .bin .add (.tmp 0) (.cst (.int .i64 1)), none⟩, ⟨some 7, .mv (.tmp 1), none⟩]))
def lp32x1 : MC := .seq (.seq (.region [⟨none, .mv (.var 5), none⟩, ⟨none, .mv (.var 1), none⟩, ⟨none, .lenSl (.tmp 1), none⟩, ⟨some 8, .bin .lss (.tmp 0) (.tmp 2), none⟩]) (.cond (.var 8) .skip (.exit 0))) (.seq (.seq (.block 1 (.seq (.region [⟨some 6, .mv (.cst (.int .i64 0)), none⟩]) (.seq (.seq (.region [⟨none, .mv (.var 2), none⟩, ⟨some 7, .mv (.tmp 0), none⟩]) (.seq (.block 2 (.loop [3, 8, 9, 10] lp32x0)) (.kill [3, 7, 8, 9, 10]))) (.region [⟨none, .mv (.var 4), none⟩, ⟨none, .mv (.var 6), none⟩, ⟨none, .buildF 1 [.tmp 1], none⟩, ⟨none, .append 1 8 (.tmp 0) (.tmp 2), none⟩, ⟨some 4, .mv (.tmp 3), none⟩])))) (.kill [3, 6, 7, 8, 9, 10])) (.region [⟨none, .mv (.var 5), none⟩, ⟨none, .bin .add (.tmp 0) (.cst (.int .i64 1)), none⟩, ⟨some 5, .mv (.tmp 1), none⟩]))
def mf32 : MFun := ⟨3, 11, .seq (.region [⟨some 3, .mv (.cst .nilS), none⟩]) (.seq (.region [⟨some 4, .mv (.cst .nilS), none⟩]) (.seq (.seq (.region [⟨some 5, .mv (.cst (.int .i64 0)), none⟩]) (.seq (.block 0 (.loop [3, 6, 7, 8, 9, 10] lp32x1)) (.kill [0, 1, 2, 3, 5, 6, 7, 8, 9, 10]))) (.seq (.region [⟨none, .mv (.var 4), none⟩, ⟨some 3, .mv (.tmp 0), none⟩]) .ret))), [.tmp 3]⟩
def mask32x0 : List Nat := [3, 8, 9, 10]
abbrev st32x0 (v0 v1 v2 v4 v5 v6 v7 : AV) : List AV := [v0, v1, v2, .undef, v4, v5, v6, v7, .undef, .undef, .undef]
theorem cl32x0 {v0 v1 v2 d3 v4 v5 v6 v7 d8 d9 d10 : AV} : clear mask32x0 [v0, v1, v2, d3, v4, v5, v6, v7, d8, d9, d10] = st32x0 v0 v1 v2 v4 v5 v6 v7 := by simp only [mask32x0, clear, List.foldl_cons, List.foldl_nil, List.set_cons_zero, List.set_cons_succ]
theorem go32x0 {E : Env} {fuel : Nat} {A : Arena} {o : Out} {k : List KC} {v0 v1 v2 d3 v4 v5 v6 v7 d8 d9 d10 : AV} (h : iter (evC E fuel lp32x0) mask32x0 fuel (st32x0 v0 v1 v2 v4 v5 v6 v7) A = some o) :
    run E fuel (.code (.loop [3, 8, 9, 10] lp32x0) :: k) [v0, v1, v2, d3, v4, v5, v6, v7, d8, d9, d10] A = after E fuel k o := run_loopC mask32x0 _ _ (by rw [cl32x0]; exact h)
def mask32x1 : List Nat := [3, 6, 7, 8, 9, 10]
abbrev st32x1 (v0 v1 v2 v4 v5 : AV) : List AV := [v0, v1, v2, .undef, v4, v5, .undef, .undef, .undef, .undef, .undef]
theorem cl32x1 {v0 v1 v2 d3 v4 v5 d6 d7 d8 d9 d10 : AV} : clear mask32x1 [v0, v1, v2, d3, v4, v5, d6, d7, d8, d9, d10] = st32x1 v0 v1 v2 v4 v5 := by simp only [mask32x1, clear, List.foldl_cons, List.foldl_nil, List.set_cons_zero, List.set_cons_succ]
theorem go32x1 {E : Env} {fuel : Nat} {A : Arena} {o : Out} {k : List KC} {v0 v1 v2 d3 v4 v5 d6 d7 d8 d9 d10 : AV} (h : iter (evC E fuel lp32x1) mask32x1 fuel (st32x1 v0 v1 v2 v4 v5) A = some o) :
    run E fuel (.code (.loop [3, 6, 7, 8, 9, 10] lp32x1) :: k) [v0, v1, v2, d3, v4, v5, d6, d7, d8, d9, d10] A = after E fuel k o := run_loopC mask32x1 _ _ (by rw [cl32x1]; exact h)
set_option maxHeartbeats 4000000 in
theorem comp32 : compFun Tryd.prog Tryd.f32 3 [0, 1, 2, 6, 7, 8, 9, 10, 14, 27, 39] [37] true ([[3, 6, 7, 8, 9, 10], [3, 8, 9, 10]], [[3, 8, 9, 10], [3, 7, 8, 9, 10], [3, 6, 7, 8, 9, 10], [0, 1, 2, 3, 5, 6, 7, 8, 9, 10]]) = some mf32 := by kernel_rfl
theorem at32 : Tryd.prog.funcs[32]? = some Tryd.f32 := by kernel_rfl
def lp33x0 : MC := .seq (.seq (.region [⟨none, .mv (.var 3), none⟩, ⟨none, .mv (.var 0), none⟩, ⟨none, .lenSl (.tmp 1), none⟩, ⟨some 5, .bin .lss (.tmp 0) (.tmp 2), none⟩]) (.cond (.var 5) .skip (.exit 0))) (.seq (.seq (.block 1 (.seq (.region [⟨none, .mv (.var 0), none⟩, ⟨none, .mv (.var 3), none⟩, ⟨none, .indexSl 1 (.tmp 0) (.tmp 1), none⟩, ⟨none, .load false 1 (.tmp 2), none⟩, ⟨none, .mv (.var 1), none⟩, ⟨none, .mv (.var 3), none⟩, ⟨none, .indexSl 1 (.tmp 4) (.tmp 5), none⟩, ⟨none, .load false 1 (.tmp 6), none⟩, ⟨some 6, .bin .neq (.tmp 3) (.tmp 7), none⟩]) (.cond (.var 6) (.seq (.region [⟨none, .mv (.var 0), none⟩, ⟨none, .mv (.var 3), none⟩, ⟨none, .indexSl 1 (.tmp 0) (.tmp 1), none⟩, ⟨none, .load false 1 (.tmp 2), none⟩, ⟨none, .mv (.var 1), none⟩, ⟨none, .mv (.var 3), none⟩, ⟨none, .indexSl 1 (.tmp 4) (.tmp 5), none⟩, ⟨none, .load false 1 (.tmp 6), none⟩, ⟨none, .bin .lss (.tmp 3) (.tmp 7), none⟩, ⟨some 2, .mv (.tmp 8), none⟩]) .ret) .skip))) (.kill [2, 4, 5, 6])) (.region [⟨none, .mv (.var 3), none⟩, ⟨none, .bin .add (.tmp 0) (.cst (.int .i64 1)), none⟩, ⟨some 3, .mv (.tmp 1), none⟩]))
def mf33 : MFun := ⟨2, 7, .seq (.region [⟨some 2, .mv (.cst (.bool false)), none⟩]) (.seq (.seq (.region [⟨none, .mv (.var 0), none⟩, ⟨none, .lenSl (.tmp 0), none⟩, ⟨none, .mv (.var 1), none⟩, ⟨none, .lenSl (.tmp 2), none⟩, ⟨some 4, .bin .neq (.tmp 1) (.tmp 3), none⟩]) (.cond (.var 4) (.seq (.region [⟨none, .mv (.var 0), none⟩, ⟨none, .lenSl (.tmp 0), none⟩, ⟨none, .mv (.var 1), none⟩, ⟨none, .lenSl (.tmp 2), none⟩, ⟨none, .bin .lss (.tmp 1) (.tmp 3), none⟩, ⟨some 2, .mv (.tmp 4), none⟩]) .ret) .skip)) (.seq (.seq (.region [⟨some 3, .mv (.cst (.int .i64 0)), none⟩]) (.seq (.block 0 (.loop [2, 4, 5, 6] lp33x0)) (.kill [0, 1, 2, 3, 4, 5, 6]))) (.seq (.region [⟨some 2, .mv (.cst (.bool false)), none⟩]) .ret))), [.tmp 2]⟩
def mask33x0 : List Nat := [2, 4, 5, 6]
abbrev st33x0 (v0 v1 v3 : AV) : List AV := [v0, v1, .undef, v3, .undef, .undef, .undef]
theorem cl33x0 {v0 v1 d2 v3 d4 d5 d6 : AV} : clear mask33x0 [v0, v1, d2, v3, d4, d5, d6] = st33x0 v0 v1 v3 := by simp only [mask33x0, clear, List.foldl_cons, List.foldl_nil, List.set_cons_zero, List.set_cons_succ]
theorem go33x0 {E : Env} {fuel : Nat} {A : Arena} {o : Out} {k : List KC} {v0 v1 d2 v3 d4 d5 d6 : AV} (h : iter (evC E fuel lp33x0) mask33x0 fuel (st33x0 v0 v1 v3) A = some o) :
    run E fuel (.code (.loop [2, 4, 5, 6] lp33x0) :: k) [v0, v1, d2, v3, d4, d5, d6] A = after E fuel k o := run_loopC mask33x0 _ _ (by rw [cl33x0]; exact h)
set_option maxHeartbeats 4000000 in
theorem comp33 : compFun Tryd.prog Tryd.f33 2 [0, 1, 4, 5, 10, 19, 30] [] true ([[2, 4, 5, 6]], [[2, 4, 5, 6], [0, 1, 2, 3, 4, 5, 6]]) = some mf33 := by kernel_rfl
theorem at33 : Tryd.prog.funcs[33]? = some Tryd.f33 := by kernel_rfl
def mf34 : MFun := ⟨2, 3, .seq (.region [⟨some 2, .mv (.cst (.bool false)), none⟩]) (.seq (.region [⟨none, .mv (.var 0), none⟩, ⟨none, .mv (.var 1), none⟩, ⟨none, .call (.fn 42) [.tmp 0, .tmp 1], none⟩, ⟨none, .bin .geq (.tmp 2) (.cst (.int .i64 0)), none⟩, ⟨some 2, .mv (.tmp 3), none⟩]) .ret), [.tmp 2]⟩
set_option maxHeartbeats 4000000 in
theorem comp34 : compFun Tryd.prog Tryd.f34 2 [0, 1, 4] [] true ([], []) = some mf34 := by kernel_rfl
theorem at34 : Tryd.prog.funcs[34]? = some Tryd.f34 := by kernel_rfl
def mf35 : MFun := ⟨1, 3, .seq (.region [⟨some 1, .box (.var 0), none⟩, ⟨some 2, .mv (.cst (.bool false)), none⟩]) (.seq (.region [⟨none, .fieldAddr 0 (.var 1), none⟩, ⟨none, .load false 1 (.tmp 0), none⟩, ⟨none, .call (.fn 36) [.tmp 1], none⟩, ⟨none, .un .not (.tmp 2), none⟩, ⟨some 2, .mv (.tmp 3), none⟩]) .ret), [.tmp 2]⟩
set_option maxHeartbeats 4000000 in
theorem comp35 : compFun Tryd.prog Tryd.f35 1 [0, 1, 2] [] true ([], []) = some mf35 := by kernel_rfl
theorem at35 : Tryd.prog.funcs[35]? = some Tryd.f35 := by kernel_rfl
def lp36x0 : MC := .seq (.region [⟨some 7, .bin .lss (.var 6) (.var 5), none⟩]) (.seq (.cond (.var 7) .skip (.exit 0)) (.seq (.seq (.block 1 (.seq (.region [⟨none, .indexSl 1 (.var 4) (.var 6), none⟩, ⟨none, .load false 1 (.tmp 0), none⟩, ⟨some 3, .mv (.tmp 1), none⟩]) (.seq (.seq (.region [⟨none, .mv (.var 3), none⟩, ⟨none, .mv (.var 2), none⟩, ⟨none, .bin .leq (.tmp 0) (.tmp 1), none⟩, ⟨none, .mv (.tmp 2), none⟩, ⟨none, .mv (.var 3), some (.tmp 3, false)⟩, ⟨none, .bin .gtr (.tmp 4) (.cst (.int .i64 1000000)), some (.tmp 3, false)⟩, ⟨some 8, .pick (.tmp 3) (.cst (.bool true)) (.tmp 5), none⟩]) (.cond (.var 8) (.seq (.region [⟨some 1, .mv (.cst (.bool false)), none⟩]) .ret) .skip)) (.region [⟨none, .mv (.var 3), none⟩, ⟨some 2, .mv (.tmp 0), none⟩])))) (.kill [1, 3, 7, 8])) (.region [⟨none, .bin .add (.var 6) (.cst (.int .i64 1)), none⟩, ⟨some 6, .mv (.tmp 0), none⟩])))
def mf36 : MFun := ⟨1, 9, .seq (.region [⟨some 1, .mv (.cst (.bool false)), none⟩]) (.seq (.region [⟨some 2, .mv (.cst (.int .i64 0)), none⟩]) (.seq (.seq (.region [⟨some 4, .mv (.var 0), none⟩, ⟨some 5, .lenSl (.var 4), none⟩, ⟨some 6, .mv (.cst (.int .i64 0)), none⟩]) (.seq (.block 0 (.loop [1, 3, 7, 8] lp36x0)) (.kill [1, 2, 3, 4, 5, 6, 7, 8]))) (.seq (.region [⟨none, .mv (.var 0), none⟩, ⟨none, .lenSl (.tmp 0), none⟩, ⟨none, .bin .leq (.tmp 1) (.cst (.int .i64 100)), none⟩, ⟨some 1, .mv (.tmp 2), none⟩]) .ret))), [.tmp 1]⟩
def mask36x0 : List Nat := [1, 3, 7, 8]
abbrev st36x0 (v0 v2 v4 v5 v6 : AV) : List AV := [v0, .undef, v2, .undef, v4, v5, v6, .undef, .undef]
theorem cl36x0 {v0 d1 v2 d3 v4 v5 v6 d7 d8 : AV} : clear mask36x0 [v0, d1, v2, d3, v4, v5, v6, d7, d8] = st36x0 v0 v2 v4 v5 v6 := by simp only [mask36x0, clear, List.foldl_cons, List.foldl_nil, List.set_cons_zero, List.set_cons_succ]
theorem go36x0 {E : Env} {fuel : Nat} {A : Arena} {o : Out} {k : List KC} {v0 d1 v2 d3 v4 v5 v6 d7 d8 : AV} (h : iter (evC E fuel lp36x0) mask36x0 fuel (st36x0 v0 v2 v4 v5 v6) A = some o) :
    run E fuel (.code (.loop [1, 3, 7, 8] lp36x0) :: k) [v0, d1, v2, d3, v4, v5, v6, d7, d8] A = after E fuel k o := run_loopC mask36x0 _ _ (by rw [cl36x0]; exact h)
set_option maxHeartbeats 4000000 in
theorem comp36 : compFun Tryd.prog Tryd.f36 1 [0, 2, 3, 5, 6, 7, 8, 9, 18] [] true ([[1, 3, 7, 8]], [[1, 3, 7, 8], [1, 2, 3, 4, 5, 6, 7, 8]]) = some mf36 := by kernel_rfl
theorem at36 : Tryd.prog.funcs[36]? = some Tryd.f36 := by kernel_rfl
def lp37x0 : MC := .seq (.seq (.region [⟨none, .mv (.var 3), none⟩, ⟨none, .mv (.var 0), none⟩, ⟨none, .lenSl (.tmp 1), none⟩, ⟨some 4, .bin .lss (.tmp 0) (.tmp 2), none⟩]) (.cond (.var 4) .skip (.exit 0))) (.seq (.seq (.block 1 (.seq (.region [⟨none, .mv (.var 0), none⟩, ⟨none, .mv (.var 3), none⟩, ⟨none, .indexSl 1 (.tmp 0) (.tmp 1), none⟩, ⟨none, .load false 1 (.tmp 2), none⟩, ⟨none, .mv (.var 1), none⟩, ⟨some 5, .bin .eql (.tmp 3) (.tmp 4), none⟩]) (.cond (.var 5) (.seq (.region [⟨some 2, .mv (.cst (.bool true)), none⟩]) .ret) .skip))) (.kill [2, 4, 5])) (.region [⟨none, .mv (.var 3), none⟩, ⟨none, .bin .add (.tmp 0) (.cst (.int .i64 1)), none⟩, ⟨some 3, .mv (.tmp 1), none⟩]))
def mf37 : MFun := ⟨2, 6, .seq (.region [⟨some 2, .mv (.cst (.bool false)), none⟩]) (.seq (.seq (.region [⟨some 3, .mv (.cst (.int .i64 0)), none⟩]) (.seq (.block 0 (.loop [2, 4, 5] lp37x0)) (.kill [0, 1, 2, 3, 4, 5]))) (.seq (.region [⟨some 2, .mv (.cst (.bool false)), none⟩]) .ret)), [.tmp 2]⟩
def mask37x0 : List Nat := [2, 4, 5]
abbrev st37x0 (v0 v1 v3 : AV) : List AV := [v0, v1, .undef, v3, .undef, .undef]
theorem cl37x0 {v0 v1 d2 v3 d4 d5 : AV} : clear mask37x0 [v0, v1, d2, v3, d4, d5] = st37x0 v0 v1 v3 := by simp only [mask37x0, clear, List.foldl_cons, List.foldl_nil, List.set_cons_zero, List.set_cons_succ]
theorem go37x0 {E : Env} {fuel : Nat} {A : Arena} {o : Out} {k : List KC} {v0 v1 d2 v3 d4 d5 : AV} (h : iter (evC E fuel lp37x0) mask37x0 fuel (st37x0 v0 v1 v3) A = some o) :
    run E fuel (.code (.loop [2, 4, 5] lp37x0) :: k) [v0, v1, d2, v3, d4, d5] A = after E fuel k o := run_loopC mask37x0 _ _ (by rw [cl37x0]; exact h)
set_option maxHeartbeats 4000000 in
theorem comp37 : compFun Tryd.prog Tryd.f37 2 [0, 1, 4, 5, 9, 17] [] true ([[2, 4, 5]], [[2, 4, 5], [0, 1, 2, 3, 4, 5]]) = some mf37 := by kernel_rfl
theorem at37 : Tryd.prog.funcs[37]? = some Tryd.f37 := by kernel_rfl
def mf38 : MFun := ⟨3, 5, .seq (.region [⟨some 3, .box (.var 0), none⟩]) (.seq (.region [⟨some 4, .alloc 1 .nilF, none⟩]) (.seq (.region [⟨none, .makeFunc (.func 39) [] [.var 3, .var 1, .var 4], none⟩, ⟨none, .store 1 (.var 4) (.tmp 0), none⟩]) (.region [⟨none, .load false 1 (.var 4), none⟩, ⟨none, .load false 1 (.var 2), none⟩, ⟨none, .call (.tmp 0) [.cst (.int .i64 0), .tmp 1, .cst (.int .u64 0)], none⟩]))), []⟩
set_option maxHeartbeats 4000000 in
theorem comp38 : compFun Tryd.prog Tryd.f38 3 [0, 1, 2, 3, 4] [] true ([], []) = some mf38 := by kernel_rfl
theorem at38 : Tryd.prog.funcs[38]? = some Tryd.f38 := by kernel_rfl
def lp39x0 : MC := .seq (.seq (.region [⟨none, .mv (.var 7), none⟩, ⟨none, .mv (.var 1), none⟩, ⟨none, .bin .add (.tmp 0) (.tmp 1), none⟩, ⟨none, .load false 1 (.var 4), none⟩, ⟨some 9, .bin .leq (.tmp 2) (.tmp 3), none⟩]) (.cond (.var 9) .skip (.exit 0))) (.seq (.seq (.block 1 (.seq (.region [⟨none, .load false 1 (.var 5), none⟩, ⟨none, .mv (.var 7), none⟩, ⟨none, .bin .add (.tmp 1) (.cst (.int .i64 1)), none⟩, ⟨none, .mv (.var 1), none⟩, ⟨none, .bin .sub (.tmp 3) (.cst (.int .i64 1)), none⟩, ⟨none, .mv (.var 2), none⟩, ⟨none, .mv (.var 7), none⟩, ⟨none, .bin .shl (.cst (.int .u64 1)) (.tmp 6), none⟩, ⟨none, .bin .or (.tmp 5) (.tmp 7), none⟩, ⟨none, .call (.tmp 0) [.tmp 2, .tmp 4, .tmp 8], none⟩, ⟨some 10, .un .not (.tmp 9), none⟩]) (.cond (.var 10) (.seq (.region [⟨some 6, .mv (.cst (.bool false)), none⟩]) .ret) .skip))) (.kill [0, 3, 6, 8, 9, 10])) (.region [⟨none, .mv (.var 7), none⟩, ⟨none, .bin .add (.tmp 0) (.cst (.int .i64 1)), none⟩, ⟨some 7, .mv (.tmp 1), none⟩]))
def mf39 : MFun := ⟨6, 11, .seq (.region [⟨some 6, .mv (.cst (.bool false)), none⟩]) (.seq (.seq (.region [⟨none, .mv (.var 1), none⟩, ⟨some 8, .bin .eql (.tmp 0) (.cst (.int .i64 0)), none⟩]) (.cond (.var 8) (.seq (.region [⟨none, .load false 1 (.var 3), none⟩, ⟨none, .mv (.var 2), none⟩, ⟨none, .call (.tmp 0) [.tmp 1], none⟩, ⟨some 6, .mv (.tmp 2), none⟩]) .ret) .skip)) (.seq (.seq (.region [⟨none, .mv (.var 0), none⟩, ⟨some 7, .mv (.tmp 0), none⟩]) (.seq (.block 0 (.loop [0, 3, 6, 8, 9, 10] lp39x0)) (.kill [0, 1, 2, 3, 4, 5, 6, 7, 8, 9, 10]))) (.seq (.region [⟨some 6, .mv (.cst (.bool true)), none⟩]) .ret))), [.tmp 6]⟩
def mask39x0 : List Nat := [0, 3, 6, 8, 9, 10]
abbrev st39x0 (v1 v2 v4 v5 v7 : AV) : List AV := [.undef, v1, v2, .undef, v4, v5, .undef, v7, .undef, .undef, .undef]
theorem cl39x0 {d0 v1 v2 d3 v4 v5 d6 v7 d8 d9 d10 : AV} : clear mask39x0 [d0, v1, v2, d3, v4, v5, d6, v7, d8, d9, d10] = st39x0 v1 v2 v4 v5 v7 := by simp only [mask39x0, clear, List.foldl_cons, List.foldl_nil, List.set_cons_zero, List.set_cons_succ]
theorem go39x0 {E : Env} {fuel : Nat} {A : Arena} {o : Out} {k : List KC} {d0 v1 v2 d3 v4 v5 d6 v7 d8 d9 d10 : AV} (h : iter (evC E fuel lp39x0) mask39x0 fuel (st39x0 v1 v2 v4 v5 v7) A = some o) :
    run E fuel (.code (.loop [0, 3, 6, 8, 9, 10] lp39x0) :: k) [d0, v1, v2, d3, v4, v5, d6, v7, d8, d9, d10] A = after E fuel k o := run_loopC mask39x0 _ _ (by rw [cl39x0]; exact h)
set_option maxHeartbeats 4000000 in
theorem comp39 : compFun Tryd.prog Tryd.f39 6 [0, 1, 2, 3, 4, 5, 9, 10, 12, 21, 34] [] true ([[0, 3, 6, 8, 9, 10]], [[0, 3, 6, 8, 9, 10], [0, 1, 2, 3, 4, 5, 6, 7, 8, 9, 10]]) = some mf39 := by kernel_rfl
theorem at39 : Tryd.prog.funcs[39]? = some Tryd.f39 := by kernel_rfl
def mf40 : MFun := ⟨1, 3, .seq (.region [⟨some 1, .mv (.cst (.int .i64 0)), none⟩]) (.seq (.seq (.region [⟨none, .mv (.var 0), none⟩, ⟨some 2, .bin .eql (.tmp 0) (.cst (.int .u32 0)), none⟩]) (.cond (.var 2) (.seq (.region [⟨some 1, .mv (.cst (.int .i64 32)), none⟩]) .ret) .skip)) (.seq (.region [⟨none, .mv (.var 0), none⟩, ⟨none, .mv (.var 0), none⟩, ⟨none, .un .neg (.tmp 1), none⟩, ⟨none, .bin .and (.tmp 0) (.tmp 2), none⟩, ⟨none, .bin .mul (.tmp 3) (.cst (.int .u32 125613361)), none⟩, ⟨none, .bin .shr (.tmp 4) (.cst (.int .u64 27)), none⟩, ⟨none, .indexArr 32 1 (.glob 0) (.tmp 5), none⟩, ⟨none, .load false 1 (.tmp 6), none⟩, ⟨none, .convInt .i64 (.tmp 7), none⟩, ⟨some 1, .mv (.tmp 8), none⟩]) .ret)), [.tmp 1]⟩
set_option maxHeartbeats 4000000 in
theorem comp40 : compFun Tryd.prog Tryd.f40 1 [0, 2, 4] [] true ([], []) = some mf40 := by kernel_rfl
theorem at40 : Tryd.prog.funcs[40]? = some Tryd.f40 := by kernel_rfl
def mf41 : MFun := ⟨1, 3, .seq (.region [⟨some 1, .mv (.cst (.int .i64 0)), none⟩]) (.seq (.seq (.region [⟨none, .mv (.var 0), none⟩, ⟨some 2, .bin .eql (.tmp 0) (.cst (.int .u64 0)), none⟩]) (.cond (.var 2) (.seq (.region [⟨some 1, .mv (.cst (.int .i64 64)), none⟩]) .ret) .skip)) (.seq (.region [⟨none, .mv (.var 0), none⟩, ⟨none, .mv (.var 0), none⟩, ⟨none, .un .neg (.tmp 1), none⟩, ⟨none, .bin .and (.tmp 0) (.tmp 2), none⟩, ⟨none, .bin .mul (.tmp 3) (.cst (.int .u64 285870213051353865)), none⟩, ⟨none, .bin .shr (.tmp 4) (.cst (.int .u64 58)), none⟩, ⟨none, .indexArr 64 1 (.glob 1) (.tmp 5), none⟩, ⟨none, .load false 1 (.tmp 6), none⟩, ⟨none, .convInt .i64 (.tmp 7), none⟩, ⟨some 1, .mv (.tmp 8), none⟩]) .ret)), [.tmp 1]⟩
set_option maxHeartbeats 4000000 in
theorem comp41 : compFun Tryd.prog Tryd.f41 1 [0, 2, 4] [] true ([], []) = some mf41 := by kernel_rfl
theorem at41 : Tryd.prog.funcs[41]? = some Tryd.f41 := by kernel_rfl
def lp42x0 : MC := .seq (.region [⟨some 6, .bin .lss (.var 5) (.var 4), none⟩]) (.seq (.cond (.var 6) .skip (.exit 0)) (.seq (.seq (.block 1 (.seq (.region [⟨none, .mv (.var 5), none⟩, ⟨some 3, .mv (.tmp 0), none⟩]) (.seq (.region [⟨none, .mv (.var 1), none⟩, ⟨none, .mv (.var 0), none⟩, ⟨none, .mv (.var 3), none⟩, ⟨none, .indexSl 1 (.tmp 1) (.tmp 2), none⟩, ⟨none, .load true 1 (.tmp 3), none⟩, ⟨some 7, .call (.tmp 0) [.tmp 4], none⟩]) (.cond (.var 7) (.seq (.region [⟨none, .mv (.var 3), none⟩, ⟨some 2, .mv (.tmp 0), none⟩]) .ret) .skip)))) (.kill [2, 3, 6, 7])) (.region [⟨none, .bin .add (.var 5) (.cst (.int .i64 1)), none⟩, ⟨some 5, .mv (.tmp 0), none⟩])))
def mf42 : MFun := ⟨2, 8, .seq (.region [⟨some 2, .mv (.cst (.int .i64 0)), none⟩]) (.seq (.seq (.region [⟨none, .mv (.var 0), none⟩, ⟨some 4, .lenSl (.tmp 0), none⟩, ⟨some 5, .mv (.cst (.int .i64 0)), none⟩]) (.seq (.block 0 (.loop [2, 3, 6, 7] lp42x0)) (.kill [0, 1, 2, 3, 4, 5, 6, 7]))) (.seq (.region [⟨some 2, .mv (.cst (.int .i64 (-1))), none⟩]) .ret)), [.tmp 2]⟩
def mask42x0 : List Nat := [2, 3, 6, 7]
abbrev st42x0 (v0 v1 v4 v5 : AV) : List AV := [v0, v1, .undef, .undef, v4, v5, .undef, .undef]
theorem cl42x0 {v0 v1 d2 d3 v4 v5 d6 d7 : AV} : clear mask42x0 [v0, v1, d2, d3, v4, v5, d6, d7] = st42x0 v0 v1 v4 v5 := by simp only [mask42x0, clear, List.foldl_cons, List.foldl_nil, List.set_cons_zero, List.set_cons_succ]
theorem go42x0 {E : Env} {fuel : Nat} {A : Arena} {o : Out} {k : List KC} {v0 v1 d2 d3 v4 v5 d6 d7 : AV} (h : iter (evC E fuel lp42x0) mask42x0 fuel (st42x0 v0 v1 v4 v5) A = some o) :
    run E fuel (.code (.loop [2, 3, 6, 7] lp42x0) :: k) [v0, v1, d2, d3, v4, v5, d6, d7] A = after E fuel k o := run_loopC mask42x0 _ _ (by rw [cl42x0]; exact h)
set_option maxHeartbeats 4000000 in
theorem comp42 : compFun Tryd.prog Tryd.f42 2 [0, 1, 4, 5, 7, 8, 9, 16] [] true ([[2, 3, 6, 7]], [[2, 3, 6, 7], [0, 1, 2, 3, 4, 5, 6, 7]]) = some mf42 := by kernel_rfl
theorem at42 : Tryd.prog.funcs[42]? = some Tryd.f42 := by kernel_rfl
end Go.Proofs.YtkdjebioapholaaDoor
/-
  Inspect: numbers drawn, the bits of a number, wafers, tests, choices.
-/
namespace Go.Proofs.YtkdjebioapholaaDoor
open Go

/-- the package-level variable that is read -/
def tab64 : List Int := [0, 1, 56, 2, 57, 49, 28, 3, 61, 58, 42, 50, 38, 29, 17, 4, 62, 47, 59, 36, 45, 43, 51, 22, 53, 39, 33, 30, 24, 18, 12, 5, 63, 55, 48, 27, 60, 41, 37, 16, 46, 35, 44, 21, 52, 32, 23, 11, 54, 26, 40, 15, 34, 20, 31, 10, 25, 14, 19, 9, 13, 8, 7, 6]
def GI : Nat → Option (List AV) := fun gl => if gl = 1 then some (tab64.map (.int .u8 ·)) else none

def pick (a n : Int) : Int := (if a < 0 then -(a+1) else a).tmod n
theorem ev25 (E : Env) (a n : Int) (ha : inI a) (hn : 0 < n) : evP E 0 mf25 1 [.int .i64 a, .int .i64 n] = some (.int .i64 (pick a n)) := by
  have h3 : n ≠ 0 := by omega
  rw [evP_run _ _ rfl]
  by_cases h : a < 0
  · have h1 : IntKind.i64.wrap (a + 1) = a + 1 := wrapI (by unfold inI at *; omega)
    have h2 : IntKind.i64.wrap (-(a + 1)) = -(a + 1) := wrapI (by unfold inI at *; omega)
    simp [mf25, h, h1, h2, h3, pick]
  · simp [mf25, h, h3, pick]
theorem ev26 (E : Env) (a n : Int) (ha : inI a) (hn : 0 < n) : evP E 0 mf26 1 [.int .i64 a, .int .i64 n] = some (.int .i64 (pick a n)) := by
  have h3 : n ≠ 0 := by omega
  rw [evP_run _ _ rfl]
  by_cases h : a < 0
  · have h1 : IntKind.i64.wrap (a + 1) = a + 1 := wrapI (by unfold inI at *; omega)
    have h2 : IntKind.i64.wrap (-(a + 1)) = -(a + 1) := wrapI (by unfold inI at *; omega)
    simp [mf26, h, h1, h2, h3, pick]
  · simp [mf26, h, h3, pick]
def M25 : PModel := fun args => match args with
  | [.int .i64 a, .int .i64 n] => if (-9223372036854775808 ≤ a ∧ a ≤ 9223372036854775807) ∧ 0 < n then some (.int .i64 (pick a n)) else none
  | _ => none
theorem M25_eq {a n : Int} (ha : inI a) (hn : 0 < n) : M25 [.int .i64 a, .int .i64 n] = some (.int .i64 (pick a n)) := if_pos ⟨ha, hn⟩
theorem spec25 : PureSpec Tryd.prog GI 25 M25 := by
  refine PureSpec.of_ev (E := envOf GI []) (envOf_sound lookM_nil) rfl at25 comp25 1 ?_
  intro args r h
  unfold M25 at h
  split at h
  · simp only [Option.ite_none_right_eq_some, Option.some.injEq] at h
    obtain ⟨⟨h1, h2⟩, rfl⟩ := h
    exact ⟨0, ev25 _ _ _ h1 h2⟩
  · cases h
theorem spec26 : PureSpec Tryd.prog GI 26 M25 := by
  refine PureSpec.of_ev (E := envOf GI []) (envOf_sound lookM_nil) rfl at26 comp26 1 ?_
  intro args r h
  unfold M25 at h
  split at h
  · simp only [Option.ite_none_right_eq_some, Option.some.injEq] at h
    obtain ⟨⟨h1, h2⟩, rfl⟩ := h
    exact ⟨0, ev26 _ _ _ h1 h2⟩
  · cases h
theorem pick_range (a n : Int) (hn : 0 < n) : 0 ≤ pick a n ∧ pick a n < n := by
  unfold pick
  split
  · exact ⟨Int.tmod_nonneg _ (by omega), Int.tmod_lt_of_pos _ hn⟩
  · exact ⟨Int.tmod_nonneg _ (by omega), Int.tmod_lt_of_pos _ hn⟩
/-- the number drawn, as a natural one -/
theorem pick_nat (a : Int) (n : Nat) (hn : 0 < n) : ∃ m : Nat, pick a n = m ∧ m < n := by
  have := pick_range a n (by omega)
  exact ⟨(pick a n).toNat, by omega, by omega⟩

/-- what the bits of a number say, in ascending order -/
def bitsL (f : Nat → Int) (m n : Nat) : List Int := ((List.range n).filter fun k => decide (m / 2 ^ k % 2 = 1)).map f
theorem bitsL_t {f : Nat → Int} {m n : Nat} (h : m / 2 ^ n % 2 = 1) : bitsL f m (n + 1) = bitsL f m n ++ [f n] := by
  unfold bitsL
  simp [List.range_succ, h]
theorem bitsL_f {f : Nat → Int} {m n : Nat} (h : ¬ m / 2 ^ n % 2 = 1) : bitsL f m (n + 1) = bitsL f m n := by
  unfold bitsL
  simp [List.range_succ, h]
theorem bitsL_len (f : Nat → Int) (m n : Nat) : (bitsL f m n).length ≤ n := by
  unfold bitsL
  rw [List.length_map]
  exact Nat.le_trans (List.length_filter_le _ _) (by simp)
def intsA (xs : List Int) : List AV := xs.map (.int .i64)

def wafN (m i : Nat) : List Int := bitsL (fun k => 1 + (k : Int)) m i
/-- the wafers that an integer determines -/
def waf (c : Int) : List Int := wafN (pick c 4096).toNat 12

set_option maxRecDepth 100000 in
theorem round14 (E : Env) (fuel : Nat) (A : Arena) (m i : Nat) (hi : i < 12) :
    run E fuel [.code lp14x0] (st14x0 (.int .i64 (m : Int)) (oA A (intsA (wafN m i))) (.int .i64 (i : Int))) (aA A 1 (intsA (wafN m i))) =
      some (.normal (st14x0 (.int .i64 (m : Int)) (oA A (intsA (wafN m (i + 1)))) (.int .i64 ((i + 1 : Nat) : Int))) (aA A 1 (intsA (wafN m (i + 1))))) := by
  have b1 : evBin .lss (.int .i64 (i : Int)) (.int .i64 12) = some (.bool true) := by simp [evBin]; omega
  have b2 := shr_nat m i .i64 .i64 (by simp; omega)
  have b3 := rem2_nat (m / 2 ^ i) .i64
  have b4 := eq1_nat (m / 2 ^ i % 2) .i64
  have b5 : evBin .add (.int .i64 1) (.int .i64 (i : Int)) = some (.int .i64 (1 + (i : Int))) := by
    simp only [evBin]; rw [if_pos trivial, wrapI (by unfold inI; omega)]
  have b6 := add1_nat i (by omega)
  have hl := bitsL_len (fun k => 1 + (k : Int)) m i
  have ap := append1 (A := A) (esz := 1) (bytes := 8) (es := intsA (wafN m i)) (.int .i64 (1 + (i : Int))) (by omega) (by omega) (by simp only [intsA, wafN, List.length_map]; omega)
  have hs : m / 2 ^ i % 2 = 1 → intsA (wafN m i) ++ [.int .i64 (1 + (i : Int))] = intsA (wafN m (i + 1)) := fun h => by
    unfold wafN intsA; rw [bitsL_t h]; simp
  have hf : ¬ m / 2 ^ i % 2 = 1 → wafN m (i + 1) = wafN m i := fun h => bitsL_f h
  obtain ⟨q, hq⟩ : ∃ q, q = m / 2 ^ i := ⟨_, rfl⟩
  rw [← hq] at b2 b3 b4 hs hf
  obtain ⟨r, hr⟩ : ∃ r, r = q % 2 := ⟨_, rfl⟩
  rw [← hr] at b3 b4 hs hf
  obtain ⟨i1, hi1⟩ : ∃ i1 : Nat, i1 = i + 1 := ⟨_, rfl⟩
  rw [← hi1] at b6 hs hf ⊢
  by_cases h : r = 1
  · rw [hs h] at ap
    rw [decide_eq_true h] at b4
    simp [lp14x0, b1, b2, b3, b4, b5, b6, ap, -evBin]
  · rw [hf h]
    simp [lp14x0, b1, b2, b3, b4, b5, b6, h, -evBin]

theorem loop14 (E : Env) (fuel : Nat) (A : Arena) (m : Nat) (hf : 12 < fuel) : iter (evC E fuel lp14x0) mask14x0 fuel (st14x0 (.int .i64 (m : Int)) .nilS (.int .i64 0)) A =
    some (.exit 0 ((st14x0 (.int .i64 (m : Int)) (oA A (intsA (wafN m 12))) (.int .i64 12)).set 4 (.bool false)) (aA A 1 (intsA (wafN m 12)))) := by
  refine iter_up (fun i => st14x0 (.int .i64 (m : Int)) (oA A (intsA (wafN m i))) (.int .i64 (i : Int))) (fun i => aA A 1 (intsA (wafN m i))) 12 (fun _ => cl14x0) (fun _ _ h => by cases h) (fun i hi => round14 E fuel A m i hi) ?_ hf
  simp [lp14x0]

def fs14 : List (FuncId × HModel) := [(26, pureH 4 M25)]
@[simp] theorem fs14_26 : lookM fs14 26 = some (pureH 4 M25) := rfl
theorem sound14 : ∀ f M, lookM fs14 f = some M → FnSpecY Tryd.prog GI f M := lookM_cons (FnSpecY.of_pure spec26 4) lookM_nil
set_option maxRecDepth 100000 in
theorem ev14 (c : Int) (hc : inI c) : evP (envOf GI fs14) 20 mf14 1 [.int .i64 c] = some (slA 1 (intsA (waf c))) := by
  obtain ⟨m, hm, hlt⟩ := pick_nat c 4096 (by omega)
  have m1 := M25_eq (a := c) (n := 4096) hc (by omega)
  have hw : waf c = wafN m 12 := by unfold waf; rw [show ((4096 : Nat) : Int) = 4096 from rfl] at hm; rw [hm]; simp
  rw [show ((4096 : Nat) : Int) = 4096 from rfl] at hm
  rw [hm] at m1
  have lp := loop14 (envOf GI fs14) 20 [] m (by omega)
  have hfz := frz_oA (A := []) (esz := 1) (es := intsA (wafN m 12)) 0
  have hid : (intsA (wafN m 12)).map (frz (aA [] 1 (intsA (wafN m 12))) 0) = intsA (wafN m 12) := by
    unfold intsA; rw [List.map_map]; rfl
  rw [hid] at hfz
  rw [evP_run _ _ rfl, hw]
  simp [mf14, m1, go14x0 lp, hfz]
end Go.Proofs.YtkdjebioapholaaDoor
