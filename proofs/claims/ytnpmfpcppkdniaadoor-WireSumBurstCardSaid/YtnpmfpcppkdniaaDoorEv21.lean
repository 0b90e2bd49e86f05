/-
  Evaluation with what is still to come as data: the laws by which 'simp' runs a function. Program-independent.
-/
import Derived.Test.YtnpmfpcppkdniaaDoorEv20
namespace Go.Proofs.YtnpmfpcppkdniaaDoor
open Go

inductive KC where
  | code (c : MC)
  | ops (l : List MO) (T : List AV)
  | blk (id : Nat)

noncomputable def evK (E : Env) (fuel : Nat) : List KC → Option Out → Option Out
  | [], o => o
  | .code c :: k, some (.normal σ A) => evK E fuel k (evC E fuel c σ A)
  | .ops l T :: k, some (.normal σ A) => evK E fuel k ((evOps E l σ T A).map fun x => .normal x.1 x.2)
  | .blk id :: k, some (.exit id' σ A) => evK E fuel k (if id' = id then some (.normal σ A) else some (.exit id' σ A))
  | _ :: k, o => evK E fuel k o

noncomputable def run (E : Env) (fuel : Nat) (k : List KC) (σ : List AV) (A : Arena) : Option Out := evK E fuel k (some (.normal σ A))
noncomputable def exits (E : Env) (fuel : Nat) (id : Nat) (k : List KC) (σ : List AV) (A : Arena) : Option Out := evK E fuel k (some (.exit id σ A))
noncomputable def after (E : Env) (fuel : Nat) (k : List KC) (o : Out) : Option Out := evK E fuel k (some o)

section
variable {E : Env} {fuel : Nat} {σ : List AV} {A : Arena} {k : List KC}

theorem evK_none : ∀ k, evK E fuel k none = none
  | [] => rfl
  | .code _ :: k => by simp [evK, evK_none k]
  | .ops _ _ :: k => by simp [evK, evK_none k]
  | .blk _ :: k => by simp [evK, evK_none k]
theorem evK_ret : ∀ k, evK E fuel k (some (.ret σ A)) = some (.ret σ A)
  | [] => rfl
  | .code _ :: k => by simp [evK, evK_ret k]
  | .ops _ _ :: k => by simp [evK, evK_ret k]
  | .blk _ :: k => by simp [evK, evK_ret k]

theorem evC_run (c : MC) : evC E fuel c σ A = run E fuel [.code c] σ A := rfl
theorem run_nil : run E fuel [] σ A = some (.normal σ A) := rfl
theorem run_skip : run E fuel (.code .skip :: k) σ A = run E fuel k σ A := rfl
theorem run_seq (a b : MC) : run E fuel (.code (.seq a b) :: k) σ A = run E fuel (.code a :: .code b :: k) σ A := by
  simp only [run, evK, evC]
  cases evC E fuel a σ A with
  | none => simp [evK_none]
  | some o => cases o <;> simp [evK]
theorem run_region (l : List MO) : run E fuel (.code (.region l) :: k) σ A = run E fuel (.ops l [] :: k) σ A := rfl
theorem run_block (id : Nat) (a : MC) : run E fuel (.code (.block id a) :: k) σ A = run E fuel (.code a :: .blk id :: k) σ A := by
  simp only [run, evK, evC]
  cases evC E fuel a σ A with
  | none => simp [evK_none]
  | some o => cases o <;> simp [evK, evK_ret]
theorem run_blk (id : Nat) : run E fuel (.blk id :: k) σ A = run E fuel k σ A := rfl
theorem run_scope (a : MC) : run E fuel (.code (.scope a) :: k) σ A = run E fuel (.code a :: k) σ A := rfl
theorem run_kill (mask : List Nat) : run E fuel (.code (.kill mask) :: k) σ A = run E fuel k (clear mask σ) A := rfl
theorem run_ret : run E fuel (.code .ret :: k) σ A = some (.ret σ A) := evK_ret _
theorem run_exit (id : Nat) : run E fuel (.code (.exit id) :: k) σ A = exits E fuel id k σ A := rfl
theorem exits_nil (id : Nat) : exits E fuel id [] σ A = some (.exit id σ A) := rfl
theorem exits_code (id : Nat) (c : MC) : exits E fuel id (.code c :: k) σ A = exits E fuel id k σ A := rfl
theorem exits_ops (id : Nat) (l : List MO) (T : List AV) : exits E fuel id (.ops l T :: k) σ A = exits E fuel id k σ A := rfl
theorem exits_blk (id : Nat) : exits E fuel id (.blk id :: k) σ A = run E fuel k σ A := by simp [exits, evK, run]
theorem exits_blk_ne (id id' : Nat) (h : id ≠ id') : exits E fuel id (.blk id' :: k) σ A = exits E fuel id k σ A := by simp [exits, evK, h]
theorem run_cond (c : MX) (a b : MC) (t : Bool) (h : evX E σ [] c = .bool t) : run E fuel (.code (.cond c a b) :: k) σ A = if t then run E fuel (.code a :: k) σ A else run E fuel (.code b :: k) σ A := by
  simp only [run, evK, evC, h]; cases t <;> rfl
theorem run_cond_t (c : MX) (a b : MC) (h : evX E σ [] c = .bool true) : run E fuel (.code (.cond c a b) :: k) σ A = run E fuel (.code a :: k) σ A := by
  rw [run_cond c a b true h]; rfl
theorem run_cond_f (c : MX) (a b : MC) (h : evX E σ [] c = .bool false) : run E fuel (.code (.cond c a b) :: k) σ A = run E fuel (.code b :: k) σ A := by
  rw [run_cond c a b false h]; rfl
theorem run_ops_nil (T : List AV) : run E fuel (.ops [] T :: k) σ A = run E fuel k σ A := rfl
theorem run_op (d : Option Nat) (op : MOp) (rest : List MO) (T : List AV) : run E fuel (.ops (⟨d, op, none⟩ :: rest) T :: k) σ A =
    match evStep E (evX E σ T) A op with
    | some (v, A') => run E fuel (.ops rest (T ++ [v]) :: k) (setVar σ d v) A'
    | none => none := by
  simp only [run, evK, evOps, evGuard]
  cases evStep E (evX E σ T) A op with
  | none => simp [evK_none]
  | some x => rfl
theorem run_op_wanted (d : Option Nat) (op : MOp) (rest : List MO) (T : List AV) (x : MX) (want : Bool) (h : evX E σ T x = .bool want) : run E fuel (.ops (⟨d, op, some (x, want)⟩ :: rest) T :: k) σ A =
    match evStep E (evX E σ T) A op with
    | some (v, A') => run E fuel (.ops rest (T ++ [v]) :: k) (setVar σ d v) A'
    | none => none := by
  simp only [run, evK, evOps, evGuard, h]
  cases want <;> cases evStep E (evX E σ T) A op <;> simp [evK, evK_none, evOps]
theorem run_op_unwanted (d : Option Nat) (op : MOp) (rest : List MO) (T : List AV) (x : MX) (want : Bool) (h : evX E σ T x = .bool (!want)) : run E fuel (.ops (⟨d, op, some (x, want)⟩ :: rest) T :: k) σ A =
    run E fuel (.ops rest (T ++ [.tup []]) :: k) (setVar σ d (.tup [])) A := by
  simp only [run, evK, evOps, evGuard, h]
  cases want <;> rfl
theorem run_op_idle (d : Option Nat) (op : MOp) (rest : List MO) (T : List AV) (x : MX) (want : Bool) (h : evX E σ T x = .tup []) : run E fuel (.ops (⟨d, op, some (x, want)⟩ :: rest) T :: k) σ A =
    run E fuel (.ops rest (T ++ [.tup []]) :: k) (setVar σ d (.tup [])) A := by
  simp only [run, evK, evOps, evGuard, h]

theorem run_loop (mask : List Nat) (a : MC) (o : Out) (h : iter (evC E fuel a) mask fuel σ A = some o) : run E fuel (.code (.loop mask a) :: k) σ A = after E fuel k o := by
  simp only [run, evK, evC, h, after]
/-- a loop whose rounds can be counted out -/
theorem run_loopE (mask : List Nat) (a : MC) : run E fuel (.code (.loop mask a) :: k) σ A = match iter (evC E fuel a) mask fuel σ A with
    | some o => after E fuel k o
    | none => none := by
  unfold run after
  simp only [evK, evC]
  cases iter (evC E fuel a) mask fuel σ A with
  | none => exact evK_none _
  | some o => rfl
theorem clear_set (mask : List Nat) : ∀ (σ : List AV) (i : Nat), (clear mask σ).set i .undef = clear mask (σ.set i .undef) := by
  induction mask with
  | nil => intro σ i; rfl
  | cons j m ih =>
    intro σ i
    show (clear m (σ.set j .undef)).set i .undef = clear m ((σ.set i .undef).set j .undef)
    rw [ih]
    congr 1
    by_cases h : i = j
    · subst h; rfl
    · exact (List.set_comm _ _ h).symm
theorem clear_clear (mask : List Nat) : ∀ σ : List AV, clear mask (clear mask σ) = clear mask σ := by
  induction mask with
  | nil => intro σ; rfl
  | cons j m ih =>
    intro σ
    show clear m ((clear m (σ.set j .undef)).set j .undef) = clear m (σ.set j .undef)
    rw [clear_set, List.set_set, ih]
theorem iter_clear (body : List AV → Arena → Option Out) (mask : List Nat) (n : Nat) (σ : List AV) (A : Arena) : iter body mask n σ A = iter body mask n (clear mask σ) A := by
  cases n with
  | zero => rfl
  | succ n => simp only [iter, clear_clear]
/-- a loop, from what is alive of its slots -/
theorem run_loopC (mask : List Nat) (a : MC) (o : Out) (h : iter (evC E fuel a) mask fuel (clear mask σ) A = some o) : run E fuel (.code (.loop mask a) :: k) σ A = after E fuel k o :=
  run_loop mask a o (by rw [iter_clear]; exact h)
/-- what holds of a loop: 'I k' before a round of which at most k can follow -/
theorem iter_inv {a : MC} {mask : List Nat} (I : Nat → List AV → Arena → Prop) (Q : Out → Prop) (hs : ∀ k σ A, I k σ A → (∃ σ' A', run E fuel [.code a] (clear mask σ) A = some (.normal σ' A') ∧ ∃ k', k' < k ∧ I k' σ' A') ∨ (∃ o, run E fuel [.code a] (clear mask σ) A = some o ∧ (∀ σ' A', o ≠ .normal σ' A') ∧ Q o)) :
    ∀ (n k : Nat) (σ : List AV) (A : Arena), k < n → I k σ A → ∃ o, iter (evC E fuel a) mask n σ A = some o ∧ Q o := by
  intro n
  induction n with
  | zero => intro k σ A h; omega
  | succ n ih =>
    intro k σ A h hi
    rw [iter]
    rcases hs k σ A hi with ⟨σ', A', h1, k', h2, h3⟩ | ⟨o, h1, h2, h3⟩
    · rw [evC_run, h1]
      exact ih k' σ' A' (by omega) h3
    · rw [evC_run, h1]
      cases o with
      | normal σ' A' => exact absurd rfl (h2 σ' A')
      | exit id σ' A' => exact ⟨_, rfl, h3⟩
      | ret σ' A' => exact ⟨_, rfl, h3⟩
theorem run_rangeFunc (f : MX) (ps : List Nat) (a b : MC) (o : Out)
    (h : ∀ (l : Nat) (r : Loop), (match E.callY (yieldH A.length l r σ ps (evC E fuel a) (evC E fuel b) E.hand) (evX E σ [] f) [.func (.yield l) [] []] (A ++ [Ent.loop r 0]) with
      | some (_, A') => afterR A.length σ A'
      | none => none) = some o) : run E fuel (.code (.rangeFunc f ps a b) :: k) σ A = after E fuel k o := by
  have : evC E fuel (.rangeFunc f ps a b) σ A = some o := by
    simp only [evC]
    exact evR_of (good := fun (_ : Nat × Loop) => True) (0, default) trivial fun x _ => h x.1 x.2
  simp only [run, evK, this, after]
theorem after_normal : after E fuel k (.normal σ A) = run E fuel k σ A := rfl
theorem after_exit (id : Nat) : after E fuel k (.exit id σ A) = exits E fuel id k σ A := rfl
theorem after_ret : after E fuel k (.ret σ A) = some (.ret σ A) := evK_ret _

theorem run_of {c : MC} {o : Out} (h : run E fuel [.code c] σ A = some o) (k : List KC) : run E fuel (.code c :: k) σ A = after E fuel k o := by
  simp only [run, evK] at h
  simp only [run, evK, h, after]

/-- a round of a loop -/
theorem iter_succ (a : MC) (mask : List Nat) (n : Nat) : iter (evC E fuel a) mask (n + 1) σ A = match run E fuel [.code a] (clear mask σ) A with
    | some (.normal σ' A') => iter (evC E fuel a) mask n σ' A'
    | x => x := rfl

/-- a function, by the machine -/
theorem evFun_run (mf : MFun) (args : List AV) (h : args.length = mf.n) : evFun E fuel mf args A = match run E fuel [.code mf.mc] (args ++ List.replicate (mf.len - mf.n) .undef) A with
    | some (.normal σ A') => (evRes A' σ mf.res).map fun l => (pack l, A')
    | some (.ret σ A') => (evRes A' σ mf.res).map fun l => (pack l, A')
    | _ => none := by
  unfold evFun; rw [if_pos h]; rfl
end

open Classical in
theorem PureSpec.of_fns {P : Program} {G : Nat → Option (List AV)} {f : FuncId} {M' : Nat → Model} {M : PModel} (h : ∀ fuel, FnSpec P G f (M' fuel)) (n : Nat) (hM : ∀ args r, M args = some r → ∃ fuel r0 A', M' fuel args [] = some (r0, A') ∧ frz A' n r0 = r) : PureSpec P G f M := by
  refine ⟨(h 0).1, ?_⟩
  intro args r he
  obtain ⟨fuel, r0, A', h1, h2⟩ := hM args r he
  exact (PureSpec.of_fn (M := fun a => if a = args then some r else none) (h fuel) n (fun a r' h' => by
    split at h'
    · rename_i e; injection h' with h'; subst h'; subst e; exact ⟨r0, A', h1, h2⟩
    · cases h')).2 args r (by simp)
end Go.Proofs.YtnpmfpcppkdniaaDoor
