/-
  Regions and code in the form that names no type: evaluation, and that the model agrees. Program-independent.
-/
import Derived.Test.YtnpmfpcppkdniaaDoorEv13
import Derived.Sort.LoopGhostIn
import Derived.RangeFuncCalls
import Derived.RangeFuncNested
namespace Go.Proofs.YtnpmfpcppkdniaaDoor
open Go

structure MO where
  dst : Option Nat
  op : MOp
  guard : Option (MX × Bool)

inductive MC where
  | skip
  | region (ops : List MO)
  | seq (a b : MC)
  | cond (c : MX) (a b : MC)
  | block (id : Nat) (a : MC)
  | loop (mask : List Nat) (a : MC)
  | rangeFunc (f : MX) (ps : List Nat) (assign body : MC)
  | exit (id : Nat)
  | scope (a : MC)
  | kill (mask : List Nat)
  | ret
  | bad

inductive Out where
  | normal (σ : List AV) (A : Arena)
  | exit (id : Nat) (σ : List AV) (A : Arena)
  | ret (σ : List AV) (A : Arena)

abbrev Handler := AV → List AV → Arena → Option (AV × Arena)

/-- A loop over a function, under way: where its record lies; what its variables hold. -/
structure Yld where
  id : Nat
  l : Nat
  vals : List Value
  σ : List AV

/-- What is known of calls (of a function's value, while yields are handled so), and of package-level variables. -/
structure Env where
  callY : Handler → Handler
  glob : Nat → Option (List AV)
  ys : List Yld
  hand : Handler

def Env.call (E : Env) : Handler := fun fv args A => match fv with
  | .func (.func _) _ _ => E.callY E.hand fv args A
  | _ => match E.hand fv args A with
    | some x => some x
    | none => E.callY E.hand fv args A

def evX (E : Env) (σ T : List AV) : MX → AV
  | .var i => σ.getD i .undef
  | .tmp j => T.getD j .undef
  | .cst a => a
  | .glob gl => match E.glob gl with
    | some cs => .fp cs
    | none => .undef
  | .fn f => .func (.func f) [] []

def evStep (E : Env) (ρ : MX → AV) (A : Arena) : MOp → Option (AV × Arena)
  | .call f args => E.call (ρ f) (args.map ρ) A
  | m => evOp ρ A m

/-- is the operation carried out? -/
def evGuard (ρ : MX → AV) : Option (MX × Bool) → Option Bool
  | none => some true
  | some (x, want) => match ρ x with
    | .bool b => some (b == want)
    | .tup [] => some false
    | _ => none

def setVar (σ : List AV) (d : Option Nat) (a : AV) : List AV :=
  match d with
  | some i => σ.set i a
  | none => σ

def evOps (E : Env) : List MO → List AV → List AV → Arena → Option (List AV × Arena)
  | [], σ, _, A => some (σ, A)
  | o :: rest, σ, T, A =>
    match evGuard (evX E σ T) o.guard with
    | some true => match evStep E (evX E σ T) A o.op with
      | some (v, A') => evOps E rest (setVar σ o.dst v) (T ++ [v]) A'
      | none => none
    | some false => evOps E rest (setVar σ o.dst (.tup [])) (T ++ [.tup []]) A
    | none => none

def clear (mask : List Nat) (σ : List AV) : List AV := mask.foldl (fun s i => s.set i .undef) σ

def iter (body : List AV → Arena → Option Out) (mask : List Nat) : Nat → List AV → Arena → Option Out
  | 0, _, _ => none
  | n + 1, σ, A => match body (clear mask σ) A with
    | some (.normal σ' A') => iter body mask n σ' A'
    | x => x

open Classical in
/-- the one result that does not hang on what is not known -/
noncomputable def evR {α β : Type} (good : α → Prop) (inner : α → Option β) : Option β :=
  if h : ∃ x, ∀ a, good a → inner a = some x then some h.choose else none

def setAll (σ : List AV) : List Nat → List AV → Option (List AV)
  | [], [] => some σ
  | i :: ps, a :: as' => setAll (σ.set i a) ps as'
  | _, _ => none

open Classical in
/-- the handling of a loop's yields: n0: its record's entry; l: its block -/
noncomputable def yieldH (n0 l : Nat) (r : Loop) (σ : List AV) (ps : List Nat) (assign body : List AV → Arena → Option Out) (h : Handler) : Handler := fun fv args A =>
  match fv with
  | .func (.yield l') [] [] =>
    if l' = l then
      match A[n0]? with
      | some (.loop r' k) =>
        if r' = r ∧ k = 0 then
          match setAll σ ps args with
          | some σ1 => match assign σ1 A with
            | some (.normal σ2 A2) => if A2[n0]? = some (.loop r 0) then match body σ2 (A2.set n0 .dead) with
              | some (.normal _ A3) => some (.bool true, A3.set n0 (.loop r 0))
              | some (.ret _ A3) => some (.bool false, A3.set n0 (.loop r 1))
              | some (.exit id _ A3) => some (.bool false, A3.set n0 (.loop r (id + 2)))
              | none => none
              else none
            | _ => none
          | none => none
        else none
      | _ => none
    else h fv args A
  | _ => h fv args A

/-- how a loop over a function ends -/
def afterR (n0 : Nat) (σ : List AV) (A : Arena) : Option Out :=
  match A[n0]? with
  | some (.loop _ k) => some (if k = 0 then .normal σ (A.set n0 .dead) else if k = 1 then .ret σ (A.set n0 .dead) else .exit (k - 2) σ (A.set n0 .dead))
  | _ => none

noncomputable def evC (E : Env) (fuel : Nat) : MC → List AV → Arena → Option Out
  | .skip, σ, A => some (.normal σ A)
  | .region ops, σ, A => (evOps E ops σ [] A).map fun x => .normal x.1 x.2
  | .seq a b, σ, A => match evC E fuel a σ A with
    | some (.normal σ' A') => evC E fuel b σ' A'
    | x => x
  | .cond c a b, σ, A => match evX E σ [] c with
    | .bool t => if t then evC E fuel a σ A else evC E fuel b σ A
    | _ => none
  | .block id a, σ, A => match evC E fuel a σ A with
    | some (.exit id' σ' A') => if id' = id then some (.normal σ' A') else some (.exit id' σ' A')
    | x => x
  | .loop mask a, σ, A => iter (evC E fuel a) mask fuel σ A
  | .rangeFunc f ps assign body, σ, A => evR (fun (_ : Nat × Loop) => True) fun x =>
    match E.callY (yieldH A.length x.1 x.2 σ ps (evC E fuel assign) (evC E fuel body) E.hand) (evX E σ [] f) [.func (.yield x.1) [] []] (A ++ [Ent.loop x.2 0]) with
    | some (_, A') => afterR A.length σ A'
    | none => none
  | .exit id, σ, A => some (.exit id σ A)
  | .scope a, σ, A => evC E fuel a σ A
  | .kill mask, σ, A => some (.normal (clear mask σ) A)
  | .ret, σ, A => some (.ret σ A)
  | .bad, _, _ => none

/-! ### from the model's code -/

/-- the operand: a variable's slot, a slot of this region, or a constant -/
def cxOf (vs : List Nat) (ts : List (Option Nat)) : Operand → Option MX
  | .tmp t => match vs.idxOf? t with
    | some i => some (.var i)
    | none => (ts.idxOf? (some t)).map .tmp
  | .const v => (ofValue v).map .cst
  | .global gl => some (.glob gl)
  | .func f => some (.fn f)

def compGuard (vs : List Nat) (ops : Array Oper) (ts : List (Option Nat)) : Option (Nat × Bool) → Option (Option (MX × Bool))
  | none => some none
  | some (j, want) => match (ops[j]?).bind (·.dst) with
    | some t => (cxOf vs ts (.tmp t)).map fun x => some (x, want)
    | none => none

/-- an operation that is never carried out -/
def badOp : MOp := .un .neg (.cst .undef)

def compOps (P : Program) (N : Nat) (vs : List Nat) (ops : Array Oper) : List Oper → List (Option Nat) → List MO
  | [], _ => []
  | o :: rest, ts =>
    match compGuard vs ops ts o.guard with
    | some gd =>
      let m := (compOp P (cxOf vs ts) o.op).getD badOp
      match o.dst with
      | none => ⟨none, m, gd⟩ :: compOps P N vs ops rest (ts ++ [none])
      | some t =>
        match vs.idxOf? t with
        | some i => ⟨some i, m, gd⟩ :: compOps P N vs ops rest (ts ++ [none])
        | none => if t < N ∧ ¬ (some t) ∈ ts then ⟨none, m, gd⟩ :: compOps P N vs ops rest (ts ++ [some t]) else [⟨none, badOp, none⟩]
    | none => [⟨none, badOp, none⟩]

def idxAll (vs : List Nat) : List Nat → Option (List Nat)
  | [] => some []
  | t :: r => match vs.idxOf? t, idxAll vs r with
    | some i, some l => some (i :: l)
    | _, _ => none

/-! ### regions whose order is open -/

/-- the operands -/
def MOp.xs : MOp → List MX
  | .mv x | .un _ x | .convInt _ x | .same x | .toStr x | .toBytes x | .box x | .load _ _ x | .nilCheck x | .fieldAddr _ x | .part _ _ _ x | .extract x _ | .lenStr x | .lenSl x | .lenMap x | .eqNil _ _ x => [x]
  | .pick a b c => [a, b, c]
  | .bin _ x y | .eqBool _ x y | .store _ x y | .indexSl _ x y | .indexArr _ _ x y | .indexVal _ _ _ x y | .indexStr x y | .append _ _ x y | .copy _ x y | .makeSlice _ _ _ x y => [x, y]
  | .alloc .. | .allocArr .. => []
  | .build _ ps => ps.map (·.2.2)
  | .buildSlice _ xs => xs
  | .sliceStr x lo hi | .sliceSl _ x lo hi => x :: (lo.toList ++ hi.toList)
  | .makeFunc _ a b => a ++ b
  | .minmax _ x xs => x :: xs
  | .call f args => f :: args

/-- what an operation does to the arena: 0 it does not look at it; 1 it reads; 2 anything. 'pu': functions that leave the arena alone -/
def opKind (pu : List FuncId) : MOp → Nat
  | .mv _ | .pick .. | .bin .. | .eqBool .. | .un .. | .convInt .. | .same _ | .build .. | .nilCheck _ | .part .. | .indexVal .. | .indexStr .. | .sliceStr .. | .makeFunc .. | .extract .. | .lenStr _ | .lenSl _ | .minmax .. | .eqNil .. => 0
  | .toStr _ | .load .. | .fieldAddr .. | .indexSl .. | .indexArr .. | .sliceSl .. | .lenMap _ => 1
  | .call (.fn f) _ => if pu.contains f then 1 else 2
  | _ => 2

def MO.reads (o : MO) : List MX := o.op.xs ++ (match o.guard with | some (x, _) => [x] | none => [])
def readsT (j : Nat) (o : MO) : Bool := o.reads.any fun x => match x with | .tmp i => i == j | _ => false
def readsV (j : Nat) (o : MO) : Bool := o.reads.any fun x => match x with | .var i => i == j | _ => false
/-- two operations, at i and at j, of which either may come first -/
def free2 (pu : List FuncId) (i j : Nat) (x y : MO) : Bool :=
  (opKind pu x.op == 0 || opKind pu y.op == 0 || (opKind pu x.op == 1 && opKind pu y.op == 1)) && !readsT i y && !readsT j x &&
  (match x.dst with | some d => !readsV d y && !(y.dst == some d) | none => true) && (match y.dst with | some d => !readsV d x | none => true)
def afterBits (b : Array Nat) (o : Oper) : Nat := o.after.toList.foldl (fun s e => if Region.binds .any e then s ||| 2 ^ e.on ||| b.getD e.on 0 else s) 0
/-- every order is as good as the text's -/
def orderFree (pu : List FuncId) (ops : Array Oper) (mos : List MO) (b : Array Nat) : Bool :=
  mos.length == ops.size &&
  (List.range ops.size).all fun j => match ops[j]? with
    | none => false
    | some o => (b.getD j 0 == afterBits b o) && o.after.toList.all (fun e => !Region.binds .any e || Nat.blt e.on j) &&
      (List.range j).all fun i => (b.getD j 0).testBit i || (match mos[i]?, mos[j]? with | some x, some y => free2 pu i j x y | _, _ => false)

abbrev Hints := List (List Nat) × List (List Nat)

/-- 'inR': within a round of a loop over a function -/
def compC (P : Program) (N : Nat) (vs : List Nat) (pu : List FuncId) (inR : Bool) : Code → Hints → MC × Hints
  | .skip, h | .label _, h => (.skip, h)
  | .region _ ops draw, h =>
    if draw then (if P.follows .mixedOrders && orderFree pu ops (compOps P N vs ops ops.toList []) (Region.before ops) then .region (compOps P N vs ops ops.toList []) else .bad, h)
    else (.region (compOps P N vs ops ops.toList []), h)
  | .seq a b, h =>
    let x := compC P N vs pu inR a h
    let y := compC P N vs pu inR b x.2
    (.seq x.1 y.1, y.2)
  | .cond c a b, h => match cxOf vs [] c with
    | some z =>
      let x := compC P N vs pu inR a h
      let y := compC P N vs pu inR b x.2
      (.cond z x.1 y.1, y.2)
    | none => (.bad, h)
  | .block id a, h =>
    let x := compC P N vs pu inR a h
    match x.2.2 with
    | [] => (.block id x.1, x.2)
    | m :: r => (.seq (.block id x.1) (.kill m), (x.2.1, r))
  | .loop a, h => let x := compC P N vs pu inR a (h.1.tail, h.2); (.loop (h.1.headD []) x.1, x.2)
  | .rangeFunc f ps a b, h => match inR, cxOf vs [] f, idxAll vs ps.toList with
    | false, some z, some is =>
      let x := compC P N vs pu true a h
      let y := compC P N vs pu true b x.2
      (.rangeFunc z is x.1 y.1, y.2)
    | _, _, _ => (.bad, h)
  | .exit id, h => (.exit id, h)
  | .scope a, h => let x := compC P N vs pu inR a h; (.scope x.1, x.2)
  | .ret, h => (.ret, h)
  | _, h => (.bad, h)

end Go.Proofs.YtnpmfpcppkdniaaDoor
