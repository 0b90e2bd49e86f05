/-
  Operations that leave the world alone: what they yield on trees, and that the model agrees. Program-independent.
-/
import Derived.Test.YtnpmfpcppkdniaaDoorEv2
import Derived.Lib.Strings
import Derived.Lib.Bytealg
namespace Go.Proofs.YtnpmfpcppkdniaaDoor
open Go

/-- The cells of a tree. -/
def cellsOf : AV → List AV
  | .agg cs => cs
  | a => [a]
/-- A tree whose value has as many cells as 'cellsOf' says. -/
def AV.solid : AV → Bool
  | .undef | .tup _ => false
  | _ => true

theorem VRel.cells {w : World} {OK : Nat → Prop} {g : Ghost} {v : Value} {a : AV} (h : VRel w OK g v a) (hs : a.solid = true) :
    v.cells.size = (cellsOf a).length ∧ okCells v ∧ ∀ i (hi : i < (cellsOf a).length), ∃ x, v.cells[i]? = some x ∧ x.oneCell' = true ∧ VRel w OK g x (cellsOf a)[i] := by
  cases h with
  | undef => simp [AV.solid] at hs
  | tup => simp [AV.solid] at hs
  | agg _ vs cs hl vals hg hv =>
    refine ⟨by simpa [Value.cells, cellsOf] using hl, fun x hx => ?_, fun i hi => ⟨vals i, by simpa [Value.cells] using (hg i hi).1, (hg i hi).2, hv i hi⟩⟩
    simp only [Value.cells, Array.mem_toList_iff] at hx
    obtain ⟨i, hi, rfl⟩ := Array.mem_iff_getElem.1 hx
    have := hg i (by omega)
    rw [Array.getElem?_eq_getElem hi] at this
    obtain ⟨h1, h2⟩ := this
    injection h1 with h1
    rw [h1]; exact h2
  | bool _ b => exact ⟨rfl, by simp [okCells, Value.cells, Value.oneCell'], fun i hi => by simp [cellsOf] at hi; subst hi; exact ⟨_, rfl, rfl, .bool _ _⟩⟩
  | int _ k n => exact ⟨rfl, by simp [okCells, Value.cells, Value.oneCell'], fun i hi => by simp [cellsOf] at hi; subst hi; exact ⟨_, rfl, rfl, .int _ _ _⟩⟩
  | str _ s l h => exact ⟨rfl, by simp [okCells, Value.cells, Value.oneCell'], fun i hi => by simp [cellsOf] at hi; subst hi; exact ⟨_, rfl, rfl, .str _ _ _ h⟩⟩
  | nilS _ p => exact ⟨rfl, by simp [okCells, Value.cells, Value.oneCell'], fun i hi => by simp [cellsOf] at hi; subst hi; exact ⟨_, rfl, rfl, .nilS _ p⟩⟩
  | nilP => exact ⟨rfl, by simp [okCells, Value.cells, Value.oneCell'], fun i hi => by simp [cellsOf] at hi; subst hi; exact ⟨_, rfl, rfl, .nilP _⟩⟩
  | nilM => exact ⟨rfl, by simp [okCells, Value.cells, Value.oneCell'], fun i hi => by simp [cellsOf] at hi; subst hi; exact ⟨_, rfl, rfl, .nilM _⟩⟩
  | nilF => exact ⟨rfl, by simp [okCells, Value.cells, Value.oneCell'], fun i hi => by simp [cellsOf] at hi; subst hi; exact ⟨_, rfl, rfl, .nilF _⟩⟩
  | nilI => exact ⟨rfl, by simp [okCells, Value.cells, Value.oneCell'], fun i hi => by simp [cellsOf] at hi; subst hi; exact ⟨_, rfl, rfl, .nilI _⟩⟩
  | fs _ b o cap esz T c fz es vals hb hh hcap hv hss hc => exact ⟨rfl, by simp [okCells, Value.cells, Value.oneCell'], fun i hi => by simp [cellsOf] at hi; subst hi; exact ⟨_, rfl, rfl, .fs _ b o cap esz T c fz es vals hb hh hcap hv hss hc⟩⟩
  | sl _ id off len cap ao inc hi hl hn hcap ha => exact ⟨rfl, by simp [okCells, Value.cells, Value.oneCell'], fun i h => by simp [cellsOf] at h; subst h; exact ⟨_, rfl, rfl, .sl _ id off len cap ao inc hi hl hn hcap ha⟩⟩
  | ptr _ id i o ao inc hi hn ho ha => exact ⟨rfl, by simp [okCells, Value.cells, Value.oneCell'], fun j h => by simp [cellsOf] at h; subst h; exact ⟨_, rfl, rfl, .ptr _ id i o ao inc hi hn ho ha⟩⟩
  | fp _ b o T c fz cs vals hb hh hne hv hc => exact ⟨rfl, by simp [okCells, Value.cells, Value.oneCell'], fun i hi => by simp [cellsOf] at hi; subst hi; exact ⟨_, rfl, rfl, .fp _ b o T c fz cs vals hb hh hne hv hc⟩⟩
  | func _ fn vs1 vs2 cs1 cs2 hl1 hl2 vals1 vals2 hg1 hg2 hv1 hv2 => exact ⟨rfl, by simp [okCells, Value.cells, Value.oneCell'], fun i hi => by simp [cellsOf] at hi; subst hi; exact ⟨_, rfl, rfl, .func _ fn vs1 vs2 cs1 cs2 hl1 hl2 vals1 vals2 hg1 hg2 hv1 hv2⟩⟩
  | map _ id inc hi => exact ⟨rfl, by simp [okCells, Value.cells, Value.oneCell'], fun i h => by simp [cellsOf] at h; subst h; exact ⟨_, rfl, rfl, .map _ id inc hi⟩⟩
  | iface _ t v a hv => exact ⟨rfl, by simp [okCells, Value.cells, Value.oneCell'], fun i hi => by simp [cellsOf] at hi; subst hi; exact ⟨_, rfl, rfl, .iface _ t v a hv⟩⟩

/-- An operation that leaves the world alone and yields r. -/
def Yields' (P : Program) (w : World) (OK : Nat → Prop) (g : Ghost) (s : Sem Value) (r : AV) : Prop := ∃ v, s.run P w = .ok v w ∧ VRel w OK g v r

section
variable {P : Program} {w : World} {OK : Nat → Prop} {g : Ghost}

theorem bytes_eq (x y : ByteArray) : (x.toList == y.toList) = (x.data.toList == y.data.toList) := by
  rw [Lib.toList_data, Lib.toList_data]

/-- '&', '|', '^', '&^' on integers -/
def andI (k : IntKind) (x y : Int) : Int := k.wrap ((BitVec.ofInt k.bits x &&& BitVec.ofInt k.bits y).toNat : Int)
def orI (k : IntKind) (x y : Int) : Int := k.wrap ((BitVec.ofInt k.bits x ||| BitVec.ofInt k.bits y).toNat : Int)
def xorI (k : IntKind) (x y : Int) : Int := k.wrap ((BitVec.ofInt k.bits x ^^^ BitVec.ofInt k.bits y).toNat : Int)
def andNotI (k : IntKind) (x y : Int) : Int := k.wrap ((BitVec.ofInt k.bits x &&& ~~~(BitVec.ofInt k.bits y)).toNat : Int)

def evBin (op : BinOp) : AV → AV → Option AV
  | .int k a, .int k' b =>
    match op with
    | .shl => if b < 0 then none else some (.int k (k.wrap (a * 2 ^ (min b.toNat k.bits))))
    | .shr => if b < 0 then none else some (.int k (a.fdiv (2 ^ (min b.toNat k.bits))))
    | .add => if k = k' then some (.int k (k.wrap (a + b))) else none
    | .sub => if k = k' then some (.int k (k.wrap (a - b))) else none
    | .mul => if k = k' then some (.int k (k.wrap (a * b))) else none
    | .quo => if k = k' then (if b = 0 then none else some (.int k (k.wrap (a.tdiv b)))) else none
    | .rem => if k = k' then (if b = 0 then none else some (.int k (a.tmod b))) else none
    | .and => if k = k' then some (.int k (andI k a b)) else none
    | .or => if k = k' then some (.int k (orI k a b)) else none
    | .xor => if k = k' then some (.int k (xorI k a b)) else none
    | .andNot => if k = k' then some (.int k (andNotI k a b)) else none
    | .eql => if k = k' then some (.bool (a == b)) else none
    | .neq => if k = k' then some (.bool (a != b)) else none
    | .lss => if k = k' then some (.bool (decide (a < b))) else none
    | .leq => if k = k' then some (.bool (decide (a ≤ b))) else none
    | .gtr => if k = k' then some (.bool (decide (b < a))) else none
    | .geq => if k = k' then some (.bool (decide (b ≤ a))) else none
  | .str a, .str b =>
    match op with
    | .add => if a.length + b.length ≤ 9223372036854775807 then some (.str (a ++ b)) else none
    | .eql => some (.bool (a == b))
    | .neq => some (.bool (!(a == b)))
    | .lss => some (.bool (Op.bytesLess a b))
    | .leq => some (.bool (Op.bytesLess a b || a == b))
    | .gtr => some (.bool (!(Op.bytesLess a b || a == b)))
    | .geq => some (.bool (!(Op.bytesLess a b)))
    | _ => none
  | _, _ => none

theorem i64max : IntKind.i64.max = 9223372036854775807 := by decide

theorem evBin_sound {op : BinOp} {t : TypeId} {x y : Operand} {v1 v2 : Value} {a1 a2 r : AV} (h1 : VRel w OK g v1 a1) (h2 : VRel w OK g v2 a2) (he : evBin op a1 a2 = some r) :
    Yields' P w OK g (do eqGuard op t x y v1 v2; binOp op t v1 v2) r := by
  unfold evBin at he
  split at he
  · cases h1; cases h2
    rename_i k a k' b
    cases op <;> simp only [Option.ite_none_left_eq_some, Option.ite_none_right_eq_some, Option.some.injEq] at he
    case shl | shr =>
      obtain ⟨hb, rfl⟩ := he
      refine ⟨_, ?_, .int _ _ _⟩
      simp [eqGuard, binOp, Op.shift, hb]
    case quo | rem =>
      obtain ⟨rfl, hb, rfl⟩ := he
      refine ⟨_, ?_, .int _ _ _⟩
      simp [eqGuard, binOp, Op.intDiv, hb]
    case add | sub | mul =>
      obtain ⟨rfl, rfl⟩ := he
      refine ⟨_, ?_, .int _ _ _⟩
      simp [eqGuard, binOp, Op.intArith]
    case and | or | xor | andNot =>
      obtain ⟨rfl, rfl⟩ := he
      refine ⟨_, ?_, .int _ _ _⟩
      simp [eqGuard, binOp, Op.intBits, andI, orI, xorI, andNotI]
    all_goals
      obtain ⟨rfl, rfl⟩ := he
      refine ⟨_, ?_, .bool _ _⟩
      simp [eqGuard, binOp, Op.intCmp]
  · rename_i l l'
    cases h1 with
    | str _ s _ h =>
    cases h2 with
    | str _ s' _ h' =>
    have e1 : (s.toList == s'.toList) = (l == l') := by rw [bytes_eq, h, h']
    have e2 : s.toList = l := by rw [Lib.toList_data, h]
    have e3 : s'.toList = l' := by rw [Lib.toList_data, h']
    have e4 : s.size = l.length := by rw [← h, Array.length_toList]; rfl
    have e5 : s'.size = l'.length := by rw [← h', Array.length_toList]; rfl
    cases op <;> simp only [Option.ite_none_left_eq_some, Option.ite_none_right_eq_some, Option.some.injEq, reduceCtorEq] at he
    case add =>
      obtain ⟨hb, rfl⟩ := he
      refine ⟨.string (s ++ s'), ?_, .str _ _ _ (by simp [h, h'])⟩
      have : ¬ (((s.size + s'.size : Nat) : Int) > IntKind.i64.max) := by rw [i64max, e4, e5]; omega
      simp only [eqGuard, binOp, Op.stringOp, if_neg this]
      simp
    all_goals
      subst he
      refine ⟨_, ?_, .bool _ _⟩
      simp [eqGuard, binOp, Op.stringOp, e2, e3]
  · cases he

def evEqBool (neg : Bool) : AV → AV → Option AV
  | .bool a, .bool b => some (.bool (if neg then !(a == b) else a == b))
  | _, _ => none
theorem evEqBool_sound {neg : Bool} {t : TypeId} {x y : Operand} {v1 v2 : Value} {a1 a2 r : AV} (ht : P.underlying t = some .bool) (h1 : VRel w OK g v1 a1) (h2 : VRel w OK g v2 a2) (he : evEqBool neg a1 a2 = some r) :
    Yields' P w OK g (do eqGuard (if neg then .neq else .eql) t x y v1 v2; binOp (if neg then .neq else .eql) t v1 v2) r := by
  unfold evEqBool at he
  split at he
  · cases h1; cases h2
    rename_i a b
    injection he with he; subst he
    have heq : (Op.equal t (.bool a) (.bool b)).run P w = .ok (a == b) w := by
      show (Op.equalIn (9999 + 1) t (.bool a) (.bool b)).run P w = _
      rw [Op.equalIn]
      simp [underlying, ht]
    refine ⟨_, ?_, .bool _ _⟩
    cases neg <;> simp only [eqGuard, binOp, Sem.run_bind, heq, Result.andThen_ok, if_true, if_false, Bool.false_eq_true, Bool.not_false, Bool.not_true, Sem.run_pure, reduceIte] <;> simp [heq]
  · cases he

def evUn (op : UnOp) : AV → Option AV
  | .int k n => match op with
    | .neg => some (.int k (k.wrap (0 - n)))
    | .xor => some (.int k (xorI k (if k.signed then -1 else k.max) n))
    | _ => none
  | .bool b => match op with
    | .not => some (.bool (!b))
    | _ => none
  | _ => none
theorem evUn_sound {op : UnOp} {v : Value} {a r : AV} (h : VRel w OK g v a) (he : evUn op a = some r) : Yields' P w OK g (Op.unary op v) r := by
  unfold evUn at he
  split at he
  · cases h
    split at he <;> simp at he <;> subst he <;> refine ⟨_, ?_, .int _ _ _⟩ <;> simp [Op.unary, Op.intArith, Op.intBits, xorI]
  · cases h
    split at he <;> simp at he
    subst he; refine ⟨_, ?_, .bool _ _⟩; simp [Op.unary]
  · cases he

/-- a conversion to an integer kind -/
def evConvInt (k : IntKind) : AV → Option AV
  | .int _ n => some (.int k (k.wrap n))
  | _ => none
theorem evConvInt_sound {s t : TypeId} {d : TypeDesc} {k : IntKind} {v : Value} {a r : AV} (hs : P.underlying s = some d) (ht : P.underlying t = some (.int k)) (h : VRel w OK g v a) (he : evConvInt k a = some r) :
    Yields' P w OK g (convert s t v) r := by
  unfold evConvInt at he
  split at he
  · cases h
    injection he with he; subst he
    refine ⟨_, ?_, .int _ _ _⟩
    simp [convert, underlying, hs, ht, Conv.intToInt]
  · cases he
end
end Go.Proofs.YtnpmfpcppkdniaaDoor
