/-
  The operations in a form that names no type any more, their evaluation on trees, and that the model agrees. Program-independent.
-/
import Derived.Test.YtnpmfpcppkdniaaDoorEv11
namespace Go.Proofs.YtnpmfpcppkdniaaDoor
open Go

inductive MX where
  | var (i : Nat)
  | tmp (j : Nat)
  | cst (a : AV)
  | glob (g : Nat)
  | fn (f : FuncId)

inductive MOp where
  | mv (x : MX)
  | pick (c a b : MX)
  | bin (op : BinOp) (x y : MX)
  | eqBool (neg : Bool) (x y : MX)
  | un (op : UnOp) (x : MX)
  | convInt (k : IntKind) (x : MX)
  | same (x : MX)
  | toStr (x : MX)
  | toBytes (x : MX)
  | alloc (size : Nat) (z : AV)
  | allocArr (n esz : Nat) (z : AV)
  | box (x : MX)
  | build (zs : List AV) (parts : List (Nat × Nat × MX))
  | buildSlice (esz : Nat) (xs : List MX)
  | load (agg : Bool) (size : Nat) (p : MX)
  | store (size : Nat) (p v : MX)
  | nilCheck (x : MX)
  | fieldAddr (off : Nat) (x : MX)
  | part (agg : Bool) (off size : Nat) (x : MX)
  | indexSl (esz : Nat) (x i : MX)
  | indexArr (n s : Nat) (x i : MX)
  | indexVal (agg : Bool) (n s : Nat) (x i : MX)
  | indexStr (x i : MX)
  | sliceStr (x : MX) (lo hi : Option MX)
  | sliceSl (esz : Nat) (x : MX) (lo hi : Option MX)
  | makeSlice (esz bytes : Nat) (z : AV) (l c : MX)
  | makeFunc (fn : Fn) (first cap : List MX)
  | extract (x : MX) (k : Nat)
  | lenStr (x : MX)
  | lenSl (x : MX)
  | lenMap (x : MX)
  | minmax (isMax : Bool) (x : MX) (xs : List MX)
  | append (esz bytes : Nat) (s x : MX)
  | copy (esz : Nat) (d s : MX)
  | eqNil (kind : Nat) (neg : Bool) (x : MX)
  | call (f : MX) (args : List MX)

/-- a constant's tree -/
def ofCell : Value → Option AV
  | .bool b => some (.bool b)
  | .int k n => some (.int k n)
  | .string s => some (.str s.data.toList)
  | .slice none 0 0 => some .nilS
  | .pointer none => some .nilP
  | .map none => some .nilM
  | .nilFunc => some .nilF
  | .nilIface => some .nilI
  | _ => none
def ofCells : List Value → Option (List AV)
  | [] => some []
  | v :: r => match ofCell v, ofCells r with
    | some a, some l => some (a :: l)
    | _, _ => none
def ofValue : Value → Option AV
  | .agg cs => (ofCells cs.toList).map .agg
  | v => ofCell v

section
variable {P : Program} {w : World} {OK : Nat → Prop} {g : Ghost} {A : Arena}

theorem ofCell_rel {v : Value} {a : AV} (h : ofCell v = some a) : VRel w OK g v a ∧ v.oneCell' = true := by
  unfold ofCell at h
  split at h <;> simp at h <;> subst h
  · exact ⟨.bool _ _, rfl⟩
  · exact ⟨.int _ _ _, rfl⟩
  · exact ⟨.str _ _ _ rfl, rfl⟩
  · exact ⟨.nilS _ _, rfl⟩
  · exact ⟨.nilP _, rfl⟩
  · exact ⟨.nilM _, rfl⟩
  · exact ⟨.nilF _, rfl⟩
  · exact ⟨.nilI _, rfl⟩
theorem ofCells_rel : ∀ {vs : List Value} {as : List AV}, ofCells vs = some as → vs.length = as.length ∧ ∀ i (h1 : i < vs.length) (h2 : i < as.length), VRel w OK g vs[i] as[i] ∧ (vs[i]).oneCell' = true
  | [], as, h => by injection h with h; subst h; exact ⟨rfl, fun i h1 => by simp at h1⟩
  | v :: r, as, h => by
    unfold ofCells at h
    split at h
    · rename_i a l h1 h2
      injection h with h; subst h
      obtain ⟨k1, k2⟩ := ofCells_rel (vs := r) h2
      refine ⟨by simp [k1], fun i h3 h4 => ?_⟩
      cases i with
      | zero => exact ofCell_rel h1
      | succ i => exact k2 i (by simpa using h3) (by simpa using h4)
    · cases h
theorem ofCells_cellsRel {vs : Array Value} {as : List AV} (h : ofCells vs.toList = some as) : CellsRel w OK g vs as := by
  obtain ⟨h1, h2⟩ := ofCells_rel (w := w) (OK := OK) (g := g) h
  refine ⟨by simpa using h1, fun i hi => ?_⟩
  have hi' : i < vs.size := by simp at h1; omega
  have := h2 i (by simpa using hi') hi
  exact ⟨vs[i], by simp [hi'], by simpa using this.2, by simpa using this.1⟩
theorem ofValue_rel {v : Value} {a : AV} (h : ofValue v = some a) : VRel w OK g v a := by
  unfold ofValue at h
  split at h
  · simp only [Option.map_eq_some_iff] at h
    obtain ⟨l, h1, rfl⟩ := h
    exact (ofCells_cellsRel h1).agg
  · exact (ofCell_rel h).1

/-- is it nil? By the kind of its type: 0 a pointer, 1 a slice, 2 a map, 3 a function, 4 an interface -/
def isNilA : Nat → AV → Option Bool
  | 0, .nilP => some true
  | 0, .ptr .. => some false
  | 0, .fp .. => some false
  | 1, .sl .. => some false
  | 1, .fs .. => some false
  | 2, .nilM => some true
  | 2, .map .. => some false
  | 3, .nilF => some true
  | 3, .func .. => some false
  | 4, .nilI => some true
  | 4, .iface .. => some false
  | _, _ => none

/-- the evaluation of an operation that is no call -/
def evOp (ρ : MX → AV) (A : Arena) : MOp → Option (AV × Arena)
  | .mv x => some (ρ x, A)
  | .pick c a b => match ρ c with
    | .bool t => some (if t then ρ a else ρ b, A)
    | _ => none
  | .bin op x y => (evBin op (ρ x) (ρ y)).map (·, A)
  | .eqBool neg x y => (evEqBool neg (ρ x) (ρ y)).map (·, A)
  | .un op x => (evUn op (ρ x)).map (·, A)
  | .convInt k x => (evConvInt k (ρ x)).map (·, A)
  | .same x => match ρ x with
    | .str s => some (.str s, A)
    | _ => none
  | .toStr x => (evToStr A (ρ x)).map (·, A)
  | .toBytes x => evToBytes A (ρ x)
  | .alloc size z => evBox size z A
  | .allocArr n esz z => evAllocArr n esz z A
  | .box x => evBox (cellsOf (ρ x)).length (ρ x) A
  | .build zs parts => (fillA zs (parts.map fun x => (x.1, x.2.1, ρ x.2.2))).map fun l => (.agg l, A)
  | .buildSlice esz xs => evBuildSlice esz (xs.map ρ) A
  | .load agg size p => (evLoad agg size A (ρ p)).map (·, A)
  | .store size p v => (evStore size A (ρ p) (ρ v)).map fun A' => (.undef, A')
  | .nilCheck x => (evNilCheck (ρ x)).map (·, A)
  | .fieldAddr off x => (evFieldAddr off A (ρ x)).map (·, A)
  | .part agg off size x => (evPart agg off size (ρ x)).map (·, A)
  | .indexSl esz x i => (evIndexSl esz A (ρ x) (ρ i)).map (·, A)
  | .indexArr n s x i => (evIndexArr n s A (ρ x) (ρ i)).map (·, A)
  | .indexVal agg n s x i => (evIndexVal agg n s (ρ x) (ρ i)).map (·, A)
  | .indexStr x i => (evIndexStr (ρ x) (ρ i)).map (·, A)
  | .sliceStr x lo hi => (evSliceStr (lo.map ρ) (hi.map ρ) (ρ x)).map (·, A)
  | .sliceSl esz x lo hi => (evSliceSl esz A (lo.map ρ) (hi.map ρ) (ρ x)).map (·, A)
  | .makeSlice esz bytes z l c => evMake esz bytes z A (ρ l) (ρ c)
  | .makeFunc fn first cap => some (.func fn (first.map ρ) (cap.map ρ), A)
  | .extract x k => (evExtract k (ρ x)).map (·, A)
  | .lenStr x => (evLenStr (ρ x)).map (·, A)
  | .lenSl x => (evLenSl (ρ x)).map (·, A)
  | .lenMap x => (evLenMap A (ρ x)).map (·, A)
  | .minmax isMax x xs => (evMinL isMax (ρ x) (xs.map ρ)).map (·, A)
  | .append esz bytes s x => evAppend esz bytes A (ρ s) (ρ x)
  | .copy esz d s => evCopy esz A (ρ d) (ρ s)
  | .eqNil kind neg x => (isNilA kind (ρ x)).map fun b => (.bool (if neg then !b else b), A)
  | .call _ _ => none

def cxs (cx : Operand → Option MX) : List Operand → Option (List MX)
  | [] => some []
  | x :: r => match cx x, cxs cx r with
    | some y, some l => some (y :: l)
    | _, _ => none
def cxo (cx : Operand → Option MX) : Option Operand → Option (Option MX)
  | none => some none
  | some x => (cx x).map some
def cxParts (cx : Operand → Option MX) (place : Nat → Option (Nat × Nat)) : List (Nat × Operand) → Option (List (Nat × Nat × MX))
  | [] => some []
  | (i, x) :: r => match place i, cx x, cxParts cx place r with
    | some (off, size), some y, some l => some ((off, size, y) :: l)
    | _, _, _ => none
def cxSeq (cx : Operand → Option MX) : Nat → List (Nat × Operand) → Option (List MX)
  | _, [] => some []
  | k, (i, x) :: r => if i = k then (match cx x, cxSeq cx (k + 1) r with
    | some y, some l => some (y :: l)
    | _, _ => none) else none
def fieldPlaces (P : Program) : List Field → Option (List (Nat × Nat))
  | [] => some []
  | f :: r => match P.info? f.type, fieldPlaces P r with
    | some i, some l => some ((f.offset, i.size) :: l)
    | _, _ => none
def nilConst : Nat → Value → Bool
  | 0, .pointer none => true
  | 1, .slice none 0 0 => true
  | 2, .map none => true
  | 3, .nilFunc => true
  | 4, .nilIface => true
  | _, _ => false
def nilKind : TypeDesc → Nat
  | .pointer _ => 0
  | .slice _ => 1
  | .map .. => 2
  | .func .. => 3
  | .interface _ => 4
  | _ => 5
def isIntT (P : Program) (t : TypeId) : Bool := match P.underlying t with | some (.int _) => true | some .string => true | _ => false

def compOp (P : Program) (cx : Operand → Option MX) : Op → Option MOp
  | .move x | .assign x => do some (.mv (← cx x))
  | .pick c a b => do some (.pick (← cx c) (← cx a) (← cx b))
  | .binOp op t x y _ =>
    match P.underlying t with
    | some (.int _) | some .string => do some (.bin op (← cx x) (← cx y))
    | some .bool => match op with
      | .eql => do some (.eqBool false (← cx x) (← cx y))
      | .neq => do some (.eqBool true (← cx x) (← cx y))
      | _ => none
    | some d => match op, y with
      | .eql, .const v => if nilConst (nilKind d) v then do some (.eqNil (nilKind d) false (← cx x)) else none
      | .neq, .const v => if nilConst (nilKind d) v then do some (.eqNil (nilKind d) true (← cx x)) else none
      | _, _ => none
    | none => none
  | .unOp op _ x => do some (.un op (← cx x))
  | .convert s t x =>
    match P.underlying s, P.underlying t with
    | some (.int _), some (.int k) => do some (.convInt k (← cx x))
    | some .string, some .string => do some (.same (← cx x))
    | some .string, some (.slice e) => match P.underlying e with
      | some (.int .u8) => do some (.toBytes (← cx x))
      | _ => none
    | some (.slice e), some .string => match P.underlying e with
      | some (.int .u8) => do some (.toStr (← cx x))
      | _ => none
    | _, _ => none
  | .alloc t =>
    do
      let i ← P.info? t
      let z ← i.zero
      let za ← ofValue z
      some (.alloc i.size za)
  | .box _ x => do some (.box (← cx x))
  | .build t parts =>
    match P.underlying t with
    | some (.struct fields) => do
      let i ← P.info? t
      let z ← i.zero
      let zs ← ofCells z.cells.toList
      let places ← fieldPlaces P fields.toList
      some (.build zs (← cxParts cx (places[·]?) parts.toList))
    | some (.array _ e) => do
      let i ← P.info? t
      let ie ← P.info? e
      let z ← i.zero
      let zs ← ofCells z.cells.toList
      some (.build zs (← cxParts cx (fun k => some (k * ie.size, ie.size)) parts.toList))
    | _ => none
  | .buildSlice t n parts =>
    match P.underlying t with
    | some (.slice e) => do
      let ie ← P.info? e
      let _ ← ie.zero
      let xs ← cxSeq cx 0 parts.toList
      if xs.length = n then some (.buildSlice ie.size xs) else none
    | _ => none
  | .load t p => do
    let i ← P.info? t
    let b ← isAggB P t
    some (.load b i.size (← cx p))
  | .store t p v => do
    let i ← P.info? t
    some (.store i.size (← cx p) (← cx v))
  | .nilCheck x => do some (.nilCheck (← cx x))
  | .fieldAddr s x k =>
    match P.underlying s with
    | some (.struct fields) => do
      let f ← fields[k]?
      let i ← P.info? f.type
      if i.size ≠ 0 then some (.fieldAddr f.offset (← cx x)) else none
    | _ => none
  | .field s x k =>
    match P.underlying s with
    | some (.struct fields) => do
      let f ← fields[k]?
      let i ← P.info? f.type
      let b ← isAggB P f.type
      some (.part b f.offset i.size (← cx x))
    | _ => none
  | .indexAddr t x k =>
    match P.underlying t with
    | some (.slice e) => do
      let i ← P.info? e
      some (.indexSl i.size (← cx x) (← cx k))
    | some (.array n e) => do
      let i ← P.info? e
      some (.indexArr n i.size (← cx x) (← cx k))
    | _ => none
  | .index t x k =>
    match P.underlying t with
    | some .string => do some (.indexStr (← cx x) (← cx k))
    | some (.array n e) => do
      let i ← P.info? e
      let b ← isAggB P e
      some (.indexVal b n i.size (← cx x) (← cx k))
    | _ => none
  | .slice t x lo hi none =>
    match P.underlying t with
    | some .string => do some (.sliceStr (← cx x) (← cxo cx lo) (← cxo cx hi))
    | some (.slice e) => do
      let i ← P.info? e
      some (.sliceSl i.size (← cx x) (← cxo cx lo) (← cxo cx hi))
    | _ => none
  | .makeSlice t l c =>
    match P.underlying t with
    | some (.slice e) => do
      let i ← P.info? e
      let z ← i.zero
      let za ← ofValue z
      if z.cells.size = i.size then some (.makeSlice i.size i.bytes za (← cx l) (← cx c)) else none
    | _ => none
  | .makeFunc fn first cap => do some (.makeFunc fn (← cxs cx first.toList) (← cxs cx cap.toList))
  | .extract x k => do some (.extract (← cx x) k)
  | .call c =>
    match c.callee with
    | .builtin .len =>
      match c.argTypes, c.args with
      | ⟨[t]⟩, ⟨[x]⟩ =>
        match P.underlying t with
        | some .string => do some (.lenStr (← cx x))
        | some (.slice _) => do some (.lenSl (← cx x))
        | some (.map ..) => do some (.lenMap (← cx x))
        | some (.array n _) => some (.mv (.cst (.int .i64 n)))
        | _ => none
      | _, _ => none
    | .builtin .min => match c.args with
      | ⟨x :: r⟩ => do some (.minmax false (← cx x) (← cxs cx r))
      | _ => none
    | .builtin .max => match c.args with
      | ⟨x :: r⟩ => do some (.minmax true (← cx x) (← cxs cx r))
      | _ => none
    | .builtin .append =>
      match c.argTypes, c.args with
      | ⟨[t, xt]⟩, ⟨[s, x]⟩ =>
        match P.underlying t with
        | some (.slice e) => do
          let i ← P.info? e
          let z ← i.zero
          let d ← P.underlying xt
          if z.cells.size = i.size ∧ (match d with | .slice _ => true | .string => true | _ => false) = true then some (.append i.size i.bytes (← cx s) (← cx x)) else none
        | _ => none
      | _, _ => none
    | .builtin .copy =>
      match c.argTypes, c.args with
      | ⟨[t, _]⟩, ⟨[d, s]⟩ =>
        match P.underlying t with
        | some (.slice e) => do
          let i ← P.info? e
          some (.copy i.size (← cx d) (← cx s))
        | _ => none
      | _, _ => none
    | .value f => do some (.call (← cx f) (← cxs cx c.args.toList))
    | _ => none
  | _ => none
end
end Go.Proofs.YtnpmfpcppkdniaaDoor
