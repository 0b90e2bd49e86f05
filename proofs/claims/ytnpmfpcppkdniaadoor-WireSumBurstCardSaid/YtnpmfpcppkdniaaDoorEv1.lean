/-
  Values as trees, and the relation between them and the model's values in a world: 'VRel', 'ARel', 'Ext'. Program-independent.
-/
import Derived.CallsIn
import Derived.OrdersIn
import Derived.Laws.Sem
import Derived.Laws.Cells
import Derived.Laws.World
import Derived.Below
namespace Go.Proofs.YtnpmfpcppkdniaaDoor
open Go

/-- A value as a tree. 'fs': a slice of memory that nobody writes any more; 'sl', 'ptr', 'map': into the arena; 'fp': a pointer to memory that nobody writes. -/
inductive AV where
  | undef
  | bool (b : Bool)
  | int (k : IntKind) (n : Int)
  | str (s : List UInt8)
  /-- a slice without elements and without room, nil or not -/
  | nilS
  | nilP
  | nilM
  | nilF
  | nilI
  | fs (esz : Nat) (es : List AV)
  | sl (id off len : Nat)
  | ptr (id i o : Nat)
  | fp (cs : List AV)
  | agg (cs : List AV)
  | tup (vs : List AV)
  | func (fn : Fn) (first cap : List AV)
  | map (id : Nat)
  | iface (t : TypeId) (v : AV)

/-- An entry of the arena. -/
inductive Ent where
  | row (esz : Nat) (grown : Bool) (es : List AV)
  | map (kvs : List (AV × AV))
  | loop (r : Loop) (k : Nat)
  | dead

/-- The record of a loop over a function: ready, or left by a jump. -/
def recOf (r : Loop) (k : Nat) : Loop := if k = 0 then { r with state := .ready, pending := none } else { r with state := .done, pending := some (if k = 1 then .ret else .exit (k - 2)) }

abbrev Arena := List Ent

/-- Each cell of a value is a value of one cell. -/
def okCells (v : Value) : Prop := ∀ x ∈ v.cells.toList, x.oneCell' = true

/-- A block in which an entry lies. -/
structure Inc where
  b : Nat
  o : Nat
  n : Nat
  cap : Nat
  esz : Nat

abbrev Ghost := Nat → List Inc
def Ghost.none : Ghost := fun _ => []

inductive VRel (w : World) (OK : Nat → Prop) : Ghost → Value → AV → Prop
  | undef (g : Ghost) (v : Value) : VRel w OK g v .undef
  | bool (g : Ghost) (b : Bool) : VRel w OK g (.bool b) (.bool b)
  | int (g : Ghost) (k : IntKind) (n : Int) : VRel w OK g (.int k n) (.int k n)
  | str (g : Ghost) (s : ByteArray) (l : List UInt8) (h : s.data.toList = l) : VRel w OK g (.string s) (.str l)
  | nilS (g : Ghost) (p : Option Addr) : VRel w OK g (.slice p 0 0) .nilS
  | nilP (g : Ghost) : VRel w OK g (.pointer Option.none) .nilP
  | nilM (g : Ghost) : VRel w OK g (.map Option.none) .nilM
  | nilF (g : Ghost) : VRel w OK g .nilFunc .nilF
  | nilI (g : Ghost) : VRel w OK g .nilIface .nilI
  | fs (g : Ghost) (b o cap esz : Nat) (T : TypeId) (c : Array Value) (fz : Nat × Nat) (es : List AV) (vals : Nat → Value)
      (hb : OK b) (hh : w.heap[b]? = some (.cells c T fz)) (hcap : es.length ≤ cap)
      (hv : ∀ i (h : i < es.length), VRel w OK Ghost.none (vals i) es[i])
      (hs : ∀ i, i < es.length → (vals i).cells.size = esz ∧ okCells (vals i))
      (hc : ∀ i, i < es.length → ∀ j, j < esz → c[o + i * esz + j]? = (vals i).cells[j]?) :
      VRel w OK g (.slice (some ⟨b, o, Option.none⟩) es.length cap) (.fs esz es)
  | sl (g : Ghost) (id off len cap ao : Nat) (inc : Inc) (hi : inc ∈ g id) (hl : len ≤ cap) (hn : off + len ≤ inc.n) (hcap : off + cap ≤ inc.cap)
      (ha : cap ≠ 0 → ao = inc.o + off * inc.esz) :
      VRel w OK g (.slice (some ⟨inc.b, ao, Option.none⟩) len cap) (.sl id off len)
  | ptr (g : Ghost) (id i o ao : Nat) (inc : Inc) (hi : inc ∈ g id) (hn : i < inc.n) (ho : o < inc.esz) (ha : ao = inc.o + i * inc.esz + o) :
      VRel w OK g (.pointer (some ⟨inc.b, ao, Option.none⟩)) (.ptr id i o)
  | fp (g : Ghost) (b o : Nat) (T : TypeId) (c : Array Value) (fz : Nat × Nat) (cs : List AV) (vals : Nat → Value)
      (hb : OK b) (hh : w.heap[b]? = some (.cells c T fz)) (hne : 0 < cs.length)
      (hv : ∀ i (h : i < cs.length), VRel w OK Ghost.none (vals i) cs[i])
      (hc : ∀ i, i < cs.length → c[o + i]? = some (vals i) ∧ (vals i).oneCell' = true) :
      VRel w OK g (.pointer (some ⟨b, o, Option.none⟩)) (.fp cs)
  | agg (g : Ghost) (vs : Array Value) (cs : List AV) (hl : vs.size = cs.length) (vals : Nat → Value)
      (hg : ∀ i, i < cs.length → vs[i]? = some (vals i) ∧ (vals i).oneCell' = true)
      (hv : ∀ i (h : i < cs.length), VRel w OK g (vals i) cs[i]) : VRel w OK g (.agg vs) (.agg cs)
  | tup (g : Ghost) (vs : Array Value) (cs : List AV) (hl : vs.size = cs.length) (vals : Nat → Value)
      (hg : ∀ i, i < cs.length → vs[i]? = some (vals i))
      (hv : ∀ i (h : i < cs.length), VRel w OK g (vals i) cs[i]) : VRel w OK g (.tuple vs) (.tup cs)
  | func (g : Ghost) (fn : Fn) (vs1 vs2 : Array Value) (cs1 cs2 : List AV) (hl1 : vs1.size = cs1.length) (hl2 : vs2.size = cs2.length) (vals1 vals2 : Nat → Value)
      (hg1 : ∀ i, i < cs1.length → vs1[i]? = some (vals1 i)) (hg2 : ∀ i, i < cs2.length → vs2[i]? = some (vals2 i))
      (hv1 : ∀ i (h : i < cs1.length), VRel w OK g (vals1 i) cs1[i]) (hv2 : ∀ i (h : i < cs2.length), VRel w OK g (vals2 i) cs2[i]) :
      VRel w OK g (.func fn vs1 vs2) (.func fn cs1 cs2)
  | map (g : Ghost) (id : Nat) (inc : Inc) (hi : inc ∈ g id) : VRel w OK g (.map (some inc.b)) (.map id)
  | iface (g : Ghost) (t : TypeId) (v : Value) (a : AV) (hv : VRel w OK g v a) : VRel w OK g (.iface t v) (.iface t a)

/-- The ghost grows: blocks stay where they are. -/
def Ghost.le (g g' : Ghost) : Prop := ∀ id inc, inc ∈ g id → ∃ n', inc.n ≤ n' ∧ { inc with n := n' } ∈ g' id
theorem Ghost.le_refl (g : Ghost) : g.le g := fun _ inc h => ⟨inc.n, Nat.le_refl _, h⟩
theorem Ghost.le_trans {a b c : Ghost} (h : a.le b) (k : b.le c) : a.le c := fun id inc hi => by
  obtain ⟨n1, h1, h2⟩ := h id inc hi
  obtain ⟨n2, h3, h4⟩ := k id _ h2
  exact ⟨n2, Nat.le_trans h1 h3, h4⟩
theorem Ghost.none_le (g : Ghost) : Ghost.none.le g := fun _ _ h => by cases h

theorem VRel.mono {w w' : World} {OK OK' : Nat → Prop} {g : Ghost} {v : Value} {a : AV} (h : VRel w OK g v a)
    (hok : ∀ b, OK b → OK' b) (hw : ∀ b, OK b → w'.heap[b]? = w.heap[b]?) : ∀ g' : Ghost, g.le g' → VRel w' OK' g' v a := by
  induction h with
  | undef g v => exact fun g' _ => .undef _ _
  | bool g b => exact fun g' _ => .bool _ _
  | int g k n => exact fun g' _ => .int _ _ _
  | str g s l h => exact fun g' _ => .str _ _ _ h
  | nilS g p => exact fun g' _ => .nilS _ p
  | nilP g => exact fun g' _ => .nilP _
  | nilM g => exact fun g' _ => .nilM _
  | nilF g => exact fun g' _ => .nilF _
  | nilI g => exact fun g' _ => .nilI _
  | fs g b o cap esz T c fz es vals hb hh hcap hv hs hc ih =>
    exact fun g' _ => .fs _ b o cap esz T c fz es vals (hok _ hb) ((hw _ hb).trans hh) hcap (fun i h => ih i h _ (Ghost.none_le _)) hs hc
  | sl g id off len cap ao inc hi hl hn hcap ha =>
    intro g' hg
    obtain ⟨n', h1, h2⟩ := hg id inc hi
    exact .sl g' id off len cap ao { inc with n := n' } h2 hl (Nat.le_trans hn h1) hcap ha
  | ptr g id i o ao inc hi hn ho ha =>
    intro g' hg
    obtain ⟨n', h1, h2⟩ := hg id inc hi
    exact .ptr g' id i o ao { inc with n := n' } h2 (Nat.lt_of_lt_of_le hn h1) ho ha
  | fp g b o T c fz cs vals hb hh hne hv hc ih =>
    exact fun g' _ => .fp _ b o T c fz cs vals (hok _ hb) ((hw _ hb).trans hh) hne (fun i h => ih i h _ (Ghost.none_le _)) hc
  | agg g vs cs hl vals hg hv ih => exact fun g' hg' => .agg _ vs cs hl vals hg (fun i h => ih i h g' hg')
  | tup g vs cs hl vals hg hv ih => exact fun g' hg' => .tup _ vs cs hl vals hg (fun i h => ih i h g' hg')
  | func g fn vs1 vs2 cs1 cs2 hl1 hl2 vals1 vals2 hg1 hg2 hv1 hv2 ih1 ih2 =>
    exact fun g' hg' => .func _ fn vs1 vs2 cs1 cs2 hl1 hl2 vals1 vals2 hg1 hg2 (fun i h => ih1 i h g' hg') (fun i h => ih2 i h g' hg')
  | map g id inc hi =>
    intro g' hg
    obtain ⟨n', _, h2⟩ := hg id inc hi
    exact .map g' id { inc with n := n' } h2
  | iface g t v a hv ih => exact fun g' hg' => .iface _ t v a (ih g' hg')

section
variable {w : World} {OK : Nat → Prop} {g : Ghost} {v : Value}
theorem VRel.inv_bool {b : Bool} (h : VRel w OK g v (.bool b)) : v = .bool b := by cases h; rfl
theorem VRel.inv_int {k : IntKind} {n : Int} (h : VRel w OK g v (.int k n)) : v = .int k n := by cases h; rfl
theorem VRel.inv_str {l : List UInt8} (h : VRel w OK g v (.str l)) : ∃ s : ByteArray, v = .string s ∧ s.data.toList = l := by
  cases h with
  | str _ s _ h => exact ⟨s, rfl, h⟩
theorem VRel.inv_nilS (h : VRel w OK g v .nilS) : ∃ p, v = .slice p 0 0 := by
  cases h with
  | nilS _ p => exact ⟨p, rfl⟩
theorem VRel.inv_nilP (h : VRel w OK g v .nilP) : v = .pointer Option.none := by cases h; rfl
theorem VRel.inv_nilM (h : VRel w OK g v .nilM) : v = .map Option.none := by cases h; rfl
theorem VRel.inv_fs {esz : Nat} {es : List AV} (h : VRel w OK g v (.fs esz es)) : ∃ (b o cap : Nat) (T : TypeId) (c : Array Value) (fz : Nat × Nat) (vals : Nat → Value), v = .slice (some ⟨b, o, Option.none⟩) es.length cap ∧ OK b ∧ w.heap[b]? = some (.cells c T fz) ∧ es.length ≤ cap ∧
    (∀ i (h : i < es.length), VRel w OK Ghost.none (vals i) es[i]) ∧ (∀ i, i < es.length → (vals i).cells.size = esz ∧ okCells (vals i)) ∧
    (∀ i, i < es.length → ∀ j, j < esz → c[o + i * esz + j]? = (vals i).cells[j]?) := by
  cases h with
  | fs _ b o cap esz T c fz es vals hb hh hcap hv hs hc => exact ⟨b, o, cap, T, c, fz, vals, rfl, hb, hh, hcap, hv, hs, hc⟩
theorem VRel.inv_sl {id off len : Nat} (h : VRel w OK g v (.sl id off len)) : ∃ inc cap ao, inc ∈ g id ∧ v = .slice (some ⟨inc.b, ao, Option.none⟩) len cap ∧ len ≤ cap ∧ off + len ≤ inc.n ∧ off + cap ≤ inc.cap ∧
    (cap ≠ 0 → ao = inc.o + off * inc.esz) := by
  cases h with
  | sl _ id off len cap ao inc hi hl hn hcap ha => exact ⟨inc, cap, ao, hi, rfl, hl, hn, hcap, ha⟩
theorem VRel.inv_ptr {id i o : Nat} (h : VRel w OK g v (.ptr id i o)) : ∃ inc, inc ∈ g id ∧ v = .pointer (some ⟨inc.b, inc.o + i * inc.esz + o, Option.none⟩) ∧ i < inc.n ∧ o < inc.esz := by
  cases h with
  | ptr _ id i o ao inc hi hn ho ha => exact ⟨inc, hi, by rw [ha], hn, ho⟩
theorem VRel.inv_fp {cs : List AV} (h : VRel w OK g v (.fp cs)) : ∃ (b o : Nat) (T : TypeId) (c : Array Value) (fz : Nat × Nat) (vals : Nat → Value), v = .pointer (some ⟨b, o, Option.none⟩) ∧ OK b ∧ w.heap[b]? = some (.cells c T fz) ∧ 0 < cs.length ∧
    (∀ i (h : i < cs.length), VRel w OK Ghost.none (vals i) cs[i]) ∧ (∀ i, i < cs.length → c[o + i]? = some (vals i) ∧ (vals i).oneCell' = true) := by
  cases h with
  | fp _ b o T c fz cs vals hb hh hne hv hc => exact ⟨b, o, T, c, fz, vals, rfl, hb, hh, hne, hv, hc⟩
theorem VRel.inv_agg {cs : List AV} (h : VRel w OK g v (.agg cs)) : ∃ (vs : Array Value) (vals : Nat → Value), v = .agg vs ∧ vs.size = cs.length ∧ (∀ i, i < cs.length → vs[i]? = some (vals i) ∧ (vals i).oneCell' = true) ∧
    (∀ i (h : i < cs.length), VRel w OK g (vals i) cs[i]) := by
  cases h with
  | agg _ vs cs hl vals hg hv => exact ⟨vs, vals, rfl, hl, hg, hv⟩
theorem VRel.inv_tup {cs : List AV} (h : VRel w OK g v (.tup cs)) : ∃ (vs : Array Value) (vals : Nat → Value), v = .tuple vs ∧ vs.size = cs.length ∧ (∀ i, i < cs.length → vs[i]? = some (vals i)) ∧
    (∀ i (h : i < cs.length), VRel w OK g (vals i) cs[i]) := by
  cases h with
  | tup _ vs cs hl vals hg hv => exact ⟨vs, vals, rfl, hl, hg, hv⟩
theorem VRel.inv_func {fn : Fn} {c1 c2 : List AV} (h : VRel w OK g v (.func fn c1 c2)) : ∃ (vs1 vs2 : Array Value) (vals1 vals2 : Nat → Value), v = .func fn vs1 vs2 ∧ vs1.size = c1.length ∧ vs2.size = c2.length ∧ (∀ i, i < c1.length → vs1[i]? = some (vals1 i)) ∧ (∀ i, i < c2.length → vs2[i]? = some (vals2 i)) ∧
    (∀ i (h : i < c1.length), VRel w OK g (vals1 i) c1[i]) ∧ (∀ i (h : i < c2.length), VRel w OK g (vals2 i) c2[i]) := by
  cases h with
  | func _ fn vs1 vs2 cs1 cs2 hl1 hl2 vals1 vals2 hg1 hg2 hv1 hv2 => exact ⟨vs1, vs2, vals1, vals2, rfl, hl1, hl2, hg1, hg2, hv1, hv2⟩
theorem VRel.inv_map {id : Nat} (h : VRel w OK g v (.map id)) : ∃ inc, inc ∈ g id ∧ v = .map (some inc.b) := by
  cases h with
  | map _ id inc hi => exact ⟨inc, hi, rfl⟩
theorem VRel.none_to {a : AV} (h : VRel w OK Ghost.none v a) : VRel w OK g v a := h.mono (fun _ h => h) (fun _ _ => rfl) g g.none_le
end

/-- The frozen range of a block lies beyond its cells. -/
def unfrozen (c : Array Value) (fz : Nat × Nat) : Prop := ∀ j, j < c.size → (decide (fz.1 ≤ j) && decide (j < fz.2)) = false

/-- An element and the cells in which it lies. -/
def ElemAt (w : World) (OK : Nat → Prop) (g : Ghost) (c : Array Value) (at_ esz : Nat) (e : AV) : Prop :=
  ∃ v, VRel w OK g v e ∧ v.cells.size = esz ∧ okCells v ∧ ∀ j, j < esz → c[at_ + j]? = v.cells[j]?

def RowAt (w : World) (OK : Nat → Prop) (g : Ghost) (esz : Nat) (es : List AV) (inc : Inc) : Prop :=
  inc.esz = esz ∧ inc.n ≤ es.length ∧ inc.n ≤ inc.cap ∧ ∃ c T fz, w.heap[inc.b]? = some (.cells c T fz) ∧ unfrozen c fz ∧ inc.o + inc.cap * esz ≤ c.size ∧
    ∀ i (h : i < es.length), i < inc.n → ElemAt w OK g c (inc.o + i * esz) esz es[i]

def EntAt (w : World) (OK : Nat → Prop) (g : Ghost) (incs : List Inc) : Ent → Prop
  | .row esz grown es => (grown = false → incs.length ≤ 1 ∧ ∀ inc ∈ incs, inc.n = es.length) ∧ ∀ inc ∈ incs, RowAt w OK g esz es inc
  | .map kvs => ∃ inc, incs = [inc] ∧ ∃ es clock, w.heap[inc.b]? = some (.map es clock) ∧ es.size = kvs.length ∧
      ∀ i (h : i < kvs.length), ∃ e, es[i]? = some e ∧ VRel w OK g e.key (kvs[i]).1 ∧ VRel w OK g e.val (kvs[i]).2
  | .loop r k => ∃ inc, incs = [inc] ∧ inc.esz = 0 ∧ w.heap[inc.b]? = some (.loop (recOf r k))
  | .dead => True

structure ARel (w : World) (OK : Nat → Prop) (g : Ghost) (A : Arena) : Prop where
  ent : ∀ id (h : id < A.length), EntAt w OK g (g id) A[id]
  out : ∀ id, A.length ≤ id → g id = []
  one : ∀ id id' inc inc', A[id]? ≠ some .dead → A[id']? ≠ some .dead → inc ∈ g id → inc' ∈ g id' → inc.b = inc'.b → id = id' ∧ inc = inc'
  apart : ∀ id inc, inc ∈ g id → ¬ OK inc.b
  low : ∀ id inc, inc ∈ g id → inc.b < w.heap.size
  ok : ∀ b, OK b → b < w.heap.size

/-- What a step of the evaluation leaves of world, ghost and frozen blocks. -/
structure Ext (w : World) (OK : Nat → Prop) (g : Ghost) (w' : World) (OK' : Nat → Prop) (g' : Ghost) : Prop where
  os : w'.os = w.os
  tape : w'.tape = w.tape
  output : w'.output = w.output
  size : w.heap.size ≤ w'.heap.size
  blk : ∀ b, b < w.heap.size → (∀ id inc, inc ∈ g id → inc.b ≠ b) → w'.heap[b]? = w.heap[b]?
  gle : g.le g'
  okle : ∀ b, OK b → OK' b
  fresh : ∀ id inc, inc ∈ g' id → (∃ id0 inc0, inc0 ∈ g id0 ∧ inc0.b = inc.b) ∨ w.heap.size ≤ inc.b
  okf : ∀ b, OK' b → OK b ∨ w.heap.size ≤ b
  loops : ∀ (b : Nat) (r : Loop), w.heap[b]? = some (.loop r) → r.state = .busy → w'.heap[b]? = some (.loop r)
  fix : ∀ id inc, inc ∈ g id → inc.esz = 0 → g' id = g id

theorem Ext.refl (w : World) (OK : Nat → Prop) (g : Ghost) : Ext w OK g w OK g :=
  ⟨rfl, rfl, rfl, Nat.le_refl _, fun _ _ _ => rfl, g.le_refl, fun _ h => h, fun id inc h => .inl ⟨id, inc, h, rfl⟩, fun _ h => .inl h, fun _ _ h _ => h, fun _ _ _ _ => rfl⟩

theorem Ext.trans {w w' w'' : World} {OK OK' OK'' : Nat → Prop} {g g' g'' : Ghost} (h : Ext w OK g w' OK' g') (k : Ext w' OK' g' w'' OK'' g'') :
    Ext w OK g w'' OK'' g'' where
  os := k.os.trans h.os
  tape := k.tape.trans h.tape
  output := k.output.trans h.output
  size := Nat.le_trans h.size k.size
  blk b hb hu := (k.blk b (Nat.lt_of_lt_of_le hb h.size) (fun id inc hi e => by
    rcases h.fresh id inc hi with ⟨id0, inc0, h0, h1⟩ | h2
    · exact hu id0 inc0 h0 (h1.trans e)
    · omega)).trans (h.blk b hb hu)
  gle := Ghost.le_trans h.gle k.gle
  okle b hb := k.okle b (h.okle b hb)
  fresh id inc hi := by
    rcases k.fresh id inc hi with ⟨id0, inc0, h0, h1⟩ | h2
    · rcases h.fresh id0 inc0 h0 with ⟨id1, inc1, h3, h4⟩ | h5
      · exact .inl ⟨id1, inc1, h3, h4.trans h1⟩
      · exact .inr (h1 ▸ h5)
    · exact .inr (Nat.le_trans h.size h2)
  okf b hb := by
    rcases k.okf b hb with h1 | h1
    · exact h.okf b h1
    · exact .inr (Nat.le_trans h.size h1)
  loops b r hb hr := k.loops b r (h.loops b r hb hr) hr
  fix id inc hi h0 := by
    have h1 := h.fix id inc hi h0
    rw [← h1] at hi
    exact (k.fix id inc hi h0).trans h1

theorem Ext.okblk {w w' : World} {OK OK' : Nat → Prop} {g g' : Ghost} {A : Arena} (h : Ext w OK g w' OK' g') (ha : ARel w OK g A) (b : Nat) (hb : OK b) :
    w'.heap[b]? = w.heap[b]? := h.blk b (ha.ok b hb) fun id inc hi e => ha.apart id inc hi (e ▸ hb)

/-- What was related stays related. -/
theorem VRel.ext {w w' : World} {OK OK' : Nat → Prop} {g g' : Ghost} {A : Arena} {v : Value} {a : AV} (h : VRel w OK g v a) (ha : ARel w OK g A) (e : Ext w OK g w' OK' g') :
    VRel w' OK' g' v a := h.mono e.okle (e.okblk ha) g' e.gle

/-- a draw -/
theorem Ext.drew (w : World) (OK : Nat → Prop) (g : Ghost) (n : Nat) : Ext w OK g { w with drawn := n } OK g :=
  ⟨rfl, rfl, rfl, Nat.le_refl _, fun _ _ _ => rfl, g.le_refl, fun _ h => h, fun id inc h => .inl ⟨id, inc, h, rfl⟩, fun _ h => .inl h, fun _ _ h _ => h, fun _ _ _ _ => rfl⟩

theorem VRel.drew {w : World} {OK : Nat → Prop} {g : Ghost} {v : Value} {a : AV} (h : VRel w OK g v a) (n : Nat) : VRel { w with drawn := n } OK g v a :=
  VRel.mono (w' := { w with drawn := n }) h (fun _ h => h) (fun _ _ => rfl) g g.le_refl

theorem ElemAt.mono {w w' : World} {OK OK' : Nat → Prop} {g g' : Ghost} {c : Array Value} {p s : Nat} {e : AV} (h : ElemAt w OK g c p s e)
    (hok : ∀ b, OK b → OK' b) (hw : ∀ b, OK b → w'.heap[b]? = w.heap[b]?) (hg : g.le g') : ElemAt w' OK' g' c p s e := by
  obtain ⟨v, h1, h2, h3⟩ := h
  exact ⟨v, VRel.mono h1 hok hw g' hg, h2, h3⟩

theorem RowAt.mono {w w' : World} {OK OK' : Nat → Prop} {g g' : Ghost} {s : Nat} {es : List AV} {inc : Inc} (h : RowAt w OK g s es inc)
    (hok : ∀ b, OK b → OK' b) (hw : ∀ b, OK b → w'.heap[b]? = w.heap[b]?) (hg : g.le g') (hb : w'.heap[inc.b]? = w.heap[inc.b]?) : RowAt w' OK' g' s es inc := by
  obtain ⟨h1, h2, h3, c, T, fz, h4, h5, h6, h7⟩ := h
  exact ⟨h1, h2, h3, c, T, fz, hb.trans h4, h5, h6, fun i hi hn => (h7 i hi hn).mono hok hw hg⟩

theorem EntAt.mono {w w' : World} {OK OK' : Nat → Prop} {g g' : Ghost} {incs : List Inc} {e : Ent} (h : EntAt w OK g incs e)
    (hok : ∀ b, OK b → OK' b) (hw : ∀ b, OK b → w'.heap[b]? = w.heap[b]?) (hg : g.le g') (hb : ∀ inc ∈ incs, w'.heap[inc.b]? = w.heap[inc.b]?) : EntAt w' OK' g' incs e := by
  cases e with
  | row s gr es => exact ⟨h.1, fun inc hi => (h.2 inc hi).mono hok hw hg (hb inc hi)⟩
  | map kvs =>
    obtain ⟨inc, rfl, es, clock, h1, h2, h3⟩ := h
    refine ⟨inc, rfl, es, clock, (hb inc (by simp)).trans h1, h2, fun i hi => ?_⟩
    obtain ⟨e, e1, e2, e3⟩ := h3 i hi
    exact ⟨e, e1, e2.mono hok hw g' hg, e3.mono hok hw g' hg⟩
  | loop r k =>
    obtain ⟨inc, rfl, h0, h1⟩ := h
    exact ⟨inc, rfl, h0, (hb inc (by simp)).trans h1⟩
  | dead => trivial

/-- A world in which no old block has turned: draws, new blocks that nothing names. -/
theorem ARel.keep {w w' : World} {OK : Nat → Prop} {g : Ghost} {A : Arena} (h : ARel w OK g A) (hs : w.heap.size ≤ w'.heap.size)
    (hb : ∀ b, b < w.heap.size → w'.heap[b]? = w.heap[b]?) (OK' : Nat → Prop) (hok : ∀ b, OK b → OK' b) (hf : ∀ b, OK' b → OK b ∨ w.heap.size ≤ b) (hl : ∀ b, OK' b → b < w'.heap.size) : ARel w' OK' g A where
  ent id hi := (h.ent id hi).mono hok (fun b hb' => hb b (h.ok b hb')) g.le_refl (fun inc hin => hb _ (h.low id inc hin))
  out := h.out
  one := h.one
  apart id inc hi ho := by
    rcases hf _ ho with h1 | h1
    · exact h.apart id inc hi h1
    · have := h.low id inc hi; omega
  low id inc hi := Nat.lt_of_lt_of_le (h.low id inc hi) hs
  ok := hl

theorem ARel.drew {w : World} {OK : Nat → Prop} {g : Ghost} {A : Arena} (h : ARel w OK g A) (n : Nat) : ARel { w with drawn := n } OK g A :=
  ARel.keep (w' := { w with drawn := n }) h (Nat.le_refl _) (fun _ _ => rfl) OK (fun _ h => h) (fun _ h => .inl h) h.ok

end Go.Proofs.YtnpmfpcppkdniaaDoor
