/-
  What the proof is built on (R8 to R25).
-/
import Derived.Test.YtfplfkcgjdkdaaaDoorA04
import Derived.LaidEql
import Derived.Stop.Asserts
import Derived.RowKitTokens
import Derived.WalkLawsBesides
import Derived.Defers
import Derived.Recover
import Derived.Shelf.Strconv.Itoa3
import Derived.Shelf.Strconv.AtoiAll
import Derived.Shelf.Strings.Search2
import Derived.Test.YtfplfkcgjdkdaaaDoorProg
import Derived.Test.YtfplfkcgjdkdaaaDoorChecked
import Derived.Test.YtfplfkcgjdkdaaaDoorA03
import Derived.Lib.IndexMore
import Derived.Lib.AtoiTie
import Derived.Lib.ItoaNum
import Derived.Test.YtfplfkcgjdkdaaaDoorRows
import Derived.Lib.LaidTab
import Derived.LaidSub
import Derived.Stop.LaidErr
/-
  Ratio: what fit calculates (52, 53, 57, 50): a pair of integers, or a panic.
-/
namespace Go.Proofs.YtfplfkcgjdkdaaaDoor
namespace Rat0
open Go

def ops0 (p : String) : Array Oper := #[{ dst := some 2, op := .assign (.const (.int .i64 0)), type := 3, pos := p, after := #[], guard := none }, { dst := some 3, op := .assign (.const (.int .i64 0)), type := 3, pos := p, after := #[{ on := 0, ground := .chain }], guard := none }]
def fpA (a : Q) : AV := .fp [.int .i64 a.n, .int .i64 a.d]
noncomputable def fs52 : List (FuncId × HModel) := [(51, pureH 4 M51), (47, pureH 4 M47)]
@[simp] theorem fs52_51 : lookM fs52 51 = some (pureH 4 M51) := rfl
@[simp] theorem fs52_47 : lookM fs52 47 = some (pureH 4 M47) := rfl
theorem sound52 : ∀ f M, lookM fs52 f = some M → FnSpecY Tryd.prog GR f M := lookM_cons (FnSpecY.of_pure spec51 4) (lookM_cons (FnSpecY.of_pure spec47 4) lookM_nil)
noncomputable abbrev E52 : Env := envOf GR fs52

/-- a pointer to a fraction that nobody writes -/
theorem fp_cells {w : World} {OK : Nat → Prop} {g : Ghost} {a : Q} {v : Value} (h : VRel w OK g v (fpA a)) : ∃ b o, v = .pointer (some ⟨b, o, none⟩) ∧ w.cell? ⟨b, o, none⟩ = some (.int .i64 a.n) ∧ w.cell? ⟨b, o + 1, none⟩ = some (.int .i64 a.d) := by
  obtain ⟨b, o, T, c, fz, vals, rfl, _, hh, _, hv, hc⟩ := h.inv_fp
  have h0 := (hv 0 (by simp)).inv_int
  have h1 := (hv 1 (by simp)).inv_int
  have c0 := (hc 0 (by simp)).1
  have c1 := (hc 1 (by simp)).1
  rw [h0] at c0
  rw [h1] at c1
  exact ⟨b, o, rfl, by simpa [World.cell?, hh] using c0, by simpa [World.cell?, hh] using c1⟩
theorem inv_pair {w : World} {OK : Nat → Prop} {g : Ghost} {x y : Int} {v : Value} (h : VRel w OK g v (.tup [.int .i64 x, .int .i64 y])) : v = .tuple #[.int .i64 x, .int .i64 y] := by
  obtain ⟨vs, vals, rfl, hl, hg, hv⟩ := h.inv_tup
  have k0 := (hv 0 (by simp)).inv_int
  have k1 := (hv 1 (by simp)).inv_int
  have g0 := hg 0 (by simp)
  have g1 := hg 1 (by simp)
  rw [k0] at g0
  rw [k1] at g1
  congr 1
  apply Array.ext
  · simpa using hl
  · intro i hi1 hi2
    have : i = 0 ∨ i = 1 := by simp at hi2; omega
    rcases this with rfl | rfl
    · simpa [hi1] using g0
    · simpa [hi1] using g1
/-- the two rows behind the region -/
def g2 (bx bz : Nat) : Ghost := fun id => if id = 0 then [⟨bx, 0, 1, 1, 2⟩] else if id = 1 then [⟨bz, 0, 1, 1, 2⟩] else []
theorem elem_q {w : World} {OK : Nat → Prop} {g : Ghost} (a : Q) : ElemAt w OK g (cel true a) 0 2 (qA a) :=
  ⟨qV a, vrel_q a, rfl, fun x hx => by
    simp [qV, Value.cells] at hx
    rcases hx with rfl | rfl <;> rfl, fun j hj => by
    have : j = 0 ∨ j = 1 := by omega
    rcases this with rfl | rfl <;> rfl⟩
theorem row_q {w : World} {OK : Nat → Prop} {g : Ghost} {a : Q} {b : Nat} (h : w.heap[b]? = some (.cells (cel true a) 69 (0, 0))) : EntAt w OK g [⟨b, 0, 1, 1, 2⟩] (.row 2 false [qA a]) := by
  refine ⟨fun _ => ⟨by simp, fun inc hi => ?_⟩, fun inc hi => ?_⟩
  · simp only [List.mem_singleton] at hi; subst hi; rfl
  · simp only [List.mem_singleton] at hi
    subst hi
    refine ⟨rfl, by simp, by simp, _, _, _, h, fun j _ => by simp, by simp [cel], fun i hi _ => ?_⟩
    have : i = 0 := by simp at hi; omega
    subst this
    exact elem_q a
theorem arel2 {w : World} {OK : Nat → Prop} {B : Nat} {a b : Q} {bx bz : Nat} (hok : ∀ k, OK k → k < B) (hB : B ≤ w.heap.size) (hx : w.heap[bx]? = some (.cells (cel true a) 69 (0, 0))) (hz : w.heap[bz]? = some (.cells (cel true b) 69 (0, 0))) (h1 : B ≤ bx) (h2 : B ≤ bz) (hne : bx ≠ bz) :
    ARel w OK (g2 bx bz) [.row 2 false [qA a], .row 2 false [qA b]] where
  ent id hi := by
    have : id = 0 ∨ id = 1 := by simp at hi; omega
    rcases this with rfl | rfl
    · exact row_q hx
    · exact row_q hz
  out id hi := by
    simp at hi
    unfold g2
    rw [if_neg (by omega), if_neg (by omega)]
  one id id' inc inc' _ _ hi hi' e := by
    unfold g2 at hi hi'
    split at hi
    · split at hi'
      · simp at hi hi'; subst hi; subst hi'; exact ⟨by omega, rfl⟩
      · split at hi'
        · simp at hi hi'; subst hi; subst hi'; exact absurd e hne
        · cases hi'
    · split at hi
      · split at hi'
        · simp at hi hi'; subst hi; subst hi'; exact absurd e.symm hne
        · split at hi'
          · simp at hi hi'; subst hi; subst hi'; exact ⟨by omega, rfl⟩
          · cases hi'
      · cases hi
  apart id inc hi ho := by
    unfold g2 at hi
    have := hok _ ho
    split at hi
    · simp at hi; subst hi; simp at this; omega
    · split at hi
      · simp at hi; subst hi; simp at this; omega
      · cases hi
  low id inc hi := by
    unfold g2 at hi
    split at hi
    · simp at hi; subst hi; exact (Array.getElem?_eq_some_iff.1 hx).1
    · split at hi
      · simp at hi; subst hi; exact (Array.getElem?_eq_some_iff.1 hz).1
      · cases hi
  ok k hk := Nat.lt_of_lt_of_le (hok k hk) hB

/-- what is calculated of two fractions -/
theorem clo {a b : Q} {f : FuncId} {fn : Func} {p0 p : String} {c2 : Code} {m2 : MC} {x y : Int}
    (hf : Tryd.prog.funcs[f]? = some fn) (hbody : fn.body = some (.seq (.region 0 (ops0 p0) false) (.seq (.region 1 (ops1 p) true) c2))) (hN : 10 ≤ fn.ntmps)
    (hc2 : (compC Tryd.prog fn.ntmps [0, 1, 2, 3, 4, 5] [51] true false c2 ([], [])).1 = m2) (hcr : compRes Tryd.prog [0, 1, 2, 3, 4, 5] fn.results.toList = some [.tmp 2, .tmp 3])
    (he : Ok a → Ok b → ∃ s A2, evC E52 0 m2 [.undef, .undef, .undef, .undef, .ptr 0 0 0, .ptr 1 0 0] [.row 2 false [qA a], .row 2 false [qA b]] = some (.ret s A2) ∧ s.getD 2 .undef = .int .i64 x ∧ s.getD 3 .undef = .int .i64 y)
    (ha : InQ a) (hb : InQ b) {w : World} {OK : Nat → Prop} {vs : List Value} (hok : ∀ k, OK k → k < w.heap.size) (hG : GRel GR w OK) (hl : ListRel w OK Ghost.none vs [fpA a, fpA b])
    {q : Addr} (hq : w.cell? ⟨0, 0, none⟩ = some (.iface 129 (.pointer (some q)))) :
    Calls Tryd.prog f vs.toArray w fun e w' => ((Ok a ∧ Ok b) ∧ e = .returned (.tuple #[.int .i64 x, .int .i64 y]) ∨ ¬ (Ok a ∧ Ok b) ∧ e = .panicked [{ v := .iface 129 (.pointer (some q)), recovered := false }]) ∧ RowKit.Below w.heap.size w w' := by
  match vs, hl with
  | [v1, v2], ⟨l1, l2, _⟩ =>
  obtain ⟨ba, oa, rfl, a0, a1⟩ := fp_cells l1
  obtain ⟨bb, ob, rfl, b0, b1⟩ := fp_cells l2
  have hof : ∀ {n : Q}, InQ n → ∀ w1, RowKit.Below w.heap.size w w1 → Calls Tryd.prog 51 #[qV n] w1 fun e1 w' => (Ok n ∧ e1 = .returned (qV n) ∨ ¬ Ok n ∧ e1 = .panicked [{ v := .iface 129 (.pointer (some q)), recovered := false }]) ∧ RowKit.Below w1.heap.size w1 w' := by
    intro n hn w1 hw1
    have hok1 : ∀ k, OK k → k < w1.heap.size := fun k hk => Nat.lt_of_lt_of_le (hok k hk) hw1.size
    have hG1 := grel_below hok hG hw1
    by_cases ho : Ok n
    · refine (of_ok ho hok1 hG1).mono ?_
      rintro e1 w' ⟨rfl, h⟩
      exact ⟨.inl ⟨ho, rfl⟩, h⟩
    · refine (of_bad hn ho hok1 hG1 (old_cell hw1 hq)).mono ?_
      rintro e1 w' ⟨rfl, h⟩
      exact ⟨.inr ⟨ho, rfl⟩, h⟩
  refine callsIn_wide (n := 0).1 (callsIn_of_wp_marks (F := Fence.wide) hf hbody trivial ?_)
  apply wpIn_seq
  apply wpIn_region
  have hsz : (ops0 p0).size = 2 := rfl
  simp [ops0, wpOpsIn, Region.wanted, Oper.wpIn, Oper.semAt, Oper.about, execOp, go_sem, Act.eval, List.range, List.range.loop]
  apply wpIn_seq
  refine wpIn_region_any (by kernel_rfl) (reg1 (n := a) (m := b) (w0 := w) (N := fn.ntmps) (ba := ba) (oa := oa) (bb := bb) (ob := ob) hN a0 a1 b0 b1 (hof ha) (hof hb) ?_ ?_ _ _ _ _ (Nat.le_refl 8) ?_)
  · intro a1 w1 h
    obtain ⟨bx, x1, x2, x3⟩ := h.h4 rfl
    obtain ⟨bz, y1, y2, y3⟩ := h.h5 rfl
    have x3 : w1.heap[bx]? = some (.cells (cel true a) 69 (0, 0)) := x3
    have y3 : w1.heap[bz]? = some (.cells (cel true b) 69 (0, 0)) := y3
    have ok1 := (h.h1 rfl).2
    have ok2 := (h.h3 rfl).2
    have hne : bx ≠ bz := fun e => h.h45 rfl rfl (by rw [x1, y1, e])
    have hs : SRel E52 fn.ntmps [0, 1, 2, 3, 4, 5] w1.heap.size w1 OK (g2 bx bz) [.undef, .undef, .undef, .undef, .ptr 0 0 0, .ptr 1 0 0] [.row 2 false [qA a], .row 2 false [qA b]] a1 :=
      ⟨h.sz, by rw [h.df]; trivial, Nat.le_refl _, rfl, fun i hi => by
        have : i = 0 ∨ i = 1 ∨ i = 2 ∨ i = 3 ∨ i = 4 ∨ i = 5 := by simp at hi; omega
        rcases this with rfl | rfl | rfl | rfl | rfl | rfl
        · exact .undef _ _
        · exact .undef _ _
        · exact .undef _ _
        · exact .undef _ _
        · show VRel w1 OK (g2 bx bz) (tm a1 4) (.ptr 0 0 0)
          rw [x1]
          exact .ptr _ 0 0 0 0 ⟨bx, 0, 1, 1, 2⟩ (by simp [g2]) Nat.zero_lt_one Nat.zero_lt_two rfl
        · show VRel w1 OK (g2 bx bz) (tm a1 5) (.ptr 1 0 0)
          rw [y1]
          exact .ptr _ 1 0 0 0 ⟨bz, 0, 1, 1, 2⟩ (by simp [g2]) Nat.zero_lt_one Nat.zero_lt_two rfl,
        arel2 hok h.bel.size x3 y3 x2 y2 hne, ⟨grel_below hok hG h.bel, fun y hy => by cases hy⟩⟩
    obtain ⟨s, A2, hev, e2, e3⟩ := he ok1 ok2
    have hw := evC_sound (P := Tryd.prog) (on := true) (pu := [51]) (envOf_sound sound52) (by decide) (fun t ht => by simp at ht; omega) (PureIn.cons (M := _) rfl PureIn.nil) 0 c2 false none w1.heap.size 0 (fun _ => rfl) ([], []) _ _ _ a1 w1 OK (g2 bx bz) hs (by rw [hc2]; exact hev)
    refine wpIn_mono hw ?_
    intro e a2 w2 hq
    cases e <;> simp only [OutOk] at hq
    obtain ⟨OK2, g3, q1, q2⟩ := hq
    refine leaves_sound (l := [.int .i64 x, .int .i64 y]) hcr (by simp only [evRes, Option.map_some, e2, e3]) (fun v w' OK' g' hv _ hx => ?_) a2.defers w2 OK2 g3 q1 q2
    refine ⟨.inl ⟨⟨ok1, ok2⟩, ?_⟩, ?_⟩
    · rw [inv_pair hv]
    · have hb1 := h.bel
      refine ⟨hx.os.trans hb1.os, hx.tape.trans hb1.tape, hx.output.trans hb1.output, Nat.le_trans hb1.size hx.size, fun k hk => (hx.blk k (Nat.lt_of_lt_of_le hk hb1.size) fun id inc hi e => ?_).trans (hb1.block k hk)⟩
      unfold g2 at hi
      split at hi
      · simp at hi; subst hi; simp at e; omega
      · split at hi
        · simp at hi; subst hi; simp at e; omega
        · cases hi
  · intro hno a1 w1 hd hbel
    simp only [Exit.then, bodyPostM, hd, LeavesInM, LeavesIn]
    exact ⟨.inr ⟨not_and.1 hno, trivial⟩, hbel⟩
  · refine { ls := rfl, sz := ?_, df := rfl, t0 := ?_, t1 := ?_, bel := ⟨rfl, rfl, rfl, Nat.le_refl _, fun _ _ => rfl⟩, h0 := ?_, h1 := ?_, h2 := ?_, h3 := ?_, h4 := ?_, h5 := ?_, h45 := ?_, h6 := ?_, h7 := ?_ }
    · simp; omega
    · simp [tm, Array.getD_eq_getD_getElem?, Array.getElem?_append]
    · simp [tm, Array.getD_eq_getD_getElem?, Array.getElem?_append]
    all_goals (intro q; first | (cases q; done) | (intro r; cases r; done) | rfl)
end Rat0
end Go.Proofs.YtfplfkcgjdkdaaaDoor
/-
  Ratio: errors.Is at the very same error (66).
-/
namespace Go.Proofs.YtfplfkcgjdkdaaaDoor
namespace Rat0
open Go
open Go.RowKit Go.Extern.Stop Go.Stop Go.Extern

theorem isTypeOf (v : Value) (w : World) : (Extern.ReflectliteType.typeOf #[.iface 129 v]).run Tryd.prog w = .ok (.iface 110 (.agg #[.pointer (some ⟨7, 129, none⟩)])) w := by kernel_rfl
def cmpRow : Array Value → Sem Value := Extern.ReflectliteType.method fun t => do Extern.Rtype.noPackHeld "Comparable" t; pure (.bool (← typeInfo t).comparable)
theorem isComparable (w : World) : (cmpRow #[.agg #[.pointer (some ⟨7, 129, none⟩)]]).run Tryd.prog w = .ok (.bool true) w := by kernel_rfl
theorem isMethodComparable (v : Value) (w : World) : (Go.method 267 110 v "Comparable").run Tryd.prog w = .ok (121, v) w := by kernel_rfl
theorem isComp : (Tryd.prog.info? 129).map (·.comparable) = some true := by kernel_rfl
theorem isSize : (Tryd.prog.info? 131).map (·.size) = some 1 := by kernel_rfl
theorem is_same (a : Addr) (w : World) :
    Calls Tryd.prog 66 #[.iface 129 (.pointer (some a)), .iface 129 (.pointer (some a))] w fun e w' => e = .returned (.bool true) ∧ w' = w := by
  obtain ⟨i, hi, hcmp⟩ := Option.map_eq_some_iff.1 isComp
  obtain ⟨j, hj, hjs⟩ := Option.map_eq_some_iff.1 isSize
  have h8 := @run_callFunc_extern Tryd.prog 74 _ Extern.ReflectliteType.typeOf Tryd.func74 (by kernel_rfl) (by kernel_rfl) (by kernel_rfl) (by kernel_rfl)
  have h32 := @run_callFunc_extern Tryd.prog 121 _ cmpRow Tryd.func121 (by kernel_rfl) (by kernel_rfl) (by kernel_rfl) (by kernel_rfl)
  have tT := isTypeOf
  have cT := isComparable
  have mR := isMethodComparable
  have heq := run_eql_iface_ptr_same (P := Tryd.prog) w a Tryd.underlying58 Tryd.underlying129 hi hcmp hj
  go_enter Tryd.func66, Tryd.ntmps66
  go_wp2
  refine wp_loop_rounds 1 ?_
  rw [rounds_succ]
  go_wp2
  go_ret
  exact ⟨rfl, rfl⟩
end Rat0
end Go.Proofs.YtfplfkcgjdkdaaaDoor
/-
  Ratio: the closures of Add, Mul, Div, Round (52, 53, 57, 50), called.
-/
namespace Go.Proofs.YtfplfkcgjdkdaaaDoor
namespace Rat0
open Go

def bodyC (c : Option Code) : Code := match c with
  | some (.seq _ (.seq _ c)) => c
  | _ => .skip
def mcRest : MC → MC
  | .seq _ (.seq _ c) => c
  | c => c
/-- the call of a closure that may panic: x and y, if P -/
def CloOk (f : FuncId) (cap : Array Value) (P : Prop) (x y : Int) (q : Addr) (w : World) : Prop :=
  ∀ w1, RowKit.Below w.heap.size w w1 → Calls Tryd.prog f cap w1 fun e w' => (P ∧ e = .returned (.tuple #[.int .i64 x, .int .i64 y]) ∨ ¬ P ∧ e = .panicked [{ v := .iface 129 (.pointer (some q)), recovered := false }]) ∧ RowKit.Below w1.heap.size w1 w'
theorem old_list {w w1 : World} {OK : Nat → Prop} (hok : ∀ k, OK k → k < w.heap.size) (h : RowKit.Below w.heap.size w w1) {vs : List Value} {l : List AV} (hl : ListRel w OK Ghost.none vs l) : ListRel w1 OK Ghost.none vs l :=
  hl.mono fun _ _ hv => VRel.mono hv (fun _ h => h) (fun b hb => h.block b (hok b hb)) _ (Ghost.le_refl _)

theorem clo_add {a b : Q} (ha : InQ a) (hb : InQ b) {w : World} {OK : Nat → Prop} {vs : List Value} (hok : ∀ k, OK k → k < w.heap.size) (hG : GRel GR w OK) (hl : ListRel w OK Ghost.none vs [fpA a, fpA b]) {q : Addr} (hq : w.cell? ⟨0, 0, none⟩ = some (.iface 129 (.pointer (some q)))) :
    CloOk 52 vs.toArray (Ok a ∧ Ok b) (a.n * b.d + b.n * a.d) (a.d * b.d) q w := fun w1 hw1 => by
  refine clo (f := 52) (fn := Tryd.f52) (p0 := "ratio.go:77") (p := "ratio.go:78") (c2 := bodyC Tryd.f52.body) (m2 := mcRest mf52.mc) at52 (by kernel_rfl) (by decide +kernel) (by kernel_rfl) (by kernel_rfl) (fun h1 h2 => ?_) ha hb (fun k hk => Nat.lt_of_lt_of_le (hok k hk) hw1.size) (grel_below hok hG hw1) (old_list hok hw1 hl) (old_cell hw1 hq)
  have p1 := h1.prod h2
  have p2 := h2.prod h1
  have p3 := h1.prodD h2
  have e1 : evBin .mul (.int .i64 a.n) (.int .i64 b.d) = some (.int .i64 (a.n * b.d)) := by simp only [evBin, if_true]; rw [wrapI (by unfold inI; omega)]
  have e2 : evBin .mul (.int .i64 b.n) (.int .i64 a.d) = some (.int .i64 (b.n * a.d)) := by simp only [evBin, if_true]; rw [wrapI (by unfold inI; omega)]
  have e3 : evBin .mul (.int .i64 a.d) (.int .i64 b.d) = some (.int .i64 (a.d * b.d)) := by simp only [evBin, if_true]; rw [wrapI (by unfold inI; omega)]
  have e4 : evBin .add (.int .i64 (a.n * b.d)) (.int .i64 (b.n * a.d)) = some (.int .i64 (a.n * b.d + b.n * a.d)) := by simp only [evBin, if_true]; rw [wrapI (by unfold inI; omega)]
  rw [evC_run]
  unfold qA
  refine ⟨_, _, by simp [mcRest, mf52, e1, e2, e3, e4, -evBin]; exact ⟨rfl, rfl⟩, rfl, rfl⟩
theorem clo_mul {a b : Q} (ha : InQ a) (hb : InQ b) {w : World} {OK : Nat → Prop} {vs : List Value} (hok : ∀ k, OK k → k < w.heap.size) (hG : GRel GR w OK) (hl : ListRel w OK Ghost.none vs [fpA a, fpA b]) {q : Addr} (hq : w.cell? ⟨0, 0, none⟩ = some (.iface 129 (.pointer (some q)))) :
    CloOk 53 vs.toArray (Ok a ∧ Ok b) (a.n * b.n) (a.d * b.d) q w := fun w1 hw1 => by
  refine clo (f := 53) (fn := Tryd.f53) (p0 := "ratio.go:90") (p := "ratio.go:91") (c2 := bodyC Tryd.f53.body) (m2 := mcRest mf53.mc) at53 (by kernel_rfl) (by decide +kernel) (by kernel_rfl) (by kernel_rfl) (fun h1 h2 => ?_) ha hb (fun k hk => Nat.lt_of_lt_of_le (hok k hk) hw1.size) (grel_below hok hG hw1) (old_list hok hw1 hl) (old_cell hw1 hq)
  have p1 := h1.prodN h2
  have p3 := h1.prodD h2
  have e1 : evBin .mul (.int .i64 a.n) (.int .i64 b.n) = some (.int .i64 (a.n * b.n)) := by simp only [evBin, if_true]; rw [wrapI (by unfold inI; omega)]
  have e3 : evBin .mul (.int .i64 a.d) (.int .i64 b.d) = some (.int .i64 (a.d * b.d)) := by simp only [evBin, if_true]; rw [wrapI (by unfold inI; omega)]
  rw [evC_run]
  unfold qA
  refine ⟨_, _, by simp [mcRest, mf53, e1, e3, -evBin]; exact ⟨rfl, rfl⟩, rfl, rfl⟩
theorem clo_div {a b : Q} (ha : InQ a) (hb : InQ b) {w : World} {OK : Nat → Prop} {vs : List Value} (hok : ∀ k, OK k → k < w.heap.size) (hG : GRel GR w OK) (hl : ListRel w OK Ghost.none vs [fpA a, fpA b]) {q : Addr} (hq : w.cell? ⟨0, 0, none⟩ = some (.iface 129 (.pointer (some q)))) :
    CloOk 57 vs.toArray (Ok a ∧ Ok b) (a.n * b.d) (a.d * b.n) q w := fun w1 hw1 => by
  refine clo (f := 57) (fn := Tryd.f57) (p0 := "ratio.go:98") (p := "ratio.go:99") (c2 := bodyC Tryd.f57.body) (m2 := mcRest mf57.mc) at57 (by kernel_rfl) (by decide +kernel) (by kernel_rfl) (by kernel_rfl) (fun h1 h2 => ?_) ha hb (fun k hk => Nat.lt_of_lt_of_le (hok k hk) hw1.size) (grel_below hok hG hw1) (old_list hok hw1 hl) (old_cell hw1 hq)
  have p1 := h1.prod h2
  have p2 := h2.prod h1
  have c := Int.mul_comm a.d b.n
  have e1 : evBin .mul (.int .i64 a.n) (.int .i64 b.d) = some (.int .i64 (a.n * b.d)) := by simp only [evBin, if_true]; rw [wrapI (by unfold inI; omega)]
  have e3 : evBin .mul (.int .i64 a.d) (.int .i64 b.n) = some (.int .i64 (a.d * b.n)) := by simp only [evBin, if_true]; rw [wrapI (by unfold inI; omega)]
  rw [evC_run]
  unfold qA
  refine ⟨_, _, by simp [mcRest, mf57, e1, e3, -evBin]; exact ⟨rfl, rfl⟩, rfl, rfl⟩

/-! ### Round's -/
noncomputable def M50 : PModel := fun args => evP E52 0 mf50 2 args
theorem spec50 : PureSpec Tryd.prog GR 50 M50 := PureSpec.of_ev (E := E52) (envOf_sound sound52) rfl at50 comp50 2 fun _ _ h => ⟨0, h⟩
theorem M50_eq {a : Q} {d : Int} (h : Ok a) (hd : 1 ≤ d ∧ d ≤ lim) : M50 [fpA a, .fp [.int .i64 d]] = some (.tup [.int .i64 ((2 * a.n * d + a.d) / (2 * a.d)), .int .i64 d]) := by
  have m1 := M51_eq h
  have hb : Ok ⟨a.n, 1⟩ ∨ True := .inr trivial
  have p := h
  obtain ⟨h1, h2, h3, h4, _⟩ := p
  unfold lim at hd h2 h3 h4
  have q1 := Int.mul_le_mul_of_nonneg_right h4 (show 0 ≤ d by omega)
  have q2 := Int.mul_le_mul_of_nonneg_right h3 (show 0 ≤ d by omega)
  rw [Int.neg_mul] at q2
  have e0 : 2 * a.n * d = 2 * (a.n * d) := by grind
  have e1 : evBin .mul (.int .i64 2) (.int .i64 a.n) = some (.int .i64 (2 * a.n)) := by simp only [evBin, if_true]; rw [wrapI (by unfold inI; omega)]
  have e2 : evBin .mul (.int .i64 (2 * a.n)) (.int .i64 d) = some (.int .i64 (2 * a.n * d)) := by simp only [evBin, if_true]; rw [wrapI (by unfold inI; omega)]
  have e3 : evBin .add (.int .i64 (2 * a.n * d)) (.int .i64 a.d) = some (.int .i64 (2 * a.n * d + a.d)) := by simp only [evBin, if_true]; rw [wrapI (by unfold inI; omega)]
  have e4 : evBin .mul (.int .i64 2) (.int .i64 a.d) = some (.int .i64 (2 * a.d)) := by simp only [evBin, if_true]; rw [wrapI (by unfold inI; omega)]
  have m2 := M47_eq (n := 2 * a.n * d + a.d) (d := 2 * a.d) (by omega) (by unfold inI; omega) (by unfold inI; omega) (by unfold inI; omega)
  unfold M50
  rw [evP_run _ _ rfl]
  unfold fpA
  unfold qA at m1
  simp [mf50, m1, m2, e1, e2, e3, e4, -evBin]
theorem clo_round {a : Q} {d : Int} (ha : InQ a) (hd : 1 ≤ d ∧ d ≤ lim) {w : World} {OK : Nat → Prop} {vs : List Value} (hok : ∀ k, OK k → k < w.heap.size) (hG : GRel GR w OK) (hl : ListRel w OK Ghost.none vs [fpA a, .fp [.int .i64 d]]) {q : Addr} (hq : w.cell? ⟨0, 0, none⟩ = some (.iface 129 (.pointer (some q)))) :
    CloOk 50 vs.toArray (Ok a) ((2 * a.n * d + a.d) / (2 * a.d)) d q w := fun w1 hw1 => by
  have hok1 : ∀ k, OK k → k < w1.heap.size := fun k hk => Nat.lt_of_lt_of_le (hok k hk) hw1.size
  have hG1 := grel_below hok hG hw1
  have hl1 := old_list hok hw1 hl
  have hq1 := old_cell hw1 hq
  by_cases h : Ok a
  · refine (spec50.2 _ _ (M50_eq h hd) w1 OK vs hok1 hG1 hl1).mono ?_
    rintro e w' ⟨v, OK', rfl, hv, _, hx⟩
    rw [inv_pair hv]
    exact ⟨.inl ⟨h, rfl⟩, ext_below hx⟩
  · match vs, hl1 with
    | [v1, v2], ⟨l1, l2, _⟩ =>
    obtain ⟨ba, oa, rfl, a0, a1⟩ := fp_cells l1
    have key : ∀ w2 : World, RowKit.Below w1.heap.size w1 w2 → Calls Tryd.prog 51 #[.agg #[.int .i64 a.n, .int .i64 a.d]] w2 fun e w' => e = .panicked [{ v := .iface 129 (.pointer (some q)), recovered := false }] ∧ RowKit.Below w1.heap.size w1 w' := fun w2 hw2 => by
      refine (of_bad ha h (fun b hb => Nat.lt_of_lt_of_le (hok1 b hb) hw2.size) (grel_below hok1 hG1 hw2) (old_cell hw2 hq1)).mono ?_
      rintro e w' ⟨rfl, h⟩
      exact ⟨rfl, hw2.trans (h.mono hw2.size)⟩
    clear l1 l2 hl
    show Calls Tryd.prog 50 #[.pointer (some ⟨ba, oa, none⟩), v2] w1 _
    go_enter Tryd.func50, Tryd.ntmps50
    go_wp2_with (go_at_call 51; refine (key _ ?_).mono ?_)
    · exact RowKit.Below.refl _ w1
    rintro e w' ⟨rfl, hb⟩
    exact ⟨rfl, .inr ⟨h, rfl⟩, hb⟩
end Rat0
end Go.Proofs.YtfplfkcgjdkdaaaDoor
/-
  Ratio: fit's deferred closure (65).
-/
namespace Go.Proofs.YtfplfkcgjdkdaaaDoor
namespace Rat0
open Go
open Go.RowKit Go.Extern.Stop Go.Stop Go.Extern

theorem hasErr (v : Value) (xT : TypeId) (w : World) : (Instr.typeAssert (.iface 129 v) xT 58 true).run Tryd.prog w = .ok (.tuple #[.iface 129 v, .bool true]) w := run_typeAssert_hasB Tryd.underlying58 (by kernel_rfl) v xT w
theorem nilErr (xT : TypeId) (w : World) : (Instr.typeAssert .nilIface xT 58 true).run Tryd.prog w = .ok (.tuple #[.nilIface, .bool false]) w := by kernel_rfl
theorem lay65 (p1 p2 I T b : Value) : #[p1, p2] ++ (((((((Array.replicate 14 undef).setIfInBounds 3 I).setIfInBounds 4 T).setIfInBounds 2 T).setIfInBounds 5 I).setIfInBounds 6 b).setIfInBounds 0 I).setIfInBounds 1 b = #[p1, p2, I, b, T, I, T, I, b, undef, undef, undef, undef, undef, undef, undef] := by kernel_rfl
/-- where the frame panics with errMisfit: it is taken back, (0, ErrRatio) is laid -/
theorem catch_panicking (b1 b2 : Nat) (q : Addr) (x y z : Int) (w : World) (h0 : w.cell? ⟨0, 0, none⟩ = some (.iface 129 (.pointer (some q))))
    (c0 : w.cell? ⟨b1, 0, none⟩ = some (.int .i64 x)) (c1 : w.cell? ⟨b1, 1, none⟩ = some (.int .i64 y)) (c2 : w.cell? ⟨b2, 0, none⟩ = some (.int .i64 z)) (z0 : w.frozen? ⟨b1, 0, none⟩ = false) (z1 : w.frozen? ⟨b1, 1, none⟩ = false) (z2 : w.frozen? ⟨b2, 0, none⟩ = false) (hne : b1 ≠ b2) :
    CallsD Tryd.prog 65 #[.pointer (some ⟨b1, 0, none⟩), .pointer (some ⟨b2, 0, none⟩)] (.panicking [{ v := .iface 129 (.pointer (some q)), recovered := false }]) w fun e u' w' =>
      e = .returned (.tuple #[]) ∧ u' = .panicking [{ v := .iface 129 (.pointer (some q)), recovered := true }] ∧ w' = ((w.setCell ⟨b1, 0, none⟩ (.int .i64 0)).setCell ⟨b1, 1, none⟩ (.int .i64 0)).setCell ⟨b2, 0, none⟩ (.int .i64 30) := by
  have tA := hasErr
  refine callsD_of_wpS Tryd.func65 rfl fun c₀ cs hu => ?_
  apply wpS_seq
  apply wpS_region
  simp [wpOpsS, go_sem, recoverD, hu, Tryd.ntmps65, Exit.thenS, tA]
  refine wpS_of_wp ?_
  clear tA
  rw [lay65]
  go_wp2_with (go_at_call 66; refine (is_same _ _).mono ?_; rintro e w' ⟨rfl, rfl⟩)
  cases c₀
  simp_all [bodyPostS, results, Tryd.results65]
theorem catch_idle (b1 b2 : Nat) (w : World) :
    CallsD Tryd.prog 65 #[.pointer (some ⟨b1, 0, none⟩), .pointer (some ⟨b2, 0, none⟩)] .returning w fun e u' w' => e = .returned (.tuple #[]) ∧ u' = .returning ∧ w' = w := by
  have tA := nilErr
  refine callsD_of_wpS Tryd.func65 rfl fun c₀ cs hu => ?_
  apply wpS_seq
  apply wpS_region
  simp [wpOpsS, go_sem, recoverD, hu, Tryd.ntmps65, Exit.thenS, tA]
  refine wpS_of_wp ?_
  change Code.wp _ _ _ { tmps := #[.pointer (some ⟨b1, 0, none⟩), .pointer (some ⟨b2, 0, none⟩), .nilIface, .bool false, .tuple #[.nilIface, .bool false], .nilIface, .tuple #[.nilIface, .bool false], .nilIface, .bool false, undef, undef, undef, undef, undef, undef, undef], defers := [] } w
  go_wp2
  cases c₀
  simp_all [bodyPostS, results, Tryd.results65]
end Rat0
end Go.Proofs.YtfplfkcgjdkdaaaDoor
/-
  Ratio: fit (49).
-/
namespace Go.Proofs.YtfplfkcgjdkdaaaDoor
namespace Rat0
open Go
open Go.RowKit

/-- Make, called -/
def resV : Option Q → Value
  | some r => .tuple #[qV r, .int .i64 0]
  | none => .tuple #[qV ⟨0, 0⟩, .int .i64 30]
theorem inv_qe {w : World} {OK : Nat → Prop} {g : Ghost} {a : Q} {z : Int} {v : Value} (h : VRel w OK g v (.tup [qA a, .int .i64 z])) : v = .tuple #[qV a, .int .i64 z] := by
  obtain ⟨vs, vals, rfl, hl, hg, hv⟩ := h.inv_tup
  have k0 := inv_q (hv 0 (by simp))
  have k1 := (hv 1 (by simp)).inv_int
  have g0 := hg 0 (by simp)
  have g1 := hg 1 (by simp)
  rw [k0] at g0
  rw [k1] at g1
  congr 1
  apply Array.ext
  · simpa using hl
  · intro i hi1 hi2
    have : i = 0 ∨ i = 1 := by simp at hi2; omega
    rcases this with rfl | rfl
    · simpa [hi1] using g0
    · simpa [hi1] using g1
theorem inv_res {w : World} {OK : Nat → Prop} {g : Ghost} {r : Option Q} {v : Value} (h : VRel w OK g v (resA r)) : v = resV r := by
  cases r with
  | none => exact inv_qe h
  | some r => exact inv_qe h
def fstQ (r : Option Q) : Q := r.getD ⟨0, 0⟩
def errN (r : Option Q) : Int := if r.isSome then 0 else 30
theorem resV_eq (r : Option Q) : resV r = .tuple #[.agg #[.int .i64 (fstQ r).n, .int .i64 (fstQ r).d], .int .i64 (errN r)] := by cases r <;> rfl
theorem make_calls {x y : Int} (hx : inI x) (hy : inI y) {w : World} {OK : Nat → Prop} (hok : ∀ b, OK b → b < w.heap.size) (hG : GRel GR w OK) :
    Calls Tryd.prog 18 #[.int .i64 x, .int .i64 y] w fun e w' => e = .returned (resV (mkQ x y)) ∧ Below w.heap.size w w' := by
  refine (spec18.2 _ _ (M18_eq hx hy) w OK [.int .i64 x, .int .i64 y] hok hG ⟨.int _ _ _, .int _ _ _, trivial⟩).mono ?_
  rintro e w' ⟨v, OK', rfl, hv, _, hx⟩
  rw [inv_res hv]
  exact ⟨rfl, ext_below hx⟩

theorem fit_calls {f : FuncId} {cap : Array Value} {P : Prop} {x y : Int} {r : Option Q} {q : Addr} {w : World} {OK : Nat → Prop} (hok : ∀ b, OK b → b < w.heap.size) (hG : GRel GR w OK) (hq : w.cell? ⟨0, 0, none⟩ = some (.iface 129 (.pointer (some q))))
    (hent : ∀ args w, (callFunc f args).run Tryd.prog w = .ok (.enter f args) w) (hc : CloOk f cap P x y q w) (hxy : P → inI x ∧ inI y) (hr1 : P → r = mkQ x y) (hr0 : ¬ P → r = none) :
    Calls Tryd.prog 49 #[.func (.func f) #[] cap] w fun e w' => e = .returned (resV r) ∧ Below w.heap.size w w' := by
  have hmf : ∀ (fn : Fn) (first cap : Array Value) (w : World), (Instr.makeFunc fn first cap).run Tryd.prog w = .ok (.func fn first cap) w := fun _ _ _ _ => rfl
  have hA : Below w.heap.size w ((w.alloc (Obj.cells #[.int .i64 0, .int .i64 0] 27)).alloc (Obj.cells #[.int .i64 0] 23)) := ((Below.refl _ w).alloc (Nat.le_refl _) _).alloc (by simp) _
  have rows : ∀ w3 : World, Below ((w.alloc (Obj.cells #[.int .i64 0, .int .i64 0] 27)).alloc (Obj.cells #[.int .i64 0] 23)).heap.size ((w.alloc (Obj.cells #[.int .i64 0, .int .i64 0] 27)).alloc (Obj.cells #[.int .i64 0] 23)) w3 →
      w3.heap[w.heap.size]? = some (.cells #[.int .i64 0, .int .i64 0] 27 (0, 0)) ∧ w3.heap[w.heap.size + 1]? = some (.cells #[.int .i64 0] 23 (0, 0)) := fun w3 h => by
    constructor
    · rw [h.block _ (by simp; omega)]
      show ((w.heap.push _).push _)[w.heap.size]? = _
      rw [Array.getElem?_push, if_neg (by simp), Array.getElem?_push, if_pos rfl]
    · rw [h.block _ (by simp)]
      show ((w.heap.push _).push _)[w.heap.size + 1]? = _
      rw [Array.getElem?_push, if_pos (by simp)]
  have cells : ∀ w3 : World, w3.heap[w.heap.size]? = some (.cells #[.int .i64 0, .int .i64 0] 27 (0, 0)) ∧ w3.heap[w.heap.size + 1]? = some (.cells #[.int .i64 0] 23 (0, 0)) → ∀ n d,
      w3.cell? ⟨w.heap.size, 0, none⟩ = some (.int .i64 0) ∧ (w3.setCell ⟨w.heap.size, 0, none⟩ n).cell? ⟨w.heap.size, 1, none⟩ = some (.int .i64 0) ∧ ((w3.setCell ⟨w.heap.size, 0, none⟩ n).setCell ⟨w.heap.size, 1, none⟩ d).cell? ⟨w.heap.size + 1, 0, none⟩ = some (.int .i64 0) ∧
      w3.frozen? ⟨w.heap.size, 0, none⟩ = false ∧ w3.frozen? ⟨w.heap.size, 1, none⟩ = false ∧ w3.frozen? ⟨w.heap.size + 1, 0, none⟩ = false ∧ w3.cell? ⟨w.heap.size, 1, none⟩ = some (.int .i64 0) ∧ w3.cell? ⟨w.heap.size + 1, 0, none⟩ = some (.int .i64 0) := fun w3 h n d => by
    have q1 : w3.cell? ⟨w.heap.size, 0, none⟩ = some (.int .i64 0) := by simp [World.cell?, h.1]
    have q2 : w3.cell? ⟨w.heap.size, 1, none⟩ = some (.int .i64 0) := by simp [World.cell?, h.1]
    have q3 : w3.cell? ⟨w.heap.size + 1, 0, none⟩ = some (.int .i64 0) := by simp [World.cell?, h.2]
    refine ⟨q1, (World.cell?_setCell_other _ _ _ _ (by simp)).trans q2, (World.cell?_setCell_other _ _ _ _ (by simp)).trans ((World.cell?_setCell_other _ _ _ _ (by simp)).trans q3), ?_, ?_, ?_, q2, q3⟩
    · simp [World.frozen?, h.1]
    · simp [World.frozen?, h.1]
    · simp [World.frozen?, h.2]
  go_enter_defers Tryd.func49, Tryd.ntmps49
  go_wp2_with (fail)
  refine (hc _ hA).mono ?_
  rintro e w3 ⟨⟨hp, rfl⟩ | ⟨hp, rfl⟩, hb⟩
  · have hbw := hA.trans (hb.mono hA.size)
    have mk := make_calls (hxy hp).1 (hxy hp).2 (fun b hb => Nat.lt_of_lt_of_le (hok b hb) hbw.size) (grel_below hok hG hbw)
    rw [← hr1 hp, resV_eq] at mk
    have r3 := rows w3 hb
    clear rows hc hent hr1 hr0
    obtain ⟨n, hn⟩ : ∃ n, n = (fstQ r).n := ⟨_, rfl⟩
    obtain ⟨d, hd⟩ : ∃ n, n = (fstQ r).d := ⟨_, rfl⟩
    obtain ⟨z, hz⟩ : ∃ n, n = errN r := ⟨_, rfl⟩
    rw [← hn, ← hd, ← hz] at mk
    have fin := fun w4 (h : Below w3.heap.size w3 w4) => cells w4 ⟨(h.block _ (Array.getElem?_eq_some_iff.1 r3.1).1).trans r3.1, (h.block _ (Array.getElem?_eq_some_iff.1 r3.2).1).trans r3.2⟩ (.int .i64 n) (.int .i64 d)
    have hR : resV r = .tuple #[.agg #[.int .i64 n, .int .i64 d], .int .i64 z] := by rw [resV_eq, hn, hd, hz]
    clear cells r3 hn hd hz
    go_wp2_with (go_at_call 18; refine mk.mono ?_)
    rintro e w4 ⟨rfl, hb4⟩
    obtain ⟨c0, c1, c2, z0, z1, z2, _, _⟩ := fin w4 hb4
    clear mk fin
    go_wp2
    have hbel : Below w.heap.size w (((w4.setCell ⟨w.heap.size, 0, none⟩ (.int .i64 n)).setCell ⟨w.heap.size, 1, none⟩ (.int .i64 d)).setCell ⟨w.heap.size + 1, 0, none⟩ (.int .i64 z)) :=
      (((hbw.trans (hb4.mono hbw.size)).setCell (p := ⟨w.heap.size, 0, none⟩) (Nat.le_refl _) _).setCell (p := ⟨w.heap.size, 1, none⟩) (Nat.le_refl _) _).setCell (p := ⟨w.heap.size + 1, 0, none⟩) (Nat.le_succ _) _
    have s0 := World.cell?_setCell_same _ _ (.int .i64 n) c0
    have s1 := World.cell?_setCell_same _ _ (.int .i64 d) c1
    have s2 := World.cell?_setCell_same _ _ (.int .i64 z) c2
    have t0 := (World.cell?_setCell_other _ ⟨w.heap.size + 1, 0, none⟩ ⟨w.heap.size, 0, none⟩ (.int .i64 z) (by simp)).trans ((World.cell?_setCell_other _ ⟨w.heap.size, 1, none⟩ ⟨w.heap.size, 0, none⟩ (.int .i64 d) (by simp)).trans s0)
    have t1 := (World.cell?_setCell_other _ ⟨w.heap.size + 1, 0, none⟩ ⟨w.heap.size, 1, none⟩ (.int .i64 z) (by simp)).trans s1
    refine leaves_cons (f := 65) (args := #[.pointer (some ⟨w.heap.size, 0, none⟩), .pointer (some ⟨w.heap.size + 1, 0, none⟩)]) (by simp) (by simp [go_sem]) ?_
    refine (catch_idle _ _ _).mono ?_
    rintro e u' w'' ⟨rfl, rfl, rfl⟩
    simp [Leaves, settle, results, Tryd.results49, go_sem, t0, t1, s2, hR, hbel]
  · have hbw := hA.trans (hb.mono hA.size)
    have hr := hr0 hp
    subst hr
    obtain ⟨c0, _, _, z0, z1, z2, c1, c2⟩ := cells w3 (rows w3 hb) (.int .i64 0) (.int .i64 0)
    refine leaves_cons (f := 65) (args := #[.pointer (some ⟨w.heap.size, 0, none⟩), .pointer (some ⟨w.heap.size + 1, 0, none⟩)]) (by simp) (by simp [go_sem]) ?_
    refine (catch_panicking _ _ q 0 0 0 w3 (old_cell hbw hq) c0 c1 c2 z0 z1 z2 (by omega)).mono ?_
    rintro e u' w'' ⟨rfl, rfl, rfl⟩
    obtain ⟨_, e1, e2, _⟩ := cells w3 (rows w3 hb) (.int .i64 0) (.int .i64 0)
    have s0 := World.cell?_setCell_same _ _ (.int .i64 0) c0
    have s1 := World.cell?_setCell_same _ _ (.int .i64 0) e1
    have s2 := World.cell?_setCell_same _ _ (.int .i64 30) e2
    have t0 := (World.cell?_setCell_other _ ⟨w.heap.size + 1, 0, none⟩ ⟨w.heap.size, 0, none⟩ (.int .i64 30) (by simp)).trans ((World.cell?_setCell_other _ ⟨w.heap.size, 1, none⟩ ⟨w.heap.size, 0, none⟩ (.int .i64 0) (by simp)).trans s0)
    have t1 := (World.cell?_setCell_other _ ⟨w.heap.size + 1, 0, none⟩ ⟨w.heap.size, 1, none⟩ (.int .i64 30) (by simp)).trans s1
    have hbel : Below w.heap.size w (((w3.setCell ⟨w.heap.size, 0, none⟩ (.int .i64 0)).setCell ⟨w.heap.size, 1, none⟩ (.int .i64 0)).setCell ⟨w.heap.size + 1, 0, none⟩ (.int .i64 30)) :=
      ((hbw.setCell (p := ⟨w.heap.size, 0, none⟩) (Nat.le_refl _) _).setCell (p := ⟨w.heap.size, 1, none⟩) (Nat.le_refl _) _).setCell (p := ⟨w.heap.size + 1, 0, none⟩) (Nat.le_succ _) _
    simp [Leaves, settle, results, Tryd.results49, go_sem, t0, t1, s2, hbel, resV, qV]
end Rat0
end Go.Proofs.YtfplfkcgjdkdaaaDoor
/-
  Ratio: fit as a model (49); Add 26, Mul 27, Div 32, Round 22, Sub 25; the reference's 29, 31, 33, 30, 34.
-/
namespace Go.Proofs.YtfplfkcgjdkdaaaDoor
namespace Rat0
open Go
open Go.RowKit

theorem resA_eq (r : Option Q) : resA r = .tup [.agg [.int .i64 (fstQ r).n, .int .i64 (fstQ r).d], .int .i64 (errN r)] := by cases r <;> rfl
theorem vrel_res {w : World} {OK : Nat → Prop} {g : Ghost} (r : Option Q) : VRel w OK g (resV r) (resA r) := by
  have key : ∀ (a : Q) (z : Int), VRel w OK g (.tuple #[qV a, .int .i64 z]) (.tup [qA a, .int .i64 z]) := fun a z =>
    .tup _ _ _ rfl (fun i => if i = 0 then qV a else .int .i64 z) (fun i hi => by
      have : i = 0 ∨ i = 1 := by simp at hi; omega
      rcases this with rfl | rfl <;> rfl) (fun i hi => by
      have : i = 0 ∨ i = 1 := by simp at hi; omega
      rcases this with rfl | rfl
      · exact vrel_q a
      · exact .int _ _ _)
  cases r with
  | none => exact key _ _
  | some r => exact key _ _
open Classical in
/-- what a closure of this package yields, by way of fit -/
noncomputable def cloR (f : FuncId) (x y : AV) : Option (Option Q) := match x, y with
  | .fp [.int .i64 n, .int .i64 d], .fp [.int .i64 n', .int .i64 d'] => if InQ ⟨n, d⟩ ∧ InQ ⟨n', d'⟩ then (if f = 52 then some (addQ ⟨n, d⟩ ⟨n', d'⟩) else if f = 53 then some (mulQ ⟨n, d⟩ ⟨n', d'⟩) else if f = 57 then some (divQ ⟨n, d⟩ ⟨n', d'⟩) else none) else none
  | .fp [.int .i64 n, .int .i64 d], .fp [.int .i64 z] => if f = 50 ∧ InQ ⟨n, d⟩ ∧ 1 ≤ z ∧ z ≤ lim then some (roundQ ⟨n, d⟩ z) else none
  | _, _ => none
noncomputable def M49 : PModel := fun args => match args with
  | [.func (.func f) [] [x, y]] => (cloR f x y).map resA
  | _ => none
theorem ent52 : ∀ args w, (callFunc 52 args).run Tryd.prog w = .ok (.enter 52 args) w := fun args w => enters_of Tryd.func52 (by kernel_rfl) rfl args w
theorem ent53 : ∀ args w, (callFunc 53 args).run Tryd.prog w = .ok (.enter 53 args) w := fun args w => enters_of Tryd.func53 (by kernel_rfl) rfl args w
theorem ent57 : ∀ args w, (callFunc 57 args).run Tryd.prog w = .ok (.enter 57 args) w := fun args w => enters_of Tryd.func57 (by kernel_rfl) rfl args w
theorem ent50 : ∀ args w, (callFunc 50 args).run Tryd.prog w = .ok (.enter 50 args) w := fun args w => enters_of Tryd.func50 (by kernel_rfl) rfl args w
theorem spec49 : PureSpec Tryd.prog GR 49 M49 := by
  refine ⟨fun args w => enters_of Tryd.func49 (by kernel_rfl) rfl args w, fun args r h w OK vs hok hG hl => ?_⟩
  unfold M49 at h
  split at h
  rotate_left
  · cases h
  rename_i f x y
  simp only [Option.map_eq_some_iff] at h
  obtain ⟨r, hr, rfl⟩ := h
  match vs, hl with
  | [v], ⟨hv, _⟩ =>
  obtain ⟨vs1, vs2, vals1, vals2, rfl, hl1, hl2, hg1, hg2, hv1, hv2⟩ := hv.inv_func
  have e1 : vs1 = #[] := by apply Array.eq_empty_of_size_eq_zero; simpa using hl1
  have e2 : vs2 = #[vals2 0, vals2 1] := by
    have g0 := hg2 0 (by simp)
    have g1 := hg2 1 (by simp)
    apply Array.ext
    · simpa using hl2
    · intro i hi1 hi2
      have : i = 0 ∨ i = 1 := by simp at hi2; omega
      rcases this with rfl | rfl
      · simpa [hi1] using g0
      · simpa [hi1] using g1
  have hx := hv2 0 (by simp)
  have hy := hv2 1 (by simp)
  simp only [List.getElem_cons_zero, List.getElem_cons_succ] at hx hy
  subst e1
  rw [e2]
  obtain ⟨q, hq⟩ := misfit hG
  have go : ∀ {P : Prop} {x y : Int}, (∀ args w, (callFunc f args).run Tryd.prog w = .ok (.enter f args) w) → CloOk f #[vals2 0, vals2 1] P x y q w → (P → inI x ∧ inI y) → (P → r = mkQ x y) → (¬ P → r = none) →
      Calls Tryd.prog 49 [Value.func (.func f) #[] #[vals2 0, vals2 1]].toArray w fun e w' => ∃ v OK', e = .returned v ∧ VRel w' OK' Ghost.none v (resA r) ∧ (∀ b, OK' b → b < w'.heap.size) ∧ Ext w OK Ghost.none w' OK' Ghost.none := by
    intro P x y he hc hxy h1 h0
    refine (fit_calls hok hG hq he hc hxy h1 h0).mono ?_
    rintro e w' ⟨rfl, hb⟩
    exact ⟨_, OK, rfl, vrel_res r, fun b hb' => Nat.lt_of_lt_of_le (hok b hb') hb.size, below_ext hok hb⟩
  unfold cloR at hr
  split at hr
  · rename_i n d n' d'
    simp only [Option.ite_none_right_eq_some] at hr
    obtain ⟨⟨ha, hb⟩, hr⟩ := hr
    have hl' : ListRel w OK Ghost.none [vals2 0, vals2 1] [fpA ⟨n, d⟩, fpA ⟨n', d'⟩] := ⟨hx, hy, trivial⟩
    split at hr
    · rename_i hf
      subst hf
      injection hr with hr; subst hr
      refine go (P := Ok ⟨n, d⟩ ∧ Ok ⟨n', d'⟩) ent52 (clo_add ha hb hok hG hl' hq) (fun h => ?_) (fun h => if_pos h) (fun h => if_neg h)
      have p1 := h.1.prod h.2
      have p2 := h.2.prod h.1
      have p3 := h.1.prodD h.2
      unfold inI
      omega
    · split at hr
      · rename_i hf
        subst hf
        injection hr with hr; subst hr
        refine go (P := Ok ⟨n, d⟩ ∧ Ok ⟨n', d'⟩) ent53 (clo_mul ha hb hok hG hl' hq) (fun h => ?_) (fun h => if_pos h) (fun h => if_neg h)
        have p1 := h.1.prodN h.2
        have p3 := h.1.prodD h.2
        unfold inI
        omega
      · split at hr
        · rename_i hf
          subst hf
          injection hr with hr; subst hr
          refine go (P := Ok ⟨n, d⟩ ∧ Ok ⟨n', d'⟩) ent57 (clo_div ha hb hok hG hl' hq) (fun h => ?_) (fun h => if_pos h) (fun h => if_neg h)
          have p1 := h.1.prod h.2
          have p2 := h.2.prod h.1
          have c := Int.mul_comm d n'
          simp only at p1 p2 c ⊢
          unfold inI
          omega
        · cases hr
  · rename_i n d z
    simp only [Option.ite_none_right_eq_some, Option.some.injEq] at hr
    obtain ⟨⟨rfl, ha, hz⟩, rfl⟩ := hr
    have hl' : ListRel w OK Ghost.none [vals2 0, vals2 1] [fpA ⟨n, d⟩, .fp [.int .i64 z]] := ⟨hx, hy, trivial⟩
    refine go (P := Ok ⟨n, d⟩) ent50 (clo_round ha hz hok hG hl' hq) (fun h => ?_) (fun h => if_pos ⟨hz, h⟩) (fun h => if_neg fun k => h k.2)
    obtain ⟨h1, h2, h3, h4, _⟩ := h
    unfold lim at hz h2 h3 h4
    simp only at h1 h2 h3 h4 ⊢
    have q1 := Int.mul_le_mul_of_nonneg_right h4 (show 0 ≤ z by omega)
    have q2 := Int.mul_le_mul_of_nonneg_right h3 (show 0 ≤ z by omega)
    rw [Int.neg_mul] at q2
    have e0 : 2 * n * z = 2 * (n * z) := by grind
    exact ⟨ediv_in (by omega) (by unfold inI; omega), by unfold inI; omega⟩
  · cases hr

noncomputable def fs26 : List (FuncId × HModel) := [(49, pureH 4 M49)]
@[simp] theorem fs26_49 : lookM fs26 49 = some (pureH 4 M49) := rfl
theorem sound26 : ∀ f M, lookM fs26 f = some M → FnSpecY Tryd.prog GR f M := lookM_cons (FnSpecY.of_pure spec49 4) lookM_nil
noncomputable def M26 : PModel := fun args => evP (envOf GR fs26) 0 mf26 2 args
theorem spec26 : PureSpec Tryd.prog GR 26 M26 := PureSpec.of_ev (E := envOf GR fs26) (envOf_sound sound26) rfl at26 comp26 2 fun _ _ h => ⟨0, h⟩
theorem M26_eq {a b : Q} (ha : InQ a) (hb : InQ b) : M26 [qA a, qA b] = some (resA (addQ a b)) := by
  have m : M49 [.func (.func 52) [] [fpA a, fpA b]] = some (resA (addQ a b)) := by
    unfold M49 fpA cloR
    simp only
    rw [if_pos ⟨ha, hb⟩]
    rfl
  rw [resA_eq] at m ⊢
  obtain ⟨n, hn⟩ : ∃ n, n = (fstQ (addQ a b)).n := ⟨_, rfl⟩
  obtain ⟨d, hd⟩ : ∃ n, n = (fstQ (addQ a b)).d := ⟨_, rfl⟩
  obtain ⟨z, hz⟩ : ∃ n, n = errN (addQ a b) := ⟨_, rfl⟩
  rw [← hn, ← hd, ← hz] at m ⊢
  unfold fpA at m
  unfold M26
  rw [evP_run _ _ rfl]
  unfold qA
  simp [mf26, m]
noncomputable def M27 : PModel := fun args => evP (envOf GR fs26) 0 mf27 2 args
theorem spec27 : PureSpec Tryd.prog GR 27 M27 := PureSpec.of_ev (E := envOf GR fs26) (envOf_sound sound26) rfl at27 comp27 2 fun _ _ h => ⟨0, h⟩
theorem M27_eq {a b : Q} (ha : InQ a) (hb : InQ b) : M27 [qA a, qA b] = some (resA (mulQ a b)) := by
  have m : M49 [.func (.func 53) [] [fpA a, fpA b]] = some (resA (mulQ a b)) := by
    unfold M49 fpA cloR
    simp only
    rw [if_pos ⟨ha, hb⟩]
    rfl
  rw [resA_eq] at m ⊢
  obtain ⟨n, hn⟩ : ∃ n, n = (fstQ (mulQ a b)).n := ⟨_, rfl⟩
  obtain ⟨d, hd⟩ : ∃ n, n = (fstQ (mulQ a b)).d := ⟨_, rfl⟩
  obtain ⟨z, hz⟩ : ∃ n, n = errN (mulQ a b) := ⟨_, rfl⟩
  rw [← hn, ← hd, ← hz] at m ⊢
  unfold fpA at m
  unfold M27
  rw [evP_run _ _ rfl]
  unfold qA
  simp [mf27, m]
noncomputable def M32 : PModel := fun args => evP (envOf GR fs26) 0 mf32 2 args
theorem spec32 : PureSpec Tryd.prog GR 32 M32 := PureSpec.of_ev (E := envOf GR fs26) (envOf_sound sound26) rfl at32 comp32 2 fun _ _ h => ⟨0, h⟩
theorem M32_eq {a b : Q} (ha : InQ a) (hb : InQ b) : M32 [qA a, qA b] = some (resA (divQ a b)) := by
  have m : M49 [.func (.func 57) [] [fpA a, fpA b]] = some (resA (divQ a b)) := by
    unfold M49 fpA cloR
    simp only
    rw [if_pos ⟨ha, hb⟩]
    rfl
  rw [resA_eq] at m ⊢
  obtain ⟨n, hn⟩ : ∃ n, n = (fstQ (divQ a b)).n := ⟨_, rfl⟩
  obtain ⟨d, hd⟩ : ∃ n, n = (fstQ (divQ a b)).d := ⟨_, rfl⟩
  obtain ⟨z, hz⟩ : ∃ n, n = errN (divQ a b) := ⟨_, rfl⟩
  rw [← hn, ← hd, ← hz] at m ⊢
  unfold fpA at m
  unfold M32
  rw [evP_run _ _ rfl]
  unfold qA
  simp [mf32, m]
noncomputable def M22 : PModel := fun args => evP (envOf GR fs26) 0 mf22 2 args
theorem spec22 : PureSpec Tryd.prog GR 22 M22 := PureSpec.of_ev (E := envOf GR fs26) (envOf_sound sound26) rfl at22 comp22 2 fun _ _ h => ⟨0, h⟩
theorem M22_eq {a : Q} {d : Int} (ha : InQ a) : M22 [qA a, .int .i64 d] = some (resA (roundQ a d)) := by
  unfold M22
  rw [evP_run _ _ rfl]
  by_cases h : 1 ≤ d ∧ d ≤ lim
  · have m : M49 [.func (.func 50) [] [fpA a, .fp [.int .i64 d]]] = some (resA (roundQ a d)) := by
      unfold M49 fpA cloR
      simp only
      rw [if_pos ⟨rfl, ha, h.1, h.2⟩]
      rfl
    rw [resA_eq] at m ⊢
    obtain ⟨n, hn⟩ : ∃ n, n = (fstQ (roundQ a d)).n := ⟨_, rfl⟩
    obtain ⟨y, hd⟩ : ∃ n, n = (fstQ (roundQ a d)).d := ⟨_, rfl⟩
    obtain ⟨z, hz⟩ : ∃ n, n = errN (roundQ a d) := ⟨_, rfl⟩
    rw [← hn, ← hd, ← hz] at m ⊢
    unfold fpA at m
    unfold lim at h
    have b1 : evBin .lss (.int .i64 d) (.int .i64 1) = some (.bool false) := by simp [evBin]; omega
    have b2 : evBin .gtr (.int .i64 d) (.int .i64 1000000000) = some (.bool false) := by simp [evBin]; omega
    unfold qA
    simp [mf22, m, b1, b2, -evBin]
  · have e : roundQ a d = none := by unfold roundQ; exact if_neg fun k => h k.1
    rw [e]
    unfold lim at h
    have b1 : evBin .lss (.int .i64 d) (.int .i64 1) = some (.bool (decide (d < 1))) := by simp [evBin]
    have b2 : evBin .gtr (.int .i64 d) (.int .i64 1000000000) = some (.bool (decide (1000000000 < d))) := by simp [evBin]
    unfold qA
    by_cases h1 : d < 1
    · simp only [h1, decide_true] at b1
      simp [mf22, b1, resA, qA, -evBin]
    · have h2 : 1000000000 < d := by omega
      simp only [h1, h2, decide_true, decide_false] at b1 b2
      simp [mf22, b1, b2, resA, qA, -evBin]

/-! ### Sub -/
noncomputable def fs25 : List (FuncId × HModel) := [(26, pureH 4 M26)]
@[simp] theorem fs25_26 : lookM fs25 26 = some (pureH 4 M26) := rfl
noncomputable def M25 : PModel := fun args => evP (envOf GR fs25) 0 mf25 2 args
theorem spec25 : PureSpec Tryd.prog GR 25 M25 := PureSpec.of_ev (E := envOf GR fs25) (envOf_sound (lookM_cons (FnSpecY.of_pure spec26 4) lookM_nil)) rfl at25 comp25 2 fun _ _ h => ⟨0, h⟩
theorem wrap_in (z : Int) : inI (IntKind.i64.wrap z) := by
  unfold inI IntKind.wrap
  simp [IntKind.signed, IntKind.bits]
  omega
theorem sub_wrap {a b : Q} (hb : InQ b) : addQ a ⟨IntKind.i64.wrap (-b.n), b.d⟩ = subQ a b := by
  unfold subQ negQ
  by_cases h : b.n = -9223372036854775808
  · have h1 : ¬ Ok ⟨IntKind.i64.wrap (-b.n), b.d⟩ := fun k => by
      have := k.2.2.1
      rw [h] at this
      exact absurd this (show ¬ -lim ≤ IntKind.i64.wrap (- -9223372036854775808) by decide +kernel)
    have h2 : ¬ Ok ⟨-b.n, b.d⟩ := fun k => by
      have := k.2.2.2.1
      unfold lim at this
      simp only at this
      omega
    unfold addQ
    rw [if_neg (fun k => h1 k.2), if_neg (fun k => h2 k.2)]
  · rw [wrapI (by have := hb.1; unfold inI at *; omega)]
theorem M25_eq {a b : Q} (ha : InQ a) (hb : InQ b) : M25 [qA a, qA b] = some (resA (subQ a b)) := by
  have m := M26_eq ha (b := ⟨IntKind.i64.wrap (-b.n), b.d⟩) ⟨wrap_in _, hb.2⟩
  rw [sub_wrap hb, resA_eq] at m
  rw [resA_eq]
  obtain ⟨n, hn⟩ : ∃ n, n = (fstQ (subQ a b)).n := ⟨_, rfl⟩
  obtain ⟨d, hd⟩ : ∃ n, n = (fstQ (subQ a b)).d := ⟨_, rfl⟩
  obtain ⟨z, hz⟩ : ∃ n, n = errN (subQ a b) := ⟨_, rfl⟩
  rw [← hn, ← hd, ← hz] at m ⊢
  unfold M25
  rw [evP_run _ _ rfl]
  unfold qA at m ⊢
  simp [mf25, m]

/-! ### the reference's -/
noncomputable def fs29 : List (FuncId × HModel) := [(56, pureH 4 M56), (28, pureH 4 M28), (35, pureH 4 M35), (58, pureH 4 M58)]
@[simp] theorem fs29_56 : lookM fs29 56 = some (pureH 4 M56) := rfl
@[simp] theorem fs29_28 : lookM fs29 28 = some (pureH 4 M28) := rfl
@[simp] theorem fs29_35 : lookM fs29 35 = some (pureH 4 M35) := rfl
@[simp] theorem fs29_58 : lookM fs29 58 = some (pureH 4 M58) := rfl
theorem sound29 : ∀ f M, lookM fs29 f = some M → FnSpecY Tryd.prog GR f M := lookM_cons (FnSpecY.of_pure spec56 4) (lookM_cons (FnSpecY.of_pure spec28 4) (lookM_cons (FnSpecY.of_pure spec35 4) (lookM_cons (FnSpecY.of_pure spec58 4) lookM_nil)))
theorem evMul {x y : Int} (h : inI (x * y)) : evBin .mul (.int .i64 x) (.int .i64 y) = some (.int .i64 (x * y)) := by simp only [evBin, if_true]; rw [wrapI h]
theorem evAdd {x y : Int} (h : inI (x + y)) : evBin .add (.int .i64 x) (.int .i64 y) = some (.int .i64 (x + y)) := by simp only [evBin, if_true]; rw [wrapI h]
theorem evSub {x y : Int} (h : inI (x - y)) : evBin .sub (.int .i64 x) (.int .i64 y) = some (.int .i64 (x - y)) := by simp only [evBin, if_true]; rw [wrapI h]
theorem sub_mk {a b : Q} (ha : Ok a) (hb : Ok b) : subQ a b = mkQ (a.n * b.d - b.n * a.d) (a.d * b.d) := by
  unfold subQ addQ
  rw [if_pos ⟨ha, hb.neg⟩]
  simp only [negQ, Int.neg_mul, Int.sub_eq_add_neg]
theorem sub_none {a b : Q} (h : ¬ (Ok a ∧ Ok b)) : subQ a b = none := by
  unfold subQ addQ
  refine if_neg fun k => h ⟨k.1, ?_⟩
  have := k.2.neg
  unfold negQ at this
  simpa using this
noncomputable def M29 : PModel := fun args => evP (envOf GR fs29) 0 mf29 2 args
theorem spec29 : PureSpec Tryd.prog GR 29 M29 := PureSpec.of_ev (E := envOf GR fs29) (envOf_sound sound29) rfl at29 comp29 2 fun _ _ h => ⟨0, h⟩
theorem M29_eq {a b : Q} (ha : InQ a) (hb : InQ b) : M29 [qA a, qA b] = some (resA (addQ a b)) := by
  have m := M56_eq ha hb
  unfold M29
  rw [evP_run _ _ rfl]
  by_cases h : Ok a ∧ Ok b
  · simp only [h, and_self, decide_true] at m
    have p1 := h.1.prod h.2
    have p2 := h.2.prod h.1
    have p3 := h.1.prodD h.2
    have p4 := h.1.prodN h.2
    have c := Int.mul_comm a.d b.n
    have e1 := evMul (x := a.n) (y := b.d) (by unfold inI; omega)
    have e2 := evMul (x := b.n) (y := a.d) (by unfold inI; omega)
    have e3 := evMul (x := a.d) (y := b.d) (by unfold inI; omega)
    have e4 := evAdd (x := a.n * b.d) (y := b.n * a.d) (by unfold inI; omega)
    have k := M28_eq (n := a.n * b.d + b.n * a.d) (d := a.d * b.d) (by unfold inI; omega) (by unfold inI; omega)
    rw [show addQ a b = mkQ (a.n * b.d + b.n * a.d) (a.d * b.d) from if_pos h, resA_eq]
    rw [resA_eq] at k
    obtain ⟨x, hx⟩ : ∃ n, n = (fstQ (mkQ (a.n * b.d + b.n * a.d) (a.d * b.d))).n := ⟨_, rfl⟩
    obtain ⟨y, hy⟩ : ∃ n, n = (fstQ (mkQ (a.n * b.d + b.n * a.d) (a.d * b.d))).d := ⟨_, rfl⟩
    obtain ⟨z, hz⟩ : ∃ n, n = errN (mkQ (a.n * b.d + b.n * a.d) (a.d * b.d)) := ⟨_, rfl⟩
    rw [← hx, ← hy, ← hz] at k ⊢
    unfold qA at m ⊢
    simp [mf29, m, k, e1, e2, e3, e4, -evBin]
  · simp only [h, decide_false] at m
    rw [show addQ a b = none from if_neg h]
    unfold qA at m ⊢
    simp [mf29, m, resA, qA]
noncomputable def M30 : PModel := fun args => evP (envOf GR fs29) 0 mf30 2 args
theorem spec30 : PureSpec Tryd.prog GR 30 M30 := PureSpec.of_ev (E := envOf GR fs29) (envOf_sound sound29) rfl at30 comp30 2 fun _ _ h => ⟨0, h⟩
theorem M30_eq {a b : Q} (ha : InQ a) (hb : InQ b) : M30 [qA a, qA b] = some (resA (subQ a b)) := by
  have m := M56_eq ha hb
  unfold M30
  rw [evP_run _ _ rfl]
  by_cases h : Ok a ∧ Ok b
  · simp only [h, and_self, decide_true] at m
    have p1 := h.1.prod h.2
    have p2 := h.2.prod h.1
    have p3 := h.1.prodD h.2
    have p4 := h.1.prodN h.2
    have c := Int.mul_comm a.d b.n
    have e1 := evMul (x := a.n) (y := b.d) (by unfold inI; omega)
    have e2 := evMul (x := b.n) (y := a.d) (by unfold inI; omega)
    have e3 := evMul (x := a.d) (y := b.d) (by unfold inI; omega)
    have e4 := evSub (x := a.n * b.d) (y := b.n * a.d) (by unfold inI; omega)
    have k := M28_eq (n := a.n * b.d - b.n * a.d) (d := a.d * b.d) (by unfold inI; omega) (by unfold inI; omega)
    rw [sub_mk h.1 h.2, resA_eq]
    rw [resA_eq] at k
    obtain ⟨x, hx⟩ : ∃ n, n = (fstQ (mkQ (a.n * b.d - b.n * a.d) (a.d * b.d))).n := ⟨_, rfl⟩
    obtain ⟨y, hy⟩ : ∃ n, n = (fstQ (mkQ (a.n * b.d - b.n * a.d) (a.d * b.d))).d := ⟨_, rfl⟩
    obtain ⟨z, hz⟩ : ∃ n, n = errN (mkQ (a.n * b.d - b.n * a.d) (a.d * b.d)) := ⟨_, rfl⟩
    rw [← hx, ← hy, ← hz] at k ⊢
    unfold qA at m ⊢
    simp [mf30, m, k, e1, e2, e3, e4, -evBin]
  · simp only [h, decide_false] at m
    rw [sub_none h]
    unfold qA at m ⊢
    simp [mf30, m, resA, qA]
noncomputable def M31 : PModel := fun args => evP (envOf GR fs29) 0 mf31 2 args
theorem spec31 : PureSpec Tryd.prog GR 31 M31 := PureSpec.of_ev (E := envOf GR fs29) (envOf_sound sound29) rfl at31 comp31 2 fun _ _ h => ⟨0, h⟩
theorem M31_eq {a b : Q} (ha : InQ a) (hb : InQ b) : M31 [qA a, qA b] = some (resA (mulQ a b)) := by
  have m := M56_eq ha hb
  unfold M31
  rw [evP_run _ _ rfl]
  by_cases h : Ok a ∧ Ok b
  · simp only [h, and_self, decide_true] at m
    have p1 := h.1.prod h.2
    have p2 := h.2.prod h.1
    have p3 := h.1.prodD h.2
    have p4 := h.1.prodN h.2
    have c := Int.mul_comm a.d b.n
    have e1 := evMul (x := a.n) (y := b.n) (by unfold inI; omega)
    have e3 := evMul (x := a.d) (y := b.d) (by unfold inI; omega)
    have k := M28_eq (n := a.n * b.n) (d := a.d * b.d) (by unfold inI; omega) (by unfold inI; omega)
    rw [show mulQ a b = mkQ (a.n * b.n) (a.d * b.d) from if_pos h, resA_eq]
    rw [resA_eq] at k
    obtain ⟨x, hx⟩ : ∃ n, n = (fstQ (mkQ (a.n * b.n) (a.d * b.d))).n := ⟨_, rfl⟩
    obtain ⟨y, hy⟩ : ∃ n, n = (fstQ (mkQ (a.n * b.n) (a.d * b.d))).d := ⟨_, rfl⟩
    obtain ⟨z, hz⟩ : ∃ n, n = errN (mkQ (a.n * b.n) (a.d * b.d)) := ⟨_, rfl⟩
    rw [← hx, ← hy, ← hz] at k ⊢
    unfold qA at m ⊢
    simp [mf31, m, k, e1, e3, -evBin]
  · simp only [h, decide_false] at m
    rw [show mulQ a b = none from if_neg h]
    unfold qA at m ⊢
    simp [mf31, m, resA, qA]
noncomputable def M33 : PModel := fun args => evP (envOf GR fs29) 0 mf33 2 args
theorem spec33 : PureSpec Tryd.prog GR 33 M33 := PureSpec.of_ev (E := envOf GR fs29) (envOf_sound sound29) rfl at33 comp33 2 fun _ _ h => ⟨0, h⟩
theorem M33_eq {a b : Q} (ha : InQ a) (hb : InQ b) : M33 [qA a, qA b] = some (resA (divQ a b)) := by
  have m := M56_eq ha hb
  unfold M33
  rw [evP_run _ _ rfl]
  by_cases h : Ok a ∧ Ok b
  · simp only [h, and_self, decide_true] at m
    have p1 := h.1.prod h.2
    have p2 := h.2.prod h.1
    have p3 := h.1.prodD h.2
    have p4 := h.1.prodN h.2
    have c := Int.mul_comm a.d b.n
    have e1 := evMul (x := a.n) (y := b.d) (by unfold inI; omega)
    have e3 := evMul (x := a.d) (y := b.n) (by unfold inI; omega)
    have k := M28_eq (n := a.n * b.d) (d := a.d * b.n) (by unfold inI; omega) (by unfold inI; omega)
    rw [show divQ a b = mkQ (a.n * b.d) (a.d * b.n) from if_pos h, resA_eq]
    rw [resA_eq] at k
    obtain ⟨x, hx⟩ : ∃ n, n = (fstQ (mkQ (a.n * b.d) (a.d * b.n))).n := ⟨_, rfl⟩
    obtain ⟨y, hy⟩ : ∃ n, n = (fstQ (mkQ (a.n * b.d) (a.d * b.n))).d := ⟨_, rfl⟩
    obtain ⟨z, hz⟩ : ∃ n, n = errN (mkQ (a.n * b.d) (a.d * b.n)) := ⟨_, rfl⟩
    rw [← hx, ← hy, ← hz] at k ⊢
    unfold qA at m ⊢
    simp [mf33, m, k, e1, e3, -evBin]
  · simp only [h, decide_false] at m
    rw [show divQ a b = none from if_neg h]
    unfold qA at m ⊢
    simp [mf33, m, resA, qA]
noncomputable def M34 : PModel := fun args => evP (envOf GR fs29) 0 mf34 2 args
theorem spec34 : PureSpec Tryd.prog GR 34 M34 := PureSpec.of_ev (E := envOf GR fs29) (envOf_sound sound29) rfl at34 comp34 2 fun _ _ h => ⟨0, h⟩
set_option maxHeartbeats 4000000 in
theorem M34_eq {a : Q} {d : Int} (ha : InQ a) : M34 [qA a, .int .i64 d] = some (resA (roundQ a d)) := by
  have m := M35_eq ha
  unfold M34
  rw [evP_run _ _ rfl]
  have b1 : evBin .lss (.int .i64 d) (.int .i64 1) = some (.bool (decide (d < 1))) := by simp [evBin]
  have b2 : evBin .gtr (.int .i64 d) (.int .i64 1000000000) = some (.bool (decide (1000000000 < d))) := by simp [evBin]
  by_cases h : Ok a
  · simp only [h, decide_true] at m
    by_cases hd : 1 ≤ d ∧ d ≤ lim
    · have er : roundQ a d = mkQ ((2 * a.n * d + a.d) / (2 * a.d)) d := if_pos ⟨hd, h⟩
      obtain ⟨h1, h2, h3, h4, _⟩ := h
      unfold lim at hd h2 h3 h4
      have q1 := Int.mul_le_mul_of_nonneg_right h4 (show 0 ≤ d by omega)
      have q2 := Int.mul_le_mul_of_nonneg_right h3 (show 0 ≤ d by omega)
      rw [Int.neg_mul] at q2
      have e0 : 2 * a.n * d = 2 * (a.n * d) := by grind
      have e1 := evMul (x := 2) (y := a.n) (by unfold inI; omega)
      have e2 := evMul (x := 2 * a.n) (y := d) (by unfold inI; omega)
      have e3 := evAdd (x := 2 * a.n * d) (y := a.d) (by unfold inI; omega)
      have e4 := evMul (x := 2) (y := a.d) (by unfold inI; omega)
      have f1 := M58_eq (n := 2 * a.n * d + a.d) (d := 2 * a.d) (by omega) (by unfold inI; omega)
      have k := M28_eq (n := (2 * a.n * d + a.d) / (2 * a.d)) (d := d) (ediv_in (by omega) (by unfold inI; omega)) (by unfold inI; omega)
      rw [er, resA_eq]
      rw [resA_eq] at k
      obtain ⟨x, hx⟩ : ∃ n, n = (fstQ (mkQ ((2 * a.n * d + a.d) / (2 * a.d)) d)).n := ⟨_, rfl⟩
      obtain ⟨y, hy⟩ : ∃ n, n = (fstQ (mkQ ((2 * a.n * d + a.d) / (2 * a.d)) d)).d := ⟨_, rfl⟩
      obtain ⟨z, hz⟩ : ∃ n, n = errN (mkQ ((2 * a.n * d + a.d) / (2 * a.d)) d) := ⟨_, rfl⟩
      rw [← hx, ← hy, ← hz] at k ⊢
      have g1 : ¬ d < 1 := by omega
      have g2 : ¬ 1000000000 < d := by omega
      simp only [g1, g2, decide_false] at b1 b2
      unfold qA at m ⊢
      simp [mf34, m, k, e1, e2, e3, e4, f1, b1, b2, -evBin]
    · rw [show roundQ a d = none from if_neg fun k => hd k.1]
      unfold lim at hd
      unfold qA at m ⊢
      by_cases g1 : d < 1
      · simp only [g1, decide_true] at b1
        simp [mf34, m, b1, resA, qA, -evBin]
      · have g2 : 1000000000 < d := by omega
        simp only [g1, g2, decide_false, decide_true] at b1 b2
        simp [mf34, m, b1, b2, resA, qA, -evBin]
  · simp only [h, decide_false] at m
    rw [show roundQ a d = none from if_neg fun k => h k.2]
    unfold qA at m ⊢
    simp [mf34, m, resA, qA]
end Rat0
end Go.Proofs.YtfplfkcgjdkdaaaDoor
/-
  Ratio: strconv.Itoa, strconv.Atoi and internal/stringslite.Index at one byte by the library's contracts (printed by the kit's lay-shelf and lay-plain).
-/
namespace Go.Proofs
open Go.Shelf
def Tryd.laysM171_ren : Go.Shelf.Ren := ⟨fun | 171 => 39 | 243 => 59 | 246 => 67 | 283 => 76 | 284 => 77 | 285 => 78 | 286 => 79 | 129 => 88 | 317 => 87 | 318 => 89 | 319 => 90 | 320 => 91 | 337 => 96 | 338 => 97 | n => n, fun | 3 => 3 | 9 => 9 | 2 => 2 | 4 => 4 | 171 => 95 | 0 => 0 | 53 => 63 | 37 => 83 | 5 => 5 | 173 => 98 | 212 => 120 | 51 => 121 | 20 => 20 | 213 => 122 | 46 => 102 | 232 => 133 | 233 => 134 | n => n, fun | 17 => 4 | 18 => 5 | 19 => 6 | n => n⟩
theorem Tryd.laysM171 : Go.Proofs.LaysM.n171 Tryd.prog Tryd.laysM171_ren := {
  mixed := by kernel_rfl
  f129 := Tryd.func88.trans (congrArg some (by kernel_rfl))
  f171 := Tryd.func39.trans (congrArg some (by kernel_rfl))
  f243 := Tryd.func59.trans (congrArg some (by kernel_rfl))
  f246 := Tryd.func67.trans (congrArg some (by kernel_rfl))
  f283 := Tryd.func76.trans (congrArg some (by kernel_rfl))
  f284 := Tryd.func77.trans (congrArg some (by kernel_rfl))
  f285 := Tryd.func78.trans (congrArg some (by kernel_rfl))
  f286 := Tryd.func79.trans (congrArg some (by kernel_rfl))
  f317 := Tryd.func87.trans (congrArg some (by kernel_rfl))
  f318 := Tryd.func89.trans (congrArg some (by kernel_rfl))
  f319 := Tryd.func90.trans (congrArg some (by kernel_rfl))
  f320 := Tryd.func91.trans (congrArg some (by kernel_rfl))
  f337 := Tryd.func96.trans (congrArg some (by kernel_rfl))
  f338 := Tryd.func97.trans (congrArg some (by kernel_rfl))
  t0 := Tryd.underlying0
  a0 := Tryd.isAgg0
  z0 := Tryd.sizeOf0
  v0 := Tryd.zeroValue0
  t2 := Tryd.underlying2
  a2 := Tryd.isAgg2
  z2 := Tryd.sizeOf2
  v2 := Tryd.zeroValue2
  t3 := Tryd.underlying3
  a3 := Tryd.isAgg3
  z3 := Tryd.sizeOf3
  v3 := Tryd.zeroValue3
  t4 := Tryd.underlying4
  a4 := Tryd.isAgg4
  z4 := Tryd.sizeOf4
  v4 := Tryd.zeroValue4
  t5 := Tryd.underlying5
  a5 := Tryd.isAgg5
  z5 := Tryd.sizeOf5
  v5 := Tryd.zeroValue5
  t9 := Tryd.underlying9
  a9 := Tryd.isAgg9
  z9 := Tryd.sizeOf9
  v9 := Tryd.zeroValue9
  t20 := Tryd.underlying20
  a20 := Tryd.isAgg20
  z20 := Tryd.sizeOf20
  v20 := Tryd.zeroValue20
  t37 := Tryd.underlying83
  a37 := Tryd.isAgg83
  z37 := Tryd.sizeOf83
  v37 := Tryd.zeroValue83
  t46 := Tryd.underlying102
  a46 := Tryd.isAgg102
  z46 := Tryd.sizeOf102
  v46 := Tryd.zeroValue102
  t51 := Tryd.underlying121
  a51 := Tryd.isAgg121
  z51 := Tryd.sizeOf121
  v51 := Tryd.zeroValue121
  t53 := Tryd.underlying63
  a53 := Tryd.isAgg63
  z53 := Tryd.sizeOf63
  v53 := Tryd.zeroValue63
  t171 := Tryd.underlying95
  a171 := Tryd.isAgg95
  z171 := Tryd.sizeOf95
  v171 := Tryd.zeroValue95
  t173 := Tryd.underlying98
  a173 := Tryd.isAgg98
  z173 := Tryd.sizeOf98
  v173 := Tryd.zeroValue98
  t212 := Tryd.underlying120
  a212 := Tryd.isAgg120
  z212 := Tryd.sizeOf120
  v212 := Tryd.zeroValue120
  t213 := Tryd.underlying122
  a213 := Tryd.isAgg122
  z213 := Tryd.sizeOf122
  t232 := Tryd.underlying133
  a232 := Tryd.isAgg133
  z232 := Tryd.sizeOf133
  v232 := Tryd.zeroValue133
  t233 := Tryd.underlying134
  a233 := Tryd.isAgg134
  z233 := Tryd.sizeOf134
  v233 := Tryd.zeroValue134
  g17 := by kernel_rfl
  g18 := by kernel_rfl
  g19 := by kernel_rfl
  i0 := by kernel_rfl
  i2 := by kernel_rfl
  i3 := by kernel_rfl
  i4 := by kernel_rfl
  i5 := by kernel_rfl
  i9 := by kernel_rfl
  i20 := by kernel_rfl
  i37 := by kernel_rfl
  i46 := by kernel_rfl
  i51 := by kernel_rfl
  i53 := by kernel_rfl
  i171 := by kernel_rfl
  i173 := by kernel_rfl
  i212 := by kernel_rfl
  i232 := by kernel_rfl
  i233 := by kernel_rfl
  m17 := by kernel_rfl
  m18 := by kernel_rfl
  m19 := by kernel_rfl }
open Go.RowKit Go.Sort Go.Lib in
/-- strconv.Itoa: "Itoa is equivalent to FormatInt(int64(i), 10).": i's DECIMAL NUMERAL ('Lib.itoa': a '-' where i is negative, then the digits), FOR EVERY int. The world behind the call: the world before it, new blocks behind the heap (the library's 'var a [24]byte'), draws. (LAID: no walk: one application.) -/
theorem Tryd.strconv_Itoa (n : Int) (h0 : -9223372036854775808 ≤ n) (h1 : n ≤ 9223372036854775807) (w : World) (htab : Lib.TabIs Tryd.prog w "internal/strconv.uint64pow10" .u64 Lib.pow10Tab) :
    Calls Tryd.prog 39 #[.int .i64 n] w fun e w' => e = .returned (.string ⟨(Lib.itoa n).toArray⟩) ∧ ∃ k os, w' = grow (w.drewN k) os := Any.strconv_Itoa Tryd.laysM171 n h0 h1 w htab
def Tryd.laysC172_ren : Go.Shelf.Ren := ⟨fun | 172 => 42 | 244 => 62 | 245 => 63 | 247 => 69 | 279 => 70 | 280 => 71 | 281 => 72 | 282 => 73 | 287 => 84 | 316 => 85 | 171 => 39 | 205 => 86 | 321 => 94 | 322 => 95 | 243 => 59 | 246 => 67 | 283 => 76 | 284 => 77 | 285 => 78 | 286 => 79 | 129 => 88 | 317 => 87 | 318 => 89 | 319 => 90 | 320 => 91 | 337 => 96 | 338 => 97 | n => n, fun | 9 => 9 | 3 => 3 | 75 => 58 | 76 => 59 | 4 => 4 | 5 => 5 | 167 => 85 | 37 => 83 | 0 => 0 | 85 => 86 | 2 => 2 | 168 => 88 | 53 => 63 | 175 => 103 | 46 => 102 | 210 => 107 | 127 => 128 | 145 => 131 | 143 => 129 | 21 => 21 | 171 => 95 | 173 => 98 | 212 => 120 | 51 => 121 | 20 => 20 | 213 => 122 | 232 => 133 | 233 => 134 | 80 => 135 | n => n, fun | 15 => 2 | 16 => 3 | 17 => 4 | 18 => 5 | 19 => 6 | n => n⟩
theorem Tryd.laysC172 : Go.Proofs.LaysC.n172 Tryd.prog Tryd.laysC172_ren := {
  mixed := by kernel_rfl
  f129 := Tryd.func88.trans (congrArg some (by kernel_rfl))
  f171 := Tryd.func39.trans (congrArg some (by kernel_rfl))
  f172 := Tryd.func42.trans (congrArg some (by kernel_rfl))
  f205 := Tryd.func86.trans (congrArg some (by kernel_rfl))
  f243 := Tryd.func59.trans (congrArg some (by kernel_rfl))
  f244 := Tryd.func62.trans (congrArg some (by kernel_rfl))
  f245 := Tryd.func63.trans (congrArg some (by kernel_rfl))
  f246 := Tryd.func67.trans (congrArg some (by kernel_rfl))
  f247 := Tryd.func69.trans (congrArg some (by kernel_rfl))
  f279 := Tryd.func70.trans (congrArg some (by kernel_rfl))
  f280 := Tryd.func71.trans (congrArg some (by kernel_rfl))
  f281 := Tryd.func72.trans (congrArg some (by kernel_rfl))
  f282 := Tryd.func73.trans (congrArg some (by kernel_rfl))
  f283 := Tryd.func76.trans (congrArg some (by kernel_rfl))
  f284 := Tryd.func77.trans (congrArg some (by kernel_rfl))
  f285 := Tryd.func78.trans (congrArg some (by kernel_rfl))
  f286 := Tryd.func79.trans (congrArg some (by kernel_rfl))
  f287 := Tryd.func84.trans (congrArg some (by kernel_rfl))
  f316 := Tryd.func85.trans (congrArg some (by kernel_rfl))
  f317 := Tryd.func87.trans (congrArg some (by kernel_rfl))
  f318 := Tryd.func89.trans (congrArg some (by kernel_rfl))
  f319 := Tryd.func90.trans (congrArg some (by kernel_rfl))
  f320 := Tryd.func91.trans (congrArg some (by kernel_rfl))
  f321 := Tryd.func94.trans (congrArg some (by kernel_rfl))
  f322 := Tryd.func95.trans (congrArg some (by kernel_rfl))
  f337 := Tryd.func96.trans (congrArg some (by kernel_rfl))
  f338 := Tryd.func97.trans (congrArg some (by kernel_rfl))
  t0 := Tryd.underlying0
  a0 := Tryd.isAgg0
  z0 := Tryd.sizeOf0
  v0 := Tryd.zeroValue0
  t2 := Tryd.underlying2
  a2 := Tryd.isAgg2
  z2 := Tryd.sizeOf2
  v2 := Tryd.zeroValue2
  t3 := Tryd.underlying3
  a3 := Tryd.isAgg3
  z3 := Tryd.sizeOf3
  v3 := Tryd.zeroValue3
  t4 := Tryd.underlying4
  a4 := Tryd.isAgg4
  z4 := Tryd.sizeOf4
  v4 := Tryd.zeroValue4
  t5 := Tryd.underlying5
  a5 := Tryd.isAgg5
  z5 := Tryd.sizeOf5
  v5 := Tryd.zeroValue5
  t9 := Tryd.underlying9
  a9 := Tryd.isAgg9
  z9 := Tryd.sizeOf9
  v9 := Tryd.zeroValue9
  t20 := Tryd.underlying20
  a20 := Tryd.isAgg20
  z20 := Tryd.sizeOf20
  v20 := Tryd.zeroValue20
  t21 := Tryd.underlying21
  a21 := Tryd.isAgg21
  z21 := Tryd.sizeOf21
  v21 := Tryd.zeroValue21
  t37 := Tryd.underlying83
  a37 := Tryd.isAgg83
  z37 := Tryd.sizeOf83
  v37 := Tryd.zeroValue83
  t46 := Tryd.underlying102
  a46 := Tryd.isAgg102
  z46 := Tryd.sizeOf102
  v46 := Tryd.zeroValue102
  t51 := Tryd.underlying121
  a51 := Tryd.isAgg121
  z51 := Tryd.sizeOf121
  v51 := Tryd.zeroValue121
  t53 := Tryd.underlying63
  a53 := Tryd.isAgg63
  z53 := Tryd.sizeOf63
  v53 := Tryd.zeroValue63
  t75 := Tryd.underlying58
  a75 := Tryd.isAgg58
  z75 := Tryd.sizeOf58
  v75 := Tryd.zeroValue58
  t76 := Tryd.underlying59
  a76 := Tryd.isAgg59
  z76 := Tryd.sizeOf59
  v76 := Tryd.zeroValue59
  t85 := Tryd.underlying86
  a85 := Tryd.isAgg86
  z85 := Tryd.sizeOf86
  v85 := Tryd.zeroValue86
  t127 := Tryd.underlying128
  a127 := Tryd.isAgg128
  z127 := Tryd.sizeOf128
  v127 := Tryd.zeroValue128
  t143 := Tryd.underlying129
  a143 := Tryd.isAgg129
  z143 := Tryd.sizeOf129
  v143 := Tryd.zeroValue129
  t145 := Tryd.underlying131
  a145 := Tryd.isAgg131
  z145 := Tryd.sizeOf131
  v145 := Tryd.zeroValue131
  t167 := Tryd.underlying85
  a167 := Tryd.isAgg85
  z167 := Tryd.sizeOf85
  v167 := Tryd.zeroValue85
  t168 := Tryd.underlying88
  a168 := Tryd.isAgg88
  z168 := Tryd.sizeOf88
  v168 := Tryd.zeroValue88
  t171 := Tryd.underlying95
  a171 := Tryd.isAgg95
  z171 := Tryd.sizeOf95
  v171 := Tryd.zeroValue95
  t173 := Tryd.underlying98
  a173 := Tryd.isAgg98
  z173 := Tryd.sizeOf98
  v173 := Tryd.zeroValue98
  t175 := Tryd.underlying103
  a175 := Tryd.isAgg103
  z175 := Tryd.sizeOf103
  v175 := Tryd.zeroValue103
  t210 := Tryd.underlying107
  a210 := Tryd.isAgg107
  z210 := Tryd.sizeOf107
  v210 := Tryd.zeroValue107
  t212 := Tryd.underlying120
  a212 := Tryd.isAgg120
  z212 := Tryd.sizeOf120
  v212 := Tryd.zeroValue120
  t213 := Tryd.underlying122
  a213 := Tryd.isAgg122
  z213 := Tryd.sizeOf122
  t232 := Tryd.underlying133
  a232 := Tryd.isAgg133
  z232 := Tryd.sizeOf133
  v232 := Tryd.zeroValue133
  t233 := Tryd.underlying134
  a233 := Tryd.isAgg134
  z233 := Tryd.sizeOf134
  v233 := Tryd.zeroValue134
  g15 := by kernel_rfl
  g16 := by kernel_rfl
  g17 := by kernel_rfl
  g18 := by kernel_rfl
  g19 := by kernel_rfl
  t80 := Tryd.underlying135
  a80 := Tryd.isAgg135
  z80 := Tryd.sizeOf135
  v80 := Tryd.zeroValue135
  i0 := by kernel_rfl
  i2 := by kernel_rfl
  i3 := by kernel_rfl
  i4 := by kernel_rfl
  i5 := by kernel_rfl
  i9 := by kernel_rfl
  i20 := by kernel_rfl
  i21 := by kernel_rfl
  i37 := by kernel_rfl
  i46 := by kernel_rfl
  i51 := by kernel_rfl
  i53 := by kernel_rfl
  i75 := by kernel_rfl
  i76 := by kernel_rfl
  i80 := by kernel_rfl
  i85 := by kernel_rfl
  i127 := by kernel_rfl
  i143 := by kernel_rfl
  i145 := by kernel_rfl
  i167 := by kernel_rfl
  i168 := by kernel_rfl
  i171 := by kernel_rfl
  i173 := by kernel_rfl
  i175 := by kernel_rfl
  i210 := by kernel_rfl
  i212 := by kernel_rfl
  i232 := by kernel_rfl
  i233 := by kernel_rfl
  m15 := by kernel_rfl
  m16 := by kernel_rfl
  m17 := by kernel_rfl
  m18 := by kernel_rfl
  m19 := by kernel_rfl
  c0 := by kernel_rfl
  c2 := by kernel_rfl
  c3 := by kernel_rfl
  c4 := by kernel_rfl
  c5 := by kernel_rfl
  c9 := by kernel_rfl
  c20 := by kernel_rfl
  c21 := by kernel_rfl
  c37 := by kernel_rfl
  c46 := by kernel_rfl
  c51 := by kernel_rfl
  c53 := by kernel_rfl
  c75 := by kernel_rfl
  c76 := by kernel_rfl
  c80 := by kernel_rfl
  c85 := by kernel_rfl
  c127 := by kernel_rfl
  c143 := by kernel_rfl
  c145 := by kernel_rfl
  c167 := by kernel_rfl
  c168 := by kernel_rfl
  c171 := by kernel_rfl
  c173 := by kernel_rfl
  c175 := by kernel_rfl
  c210 := by kernel_rfl
  c212 := by kernel_rfl
  c213 := by kernel_rfl
  c232 := by kernel_rfl
  c233 := by kernel_rfl }
open Go.RowKit in
/-- strconv.Atoi, AT EVERY STRING THAT SPELLS AN int ('Lib.atoiAll .. = .ok v'; of whatever length: leading zeros count): v, AND NO ERROR. The world: as it was, or with the one new row that '[]byte(..)' lays. (LAID: no walk: one application.) -/
theorem Tryd.strconv_Atoi_ok (s : ByteArray) (hmax : s.size ≤ 9223372036854775806) (v : Int) (h : Lib.atoiAll s.data.toList = .ok v) (w : World) :
    Calls Tryd.prog 42 #[.string s] w fun e w' => e = .returned (.tuple #[.int .i64 v, .nilIface]) ∧ (w' = w ∨ ∃ t, w' = Lib.bytesWorld w 5 t) := Any.strconv_Atoi_ok Tryd.laysC172 s hmax v h w
open Go.RowKit in
/-- strconv.Atoi, AT EVERY STRING THAT IS NO DECIMAL NUMERAL ('.syntax'): 0, AND AN ERROR THAT IS NOT nil: a *NumError in a new block N: {Func: "Atoi", Num: s's bytes, Err: what the variable ErrSyntax holds}. Of what was there nothing has turned. (LAID: no walk: one application.) -/
theorem Tryd.strconv_Atoi_syntax (s : ByteArray) (hlim : s.size ≤ 281474976710656) (h : Lib.atoiAll s.data.toList = Lib.NumEnd.syntax) (ev : Value) (w : World) (hv : w.cell? ⟨2, 0, none⟩ = some ev) (hev : ev = .nilIface ∨ ∃ te pe, ev = .iface te pe) :
    Calls Tryd.prog 42 #[.string s] w fun e w' => ∃ N, e = .returned (.tuple #[.int .i64 (0), .iface 88 (.pointer (some ⟨N, 0, none⟩))]) ∧ w.heap.size ≤ N ∧ w'.heap[N]? = some (.cells #[.string ⟨#[65, 116, 111, 105]⟩, .string s, ev] 107 (0, 0)) ∧ Below w.heap.size w w' := Any.strconv_Atoi_syntax Tryd.laysC172 s hlim h ev w hv hev
open Go.RowKit in
/-- strconv.Atoi, AT EVERY NUMERAL THAT NO int HOLDS ('.range'): THE GREATEST OR THE LEAST int, BY THE SIGN ('Lib.atoiSat'), AND AN ERROR THAT IS NOT nil: a *NumError in a new block N: {Func: "Atoi", Num: s's bytes, Err: what the variable ErrRange holds}. Of what was there nothing has turned. (LAID: no walk: one application.) -/
theorem Tryd.strconv_Atoi_range (s : ByteArray) (hlim : s.size ≤ 281474976710656) (h : Lib.atoiAll s.data.toList = .range) (ev : Value) (w : World) (hv : w.cell? ⟨3, 0, none⟩ = some ev) (hev : ev = .nilIface ∨ ∃ te pe, ev = .iface te pe) :
    Calls Tryd.prog 42 #[.string s] w fun e w' => ∃ N, e = .returned (.tuple #[.int .i64 (Lib.atoiSat s.data.toList), .iface 88 (.pointer (some ⟨N, 0, none⟩))]) ∧ w.heap.size ≤ N ∧ w'.heap[N]? = some (.cells #[.string ⟨#[65, 116, 111, 105]⟩, .string s, ev] 107 (0, 0)) ∧ Below w.heap.size w w' := Any.strconv_Atoi_range Tryd.laysC172 s hlim h ev w hv hev
def Tryd.lays219_ren : Go.Shelf.Ren := ⟨fun | 219 => 68 | 217 => 80 | 225 => 81 | 224 => 82 | 267 => 83 | 266 => 92 | 314 => 93 | n => n, fun | 9 => 9 | 3 => 3 | 4 => 4 | 5 => 5 | 46 => 102 | 146 => 124 | 51 => 121 | n => n, fun | 1 => 1 | n => n⟩
theorem Tryd.lays219 : Go.Proofs.Lays.n219 Tryd.prog Tryd.lays219_ren := {
  mixed := by kernel_rfl
  f217 := Tryd.func80.trans (congrArg some (by kernel_rfl))
  f219 := Tryd.func68.trans (congrArg some (by kernel_rfl))
  f224 := Tryd.func82.trans (congrArg some (by kernel_rfl))
  f225 := Tryd.func81.trans (congrArg some (by kernel_rfl))
  f266 := Tryd.func92.trans (congrArg some (by kernel_rfl))
  f267 := Tryd.func83.trans (congrArg some (by kernel_rfl))
  f314 := Tryd.func93.trans (congrArg some (by kernel_rfl))
  t3 := Tryd.underlying3
  a3 := Tryd.isAgg3
  z3 := Tryd.sizeOf3
  v3 := Tryd.zeroValue3
  t4 := Tryd.underlying4
  a4 := Tryd.isAgg4
  z4 := Tryd.sizeOf4
  v4 := Tryd.zeroValue4
  t5 := Tryd.underlying5
  a5 := Tryd.isAgg5
  z5 := Tryd.sizeOf5
  v5 := Tryd.zeroValue5
  t9 := Tryd.underlying9
  a9 := Tryd.isAgg9
  z9 := Tryd.sizeOf9
  v9 := Tryd.zeroValue9
  t46 := Tryd.underlying102
  a46 := Tryd.isAgg102
  z46 := Tryd.sizeOf102
  v46 := Tryd.zeroValue102
  t51 := Tryd.underlying121
  a51 := Tryd.isAgg121
  z51 := Tryd.sizeOf121
  v51 := Tryd.zeroValue121
  t146 := Tryd.underlying124
  a146 := Tryd.isAgg124
  z146 := Tryd.sizeOf124
  v146 := Tryd.zeroValue124
  g1 := by kernel_rfl }
open Go.RowKit Go.Lib in
/-- internal/stringslite.Index (what strings.Index calls) AT A substr OF ONE BYTE c: IT RETURNS 'Lib.indexByte s c'; the world is as it was. (LAID: no walk: one application.) -/
theorem Tryd.stringslite_Index_one (s : ByteArray) (c : UInt8) (w : World) :
    Calls Tryd.prog 68 #[.string s, .string ⟨#[c]⟩] w fun e w' => e = .returned (.int .i64 (Lib.indexByte s.data.toList c)) ∧ w' = w := Any.stringslite_Index_one Tryd.lays219 s c w
end Go.Proofs
/-
  Ratio, plain: the text of a fraction, and what is parsed.
-/
namespace Go.Proofs.YtfplfkcgjdkdaaaDoor
namespace Rat0
open Go
/-- the text of a fraction -/
def text (a : Q) : List UInt8 := Lib.itoa a.n ++ (if 1 < a.d then 47 :: Lib.itoa a.d else [])
def parseN (s : List UInt8) : Option (Int × Int) :=
  match Lib.atoiAll (Lib.cut s [47]).1, Lib.atoiAll (if (Lib.cut s [47]).2.2 then (Lib.cut s [47]).2.1 else [49]) with
  | .ok n, .ok d => some (n, d)
  | _, _ => none
def parseQ (s : List UInt8) : Option Q := (parseN s).bind fun x => if Ok ⟨x.1, x.2⟩ ∧ text ⟨x.1, x.2⟩ = s then some ⟨x.1, x.2⟩ else none
def DigL (l : List UInt8) : Prop := ∀ b ∈ l, 48 ≤ b.toNat ∧ b.toNat ≤ 57
theorem dig_toNat {k : Nat} (h : k < 10) : (UInt8.ofNat (48 + k)).toNat = 48 + k := by
  simp only [UInt8.toNat_ofNat']; omega
theorem dec_dig (u : Nat) : DigL (Lib.decDigits u) ∧ Lib.decDigits u ≠ [] := by
  induction u using Nat.strongRecOn with
  | ind u ih =>
    rw [Lib.decDigits]
    split
    · rename_i h
      refine ⟨fun b hb => ?_, by simp⟩
      rw [List.mem_singleton] at hb
      rw [hb, dig_toNat h]; omega
    · rename_i h
      refine ⟨fun b hb => ?_, by simp⟩
      rcases List.mem_append.1 hb with hb | hb
      · exact (ih (u / 10) (by omega)).1 b hb
      · rw [List.mem_singleton] at hb
        rw [hb, dig_toNat (Nat.mod_lt _ (by omega))]; omega
theorem parse_append (l r : List UInt8) : ∀ acc, Lib.parseUint10 acc (l ++ r) = match Lib.parseUint10 acc l with
    | .ok v => Lib.parseUint10 v r
    | Lib.NumEnd.syntax => Lib.NumEnd.syntax
    | .range => .range := by
  induction l with
  | nil => intro acc; rfl
  | cons c l ih =>
    intro acc
    simp only [List.cons_append, Lib.parseUint10]
    split
    · split
      · rfl
      · split
        · rfl
        · exact ih _
    · rfl
theorem parse_dec (u : Nat) : u ≤ 1000000000000 → Lib.parseUint10 0 (Lib.decDigits u) = .ok u := by
  induction u using Nat.strongRecOn with
  | ind u ih =>
    intro hu
    rw [Lib.decDigits]
    split
    · rename_i h
      simp only [Lib.parseUint10, dig_toNat h]
      rw [if_pos (by omega), if_neg (by omega), if_neg (by omega)]
      congr 1; omega
    · rename_i h
      rw [parse_append, ih (u / 10) (by omega) (by omega)]
      have hm : u % 10 < 10 := Nat.mod_lt _ (by omega)
      simp only [Lib.parseUint10, dig_toNat hm]
      rw [if_pos (by omega), if_neg (by omega), if_neg (by omega)]
      congr 1; omega
theorem itoa_no (n : Int) : ∀ b ∈ Lib.itoa n, b ≠ 47 := by
  intro b hb
  unfold Lib.itoa at hb
  split at hb
  · rcases List.mem_cons.1 hb with h | h
    · rw [h]; decide
    · have := (dec_dig _).1 b h
      intro e; rw [e] at this; revert this; decide
  · have := (dec_dig _).1 b hb
    intro e; rw [e] at this; revert this; decide
theorem atoi_itoa {n : Int} (h : -lim ≤ n ∧ n ≤ lim) : Lib.atoiAll (Lib.itoa n) = .ok n := by
  unfold lim at h
  unfold Lib.itoa
  split
  · rename_i hn
    unfold Lib.atoiAll
    have e : (45 : UInt8).toNat = 45 := rfl
    have hne := (dec_dig n.natAbs).2
    simp only [e]
    rw [if_pos (Or.inr trivial)]
    unfold Lib.parseMag
    rw [if_neg hne, parse_dec _ (by omega)]
    simp only [not_true, false_and, if_false, true_and, if_true]
    rw [if_neg (by omega)]
    congr 1; omega
  · rename_i hn
    obtain ⟨hd, hne⟩ := dec_dig n.toNat
    have hp := parse_dec n.toNat (by omega)
    cases hl : Lib.decDigits n.toNat with
    | nil => exact absurd hl hne
    | cons c r =>
      rw [hl] at hd hp
      have hc := hd c (by simp)
      unfold Lib.atoiAll
      simp only
      rw [if_neg (by omega)]
      unfold Lib.parseMag
      rw [if_neg (by simp), hp]
      simp
      rw [if_neg (by omega), if_neg (by omega)]
      rw [if_neg (by omega)]
      congr 1; omega
theorem index_no {l : List UInt8} {c : UInt8} (h : ∀ b ∈ l, b ≠ c) : Lib.indexByte l c = -1 := by
  induction l with
  | nil => rfl
  | cons b l ih =>
    have hb : (b == c) = false := beq_false_of_ne (h b (by simp))
    have hi := ih (fun x hx => h x (by simp [hx]))
    simp [Lib.indexByte, hb, hi]
theorem index_at {l r : List UInt8} {c : UInt8} (h : ∀ b ∈ l, b ≠ c) : Lib.indexByte (l ++ c :: r) c = l.length := by
  induction l with
  | nil => simp [Lib.indexByte]
  | cons b l ih =>
    have hb : (b == c) = false := beq_false_of_ne (h b (by simp))
    have hi := ih (fun x hx => h x (by simp [hx]))
    have hz : (((l.length : Nat) : Int) == -1) = false := by rw [beq_eq_false_iff_ne]; omega
    simp [Lib.indexByte, hb, hi, hz]
theorem cut_no {l : List UInt8} (h : ∀ b ∈ l, b ≠ 47) : Lib.cut l [47] = (l, [], false) := by
  unfold Lib.cut
  rw [Lib.index_one, index_no h, if_neg (by omega)]
theorem cut_at {l r : List UInt8} (h : ∀ b ∈ l, b ≠ 47) : Lib.cut (l ++ 47 :: r) [47] = (l, r, true) := by
  unfold Lib.cut
  rw [Lib.index_one, index_at h, if_pos (by omega)]
  have e1 : (l ++ 47 :: r).take ((l.length : Nat) : Int).toNat = l := by simp
  have e2 : (l ++ 47 :: r).drop (((l.length : Nat) : Int).toNat + [(47 : UInt8)].length) = r := by simp
  rw [e1, e2]
theorem atoi_one : Lib.atoiAll [49] = .ok 1 := by decide +kernel
theorem parse_text {a : Q} (h : Ok a) : parseQ (text a) = some a := by
  obtain ⟨h1, h2, h3, h4, h5⟩ := h
  have hn := atoi_itoa ⟨h3, h4⟩
  have hN : parseN (text a) = some (a.n, a.d) := by
    unfold parseN text
    by_cases hd : 1 < a.d
    · have hdd := atoi_itoa (n := a.d) ⟨by unfold lim; omega, h2⟩
      rw [if_pos hd, cut_at (itoa_no a.n)]
      simp only [hn, hdd, if_true]
    · rw [if_neg hd, List.append_nil, cut_no (itoa_no a.n)]
      have : a.d = 1 := by omega
      simp [hn, atoi_one, this]
  unfold parseQ
  rw [hN, Option.bind_some, if_pos ⟨⟨h1, h2, h3, h4, h5⟩, rfl⟩]
theorem parse_some {s : List UInt8} {a : Q} (h : parseQ s = some a) : Ok a ∧ text a = s := by
  unfold parseQ at h
  rw [Option.bind_eq_some_iff] at h
  obtain ⟨x, _, h⟩ := h
  split at h
  · rename_i k
    injection h with h
    subst h
    exact k
  · cases h
theorem parse_iff {s : List UInt8} {a : Q} : parseQ s = some a ↔ Ok a ∧ text a = s :=
  ⟨parse_some, fun ⟨h, e⟩ => by rw [← e]; exact parse_text h⟩
end Rat0
end Go.Proofs.YtfplfkcgjdkdaaaDoor
/-
  Ratio: the library's functions (39, 42, 68, 61, 41, 43).
-/
namespace Go.Proofs.YtfplfkcgjdkdaaaDoor
namespace Rat0
open Go
open Go.RowKit

/-! ### the variables, as the library's contracts want them -/
theorem errvar {g : Nat} {l : List UInt8} (hg : GR g = some (errA l)) {w : World} {OK : Nat → Prop} (hG : GRel GR w OK) : ∃ v, w.cell? ⟨g, 0, none⟩ = some (.iface 129 v) := by
  obtain ⟨b, o, T, c, fz, vals, hb, _, hh, _, hv, hc⟩ := (hG g _ hg).1.inv_fp
  have hv0 := hv 0 (by simp [errA])
  have hc0 := (hc 0 (by simp [errA])).1
  injection hb with hb; injection hb with hb; injection hb with hb ho
  subst hb; subst ho
  generalize vals 0 = v0 at hv0 hc0
  cases hv0 with
  | iface _ t v a hv1 => exact ⟨_, by simp only [World.cell?, hh]; exact hc0⟩
theorem pow10_tab {w : World} {OK : Nat → Prop} (hG : GRel GR w OK) : Lib.TabIs Tryd.prog w "internal/strconv.uint64pow10" .u64 Lib.pow10Tab := by
  obtain ⟨hv, c, T, fz, hh, hs⟩ := hG 4 pow10A rfl
  obtain ⟨b, o, T', c', fz', vals, hb, _, hh', _, hv, hc⟩ := hv.inv_fp
  injection hb with hb; injection hb with hb; injection hb with hb ho
  subst hb; subst ho
  rw [hh] at hh'
  injection hh' with hh'; injection hh' with h1 h2 h3
  subst h1
  have hl : pow10A.length = Lib.pow10Tab.length := by simp [pow10A]
  unfold Lib.TabIs World.var?
  rw [show Tryd.prog.globalNamed "internal/strconv.uint64pow10" = some 4 by kernel_rfl, Option.bind_some, hh]
  simp only [Option.some.injEq]
  apply Array.ext
  · rw [hs, hl]; simp
  · intro i h1 h2
    have hi : i < pow10A.length := by omega
    have e1 := (hc i hi).1
    have e2 := hv i hi
    have hi' : i < Lib.pow10Tab.length := by omega
    rw [show pow10A[i] = .int .u64 Lib.pow10Tab[i] by simp [pow10A]] at e2
    rw [e2.inv_int, Nat.zero_add] at e1
    simp only [List.getElem_toArray, List.getElem_map]
    rw [Array.getElem?_eq_getElem h1] at e1
    exact Option.some.inj e1

theorem str_of {w : World} {OK : Nat → Prop} {g : Ghost} (l : List UInt8) : VRel w OK g (.string ⟨l.toArray⟩) (.str l) := .str _ _ _ rfl
theorem size_of {s : ByteArray} {l : List UInt8} (h : s.data.toList = l) : s.size = l.length := by rw [← h]; rfl

/-! ### Itoa -/
open Classical in
noncomputable def M39 : PModel := fun args => match args with
  | [.int .i64 n] => if inI n then some (.str (Lib.itoa n)) else none
  | _ => none
theorem spec39 : PureSpec Tryd.prog GR 39 M39 := by
  refine ⟨fun args w => enters_of Tryd.func39 (by kernel_rfl) rfl args w, fun args r h w OK vs hok hG hl => ?_⟩
  unfold M39 at h
  split at h
  rotate_left
  · cases h
  rename_i n
  simp only [Option.ite_none_right_eq_some, Option.some.injEq] at h
  obtain ⟨hn, rfl⟩ := h
  match vs, hl with
  | [v], ⟨hv, _⟩ =>
  obtain rfl := hv.inv_int
  refine (Tryd.strconv_Itoa n hn.1 hn.2 w (pow10_tab hG)).mono ?_
  rintro e w' ⟨rfl, k, os, rfl⟩
  have hb : Below w.heap.size w (Sort.grow (w.drewN k) os) := ⟨rfl, rfl, rfl, by simp [Sort.grow, World.drewN], fun b hb => by
    show (w.heap ++ os)[b]? = w.heap[b]?
    rw [Array.getElem?_append, if_pos hb]⟩
  exact ⟨_, OK, rfl, str_of _, fun b hb' => Nat.lt_of_lt_of_le (hok b hb') hb.size, below_ext hok hb⟩
theorem M39_eq {n : Int} (h : inI n) : M39 [.int .i64 n] = some (.str (Lib.itoa n)) := if_pos h

/-! ### Atoi -/
def atoiA (s : List UInt8) : AV := match Lib.atoiAll s with
  | .ok v => .tup [.int .i64 v, .nilI]
  | Lib.NumEnd.syntax => .tup [.int .i64 0, .iface 88 .undef]
  | .range => .tup [.int .i64 (Lib.atoiSat s), .iface 88 .undef]
def M42 : PModel := fun args => match args with
  | [.str s] => if s.length ≤ 1000 then some (atoiA s) else none
  | _ => none
theorem vrel_pair {w : World} {OK : Nat → Prop} {g : Ghost} {n : Int} {v : Value} {a : AV} (h : VRel w OK g v a) : VRel w OK g (.tuple #[.int .i64 n, v]) (.tup [.int .i64 n, a]) :=
  .tup _ _ _ rfl (fun i => if i = 0 then .int .i64 n else v) (fun i hi => by
    have : i = 0 ∨ i = 1 := by simp at hi; omega
    rcases this with rfl | rfl <;> rfl) (fun i hi => by
    have : i = 0 ∨ i = 1 := by simp at hi; omega
    rcases this with rfl | rfl
    · exact .int _ _ _
    · exact h)
theorem spec42 : PureSpec Tryd.prog GR 42 M42 := by
  refine ⟨fun args w => enters_of Tryd.func42 (by kernel_rfl) rfl args w, fun args r h w OK vs hok hG hl => ?_⟩
  unfold M42 at h
  split at h
  rotate_left
  · cases h
  rename_i l
  simp only [Option.ite_none_right_eq_some, Option.some.injEq] at h
  obtain ⟨hlen, rfl⟩ := h
  match vs, hl with
  | [v], ⟨hv, _⟩ =>
  obtain ⟨s, rfl, hs⟩ := hv.inv_str
  have hsz := size_of hs
  unfold atoiA
  rw [← hs]
  cases ha : Lib.atoiAll s.data.toList with
  | ok n =>
    refine (Tryd.strconv_Atoi_ok s (by omega) n ha w).mono ?_
    rintro e w' ⟨rfl, hw⟩
    have hb : Below w.heap.size w w' := by
      rcases hw with rfl | ⟨t, rfl⟩
      · exact Below.refl _ _
      · exact Lib.bytesWorld_below w 5 t
    exact ⟨_, OK, rfl, vrel_pair (.nilI _), fun b hb' => Nat.lt_of_lt_of_le (hok b hb') hb.size, below_ext hok hb⟩
  | range =>
    obtain ⟨v, hv⟩ := errvar (g := 3) rfl hG
    refine (Tryd.strconv_Atoi_range s (by omega) ha _ w hv (.inr ⟨_, _, rfl⟩)).mono ?_
    rintro e w' ⟨N, rfl, _, _, hb⟩
    exact ⟨_, OK, rfl, vrel_pair (.iface _ _ _ _ (.undef _ _)), fun b hb' => Nat.lt_of_lt_of_le (hok b hb') hb.size, below_ext hok hb⟩
  | _ =>
    obtain ⟨v, hv⟩ := errvar (g := 2) rfl hG
    refine (Tryd.strconv_Atoi_syntax s (by omega) ha _ w hv (.inr ⟨_, _, rfl⟩)).mono ?_
    rintro e w' ⟨N, rfl, _, _, hb⟩
    exact ⟨_, OK, rfl, vrel_pair (.iface _ _ _ _ (.undef _ _)), fun b hb' => Nat.lt_of_lt_of_le (hok b hb') hb.size, below_ext hok hb⟩

/-! ### Cut -/
def M68 : PModel := fun args => match args with
  | [.str s, .str [c]] => some (.int .i64 (Lib.indexByte s c))
  | _ => none
theorem spec68 : PureSpec Tryd.prog GR 68 M68 := by
  refine ⟨fun args w => enters_of Tryd.func68 (by kernel_rfl) rfl args w, fun args r h w OK vs hok hG hl => ?_⟩
  unfold M68 at h
  split at h
  rotate_left
  · cases h
  rename_i l c
  injection h with h; subst h
  match vs, hl with
  | [v1, v2], ⟨h1, h2, _⟩ =>
  obtain ⟨s, rfl, hs⟩ := h1.inv_str
  obtain ⟨t, rfl, ht⟩ := h2.inv_str
  have e : t = ⟨#[c]⟩ := by
    cases t with
    | mk d => simp only at ht; congr 1; apply Array.ext'; simpa using ht
  subst e
  refine (Tryd.stringslite_Index_one s c w).mono ?_
  rintro e w' ⟨rfl, rfl⟩
  rw [← hs]
  exact ⟨_, OK, rfl, .int _ _ _, hok, Ext.refl _ _ _⟩
theorem index_bd (s : List UInt8) (c : UInt8) : Lib.indexByte s c = -1 ∨ ∃ k : Nat, Lib.indexByte s c = k ∧ k < s.length := by
  induction s with
  | nil => exact .inl rfl
  | cons b s ih =>
    unfold Lib.indexByte
    by_cases h : (b == c) = true
    · exact .inr ⟨0, by simp [h], by simp⟩
    · rcases ih with h1 | ⟨k, h1, h2⟩
      · exact .inl (by simp [h, h1])
      · refine .inr ⟨k + 1, ?_, by simpa using h2⟩
        have hz : (((k : Nat) : Int) == -1) = false := by rw [beq_eq_false_iff_ne]; omega
        simp [h, h1, hz]
noncomputable def fs61 : List (FuncId × HModel) := [(68, pureH 4 M68)]
@[simp] theorem fs61_68 : lookM fs61 68 = some (pureH 4 M68) := rfl
noncomputable def M61 : PModel := fun args => evP (envOf GR fs61) 0 mf61 2 args
theorem spec61 : PureSpec Tryd.prog GR 61 M61 := PureSpec.of_ev (E := envOf GR fs61) (envOf_sound (lookM_cons (FnSpecY.of_pure spec68 4) lookM_nil)) rfl at61 comp61 2 fun _ _ h => ⟨0, h⟩
def cutA (s : List UInt8) : AV := .tup [.str (Lib.cut s [47]).1, .str (Lib.cut s [47]).2.1, .bool (Lib.cut s [47]).2.2]
theorem M61_eq {s : List UInt8} (hs : s.length ≤ 1000) : M61 [.str s, .str [47]] = some (cutA s) := by
  have m : M68 [.str s, .str [47]] = some (.int .i64 (Lib.indexByte s 47)) := rfl
  unfold M61 cutA Lib.cut
  rw [evP_run _ _ rfl, Lib.index_one]
  rcases index_bd s 47 with h | ⟨k, h, hk⟩
  · rw [h] at m ⊢
    simp [mf61, m]
  · rw [h] at m ⊢
    have w : IntKind.i64.wrap ((k : Int) + 1) = (k : Int) + 1 := wrapI (by unfold inI; omega)
    rw [if_pos (by omega)]
    have s1 : evSliceStr none (some (.int .i64 (k : Int))) (.str s) = some (.str (s.take k)) := by
      have h0 : (0 : Int) ≤ (k : Int) := by omega
      have h1 : k ≤ s.length := by omega
      simp [evSliceStr, h1]
    have s2 : evSliceStr (some (.int .i64 ((k : Int) + 1))) none (.str s) = some (.str (s.drop (k + 1))) := by
      have h0 : (0 : Int) ≤ (k : Int) + 1 := by omega
      have h1 : k + 1 ≤ s.length := by omega
      simp [evSliceStr, h0, h1, List.take_of_length_le]
    have l : evLenStr (.str [47]) = some (.int .i64 1) := rfl
    simp [mf61, m, w, s1, s2, -evSliceStr]
noncomputable def fs41 : List (FuncId × HModel) := [(61, pureH 4 M61)]
@[simp] theorem fs41_61 : lookM fs41 61 = some (pureH 4 M61) := rfl
noncomputable def M41 : PModel := fun args => evP (envOf GR fs41) 0 mf41 2 args
theorem spec41 : PureSpec Tryd.prog GR 41 M41 := PureSpec.of_ev (E := envOf GR fs41) (envOf_sound (lookM_cons (FnSpecY.of_pure spec61 4) lookM_nil)) rfl at41 comp41 2 fun _ _ h => ⟨0, h⟩
theorem M41_eq {s : List UInt8} (hs : s.length ≤ 1000) : M41 [.str s, .str [47]] = some (cutA s) := by
  have m := M61_eq hs
  unfold cutA at m ⊢
  unfold M41
  rw [evP_run _ _ rfl]
  simp [mf41, m]

/-! ### Join -/
noncomputable def M43 : PModel := fun args => evP (envOf GR []) 10 mf43 4 args
theorem spec43 : PureSpec Tryd.prog GR 43 M43 := PureSpec.of_ev (E := envOf GR []) (envOf_sound lookM_nil) rfl at43 comp43 4 fun _ _ h => ⟨10, h⟩
def errV (b : Bool) : AV := if b then .iface 88 .undef else .nilI
set_option maxRecDepth 100000 in
set_option maxHeartbeats 4000000 in
theorem M43_eq (x y : Bool) : ∃ r, M43 [.fs 1 [errV x, errV y]] = some r ∧ (x = false → y = false → r = .nilI) ∧ (¬ (x = false ∧ y = false) → ∃ v, r = .iface 75 v) := by
  have z1 : IntKind.i64.wrap 1 = 1 := by decide
  have z2 : IntKind.i64.wrap 2 = 2 := by decide
  unfold M43
  rw [evP_run _ _ rfl]
  cases x <;> cases y <;> simp [errV, mf43, lp43x0, lp43x1, run_loopE, iter_succ, z1, z2, evAppendN]
end Rat0
end Go.Proofs.YtfplfkcgjdkdaaaDoor
/-
  Ratio: Print (13), Parse (16).
-/
namespace Go.Proofs.YtfplfkcgjdkdaaaDoor
namespace Rat0
open Go

theorem itoa_len {n : Int} (h : inI n) : (Lib.itoa n).length ≤ 20 := by
  have key : ∀ (k u : Nat), u < 10 ^ (k + 1) → (Lib.decDigits u).length ≤ k + 1 := by
    intro k
    induction k with
    | zero =>
      intro u hu
      rw [Lib.decDigits, dif_pos (by simpa using hu)]
      simp
    | succ k ih =>
      intro u hu
      rw [Lib.decDigits]
      split
      · simp
      · have := ih (u / 10) (by rw [Nat.pow_succ] at hu; omega)
        simp only [List.length_append, List.length_singleton]
        omega
  unfold inI at h
  unfold Lib.itoa
  split
  · have := key 18 n.natAbs (by omega)
    simp only [List.length_cons]
    omega
  · have := key 18 n.toNat (by omega)
    omega
/-- what Print returns -/
def printA (a : Q) : AV := if Ok a then .tup [.str (text a), .int .i64 0] else .tup [.str [], .int .i64 30]
noncomputable def fs13 : List (FuncId × HModel) := [(19, pureH 4 M19), (39, pureH 4 M39)]
@[simp] theorem fs13_19 : lookM fs13 19 = some (pureH 4 M19) := rfl
@[simp] theorem fs13_39 : lookM fs13 39 = some (pureH 4 M39) := rfl
noncomputable def M13 : PModel := fun args => evP (envOf GR fs13) 0 mf13 2 args
theorem spec13 : PureSpec Tryd.prog GR 13 M13 := PureSpec.of_ev (E := envOf GR fs13) (envOf_sound (lookM_cons (FnSpecY.of_pure spec19 4) (lookM_cons (FnSpecY.of_pure spec39 4) lookM_nil))) rfl at13 comp13 2 fun _ _ h => ⟨0, h⟩
theorem M13_eq {a : Q} (ha : InQ a) : M13 [qA a] = some (printA a) := by
  have m := M19_eq ha
  unfold M13
  rw [evP_run _ _ rfl]
  unfold printA
  by_cases h : Ok a
  · simp only [h, decide_true] at m
    rw [if_pos h]
    have m1 := M39_eq ha.1
    have m2 := M39_eq ha.2
    have l1 := itoa_len ha.1
    have l2 := itoa_len ha.2
    unfold text
    obtain ⟨u, hu⟩ : ∃ u, u = Lib.itoa a.n := ⟨_, rfl⟩
    obtain ⟨v, hv⟩ : ∃ u, u = Lib.itoa a.d := ⟨_, rfl⟩
    rw [← hu] at m1 l1 ⊢
    rw [← hv] at m2 l2 ⊢
    have b1 : evBin .gtr (.int .i64 a.d) (.int .i64 1) = some (.bool (decide (1 < a.d))) := by simp [evBin]
    have b2 : evBin .add (.str [47]) (.str v) = some (.str (47 :: v)) := by simp [evBin]; omega
    have b3 : evBin .add (.str u) (.str (47 :: v)) = some (.str (u ++ 47 :: v)) := by simp [evBin]; omega
    unfold qA at m ⊢
    by_cases hd : 1 < a.d
    · simp only [hd, decide_true] at b1
      simp [mf13, m, m1, m2, b1, b2, b3, hd, -evBin]
    · simp only [hd, decide_false] at b1
      simp [mf13, m, m1, b1, hd, -evBin]
  · simp only [h, decide_false] at m
    rw [if_neg h]
    unfold qA at m ⊢
    simp [mf13, m]

/-! ### Parse -/
noncomputable def fs16 : List (FuncId × HModel) := [(41, pureH 4 M41), (42, pureH 4 M42), (43, pureH 4 M43), (13, pureH 4 M13)]
@[simp] theorem fs16_41 : lookM fs16 41 = some (pureH 4 M41) := rfl
@[simp] theorem fs16_42 : lookM fs16 42 = some (pureH 4 M42) := rfl
@[simp] theorem fs16_43 : lookM fs16 43 = some (pureH 4 M43) := rfl
@[simp] theorem fs16_13 : lookM fs16 13 = some (pureH 4 M13) := rfl
theorem sound16 : ∀ f M, lookM fs16 f = some M → FnSpecY Tryd.prog GR f M := lookM_cons (FnSpecY.of_pure spec41 4) (lookM_cons (FnSpecY.of_pure spec42 4) (lookM_cons (FnSpecY.of_pure spec43 4) (lookM_cons (FnSpecY.of_pure spec13 4) lookM_nil)))
noncomputable def M16 : PModel := fun args => evP (envOf GR fs16) 0 mf16 2 args
theorem spec16 : PureSpec Tryd.prog GR 16 M16 := PureSpec.of_ev (E := envOf GR fs16) (envOf_sound sound16) rfl at16 comp16 2 fun _ _ h => ⟨0, h⟩
theorem cut_len (s : List UInt8) : (Lib.cut s [47]).1.length ≤ s.length ∧ (Lib.cut s [47]).2.1.length ≤ s.length := by
  unfold Lib.cut
  split
  · constructor <;> simp <;> omega
  · simp
/-- Atoi: a number, and whether there is an error -/
theorem atoi_form (s : List UInt8) (hs : s.length ≤ 1000) : ∃ (n : Int) (b : Bool), M42 [.str s] = some (.tup [.int .i64 n, errV b]) ∧ inI n ∧ (b = false → Lib.atoiAll s = .ok n) ∧ (b = true → ∀ m, Lib.atoiAll s ≠ .ok m) := by
  have e : M42 [.str s] = some (atoiA s) := if_pos hs
  rw [e]
  unfold atoiA
  cases h : Lib.atoiAll s with
  | ok n =>
    have := Lib.atoiAll_bounds h
    exact ⟨n, false, rfl, ⟨by omega, by omega⟩, fun _ => rfl, fun h => (by cases h)⟩
  | range =>
    have := Lib.atoiSat_bounds s
    exact ⟨Lib.atoiSat s, true, rfl, ⟨by omega, by omega⟩, fun h => (by cases h), fun _ m h => (by cases h)⟩
  | _ => exact ⟨0, true, rfl, (by unfold inI; omega), fun h => (by cases h), fun _ m h => (by cases h)⟩
theorem printA_form (a : Q) : ∃ (t : List UInt8) (e : Int), printA a = .tup [.str t, .int .i64 e] ∧ (Ok a → t = text a ∧ e = 0) ∧ (¬ Ok a → e = 30) := by
  unfold printA
  by_cases h : Ok a
  · exact ⟨text a, 0, if_pos h, fun _ => ⟨rfl, rfl⟩, fun k => absurd h k⟩
  · exact ⟨[], 30, if_neg h, fun k => absurd k h, fun _ => rfl⟩
set_option maxHeartbeats 4000000 in
theorem M16_eq {s : List UInt8} (hs : s.length ≤ 1000) : M16 [.str s] = some (resA (parseQ s)) := by
  have mc := M41_eq hs
  have hl := cut_len s
  unfold cutA at mc
  have hp : parseQ s = (parseN s).bind fun x => if Ok ⟨x.1, x.2⟩ ∧ text ⟨x.1, x.2⟩ = s then some ⟨x.1, x.2⟩ else none := rfl
  unfold parseN at hp
  obtain ⟨u, hu⟩ : ∃ u, u = (Lib.cut s [47]).1 := ⟨_, rfl⟩
  obtain ⟨v, hv⟩ : ∃ u, u = (Lib.cut s [47]).2.1 := ⟨_, rfl⟩
  obtain ⟨b, hb⟩ : ∃ u, u = (Lib.cut s [47]).2.2 := ⟨_, rfl⟩
  rw [← hu, ← hv, ← hb] at mc hp
  rw [← hu, ← hv] at hl
  clear hu hv hb
  obtain ⟨d, hd⟩ : ∃ d, d = if b then v else [49] := ⟨_, rfl⟩
  rw [← hd] at hp
  have hdl : d.length ≤ 1000 := by rw [hd]; cases b <;> simp; omega
  obtain ⟨n, x, m1, in1, o1, e1⟩ := atoi_form u (by omega)
  obtain ⟨z, y, m2, in2, o2, e2⟩ := atoi_form d hdl
  obtain ⟨r, mj, j0, j1⟩ := M43_eq x y
  have mp := M13_eq (a := ⟨n, z⟩) ⟨in1, in2⟩
  obtain ⟨t, e, pf, p1, p0⟩ := printA_form ⟨n, z⟩
  rw [pf] at mp
  unfold qA at mp
  simp only at mp
  have bf : evBuildF 1 [errV x, errV y] = some (.fs 1 [errV x, errV y]) := by cases x <;> cases y <;> simp [evBuildF, errV]
  unfold M16
  rw [evP_run _ _ rfl]
  by_cases hxy : x = false ∧ y = false
  · obtain ⟨rfl, rfl⟩ := hxy
    have q := j0 rfl rfl
    subst q
    rw [o1 rfl, o2 rfl] at hp
    simp only [errV, Bool.false_eq_true, if_false] at bf mj m1 m2
    simp only [Option.bind_some] at hp
    by_cases ho : Ok ⟨n, z⟩
    · obtain ⟨rfl, rfl⟩ := p1 ho
      have bz : evBin .neq (.int .i64 0) (.int .i64 0) = some (.bool false) := by simp [evBin]
      have bt : evBin .neq (.str (text ⟨n, z⟩)) (.str s) = some (.bool (!decide (text ⟨n, z⟩ = s))) := by simp [evBin]; by_cases q : text ⟨n, z⟩ = s <;> simp [q]
      by_cases q : text ⟨n, z⟩ = s
      · rw [if_pos ⟨ho, q⟩] at hp
        rw [hp]
        rw [q] at mp
        have bt : evBin .neq (.str s) (.str s) = some (.bool false) := by simp [evBin]
        cases b <;> simp only [Bool.false_eq_true, if_false, if_true] at hd <;> subst hd <;> simp [mf16, mc, m1, m2, bf, mj, mp, bt, bz, resA, qA, -evBin, -evBuildF]
      · rw [if_neg (fun k => q k.2)] at hp
        rw [hp]
        simp only [q, decide_false, Bool.not_false] at bt
        cases b <;> simp only [Bool.false_eq_true, if_false, if_true] at hd <;> subst hd <;> simp [mf16, mc, m1, m2, bf, mj, mp, bt, bz, resA, qA, -evBin, -evBuildF]
    · have e30 := p0 ho
      subst e30
      rw [if_neg (fun k => ho k.1)] at hp
      rw [hp]
      cases b <;> simp only [Bool.false_eq_true, if_false, if_true] at hd <;> subst hd <;> simp [mf16, mc, m1, m2, bf, mj, mp, resA, qA, -evBuildF]
  · obtain ⟨v', rfl⟩ := j1 hxy
    have hn : parseQ s = none := by
      rw [hp]
      cases x with
      | true =>
        have k := e1 rfl
        cases ha : Lib.atoiAll u with
        | ok m => exact absurd ha (k m)
        | range => rfl
        | _ => rfl
      | false =>
        have hy : y = true := by
          cases y with
          | true => rfl
          | false => exact absurd ⟨rfl, rfl⟩ hxy
        have k := e2 hy
        rw [o1 rfl]
        cases ha : Lib.atoiAll d with
        | ok m => exact absurd ha (k m)
        | range => rfl
        | _ => rfl
    rw [hn]
    clear hp
    cases b <;> simp only [Bool.false_eq_true, if_false, if_true] at hd <;> subst hd <;> simp [mf16, mc, m1, m2, bf, mj, resA, qA, -evBuildF]
end Rat0
end Go.Proofs.YtfplfkcgjdkdaaaDoor
/-
  Ratio: made (23), sane (12).
-/
namespace Go.Proofs.YtfplfkcgjdkdaaaDoor
namespace Rat0
open Go

/-! ### made -/
noncomputable def fs23 : List (FuncId × HModel) := [(18, pureH 4 M18)]
@[simp] theorem fs23_18 : lookM fs23 18 = some (pureH 4 M18) := rfl
noncomputable def M23 : PModel := fun args => evP (envOf GR fs23) 5 mf23 2 args
theorem spec23 : PureSpec Tryd.prog GR 23 M23 := PureSpec.of_ev (E := envOf GR fs23) (envOf_sound (lookM_cons (FnSpecY.of_pure spec18 4) lookM_nil)) rfl at23 comp23 2 fun _ _ h => ⟨5, h⟩
def six (a b c : Q) : AV := .agg [.int .i64 a.n, .int .i64 a.d, .int .i64 b.n, .int .i64 b.d, .int .i64 c.n, .int .i64 c.d]
theorem mk_form {n d : Int} (hn : inI n) (hd : inI d) : (mkQ n d = none ∧ M18 [.int .i64 n, .int .i64 d] = some (.tup [.agg [.int .i64 0, .int .i64 0], .int .i64 30])) ∨ ∃ r, mkQ n d = some r ∧ Ok r ∧ M18 [.int .i64 n, .int .i64 d] = some (.tup [.agg [.int .i64 r.n, .int .i64 r.d], .int .i64 0]) := by
  have m := M18_eq hn hd
  cases h : mkQ n d with
  | none => rw [h] at m; exact .inl ⟨rfl, m⟩
  | some r => rw [h] at m; exact .inr ⟨r, rfl, (mk_ok h).2.1, m⟩
set_option maxRecDepth 100000 in
set_option maxHeartbeats 4000000 in
theorem M23_eq {x y z : Q} (hx : InQ x) (hy : InQ y) (hz : InQ z) : (∃ a b c : Q, M23 [six x y z] = some (.tup [six a b c, .bool false])) ∨ (∃ a b c : Q, Ok a ∧ Ok b ∧ Ok c ∧ mkQ x.n x.d = some a ∧ M23 [six x y z] = some (.tup [six a b c, .bool true])) := by
  have z0 : IntKind.i64.wrap 1 = 1 := by decide
  have z1 : IntKind.i64.wrap 2 = 2 := by decide
  have z2 : IntKind.i64.wrap 3 = 3 := by decide
  rcases mk_form hx.1 hx.2 with ⟨_, m1⟩ | ⟨a, k1, o1, m1⟩
  · refine .inl ⟨⟨0, 0⟩, ⟨0, 0⟩, ⟨0, 0⟩, ?_⟩
    unfold M23
    rw [evP_run _ _ rfl]
    simp [six, mf23, lp23x0, evIndexArr, run_loopE, iter_succ, m1]
  · rcases mk_form hy.1 hy.2 with ⟨_, m2⟩ | ⟨b, _, o2, m2⟩
    · refine .inl ⟨a, ⟨0, 0⟩, ⟨0, 0⟩, ?_⟩
      unfold M23
      rw [evP_run _ _ rfl]
      simp [six, mf23, lp23x0, evIndexArr, run_loopE, iter_succ, z0, m1, m2]
    · rcases mk_form hz.1 hz.2 with ⟨_, m3⟩ | ⟨c, _, o3, m3⟩
      · refine .inl ⟨a, b, ⟨0, 0⟩, ?_⟩
        unfold M23
        rw [evP_run _ _ rfl]
        simp [six, mf23, lp23x0, evIndexArr, run_loopE, iter_succ, z0, z1, m1, m2, m3]
      · refine .inr ⟨a, b, c, o1, o2, o3, k1, ?_⟩
        unfold M23
        rw [evP_run _ _ rfl]
        simp [six, mf23, lp23x0, evIndexArr, run_loopE, iter_succ, z0, z1, z2, m1, m2, m3]

/-! ### sane -/
noncomputable def fsR : List (FuncId × HModel) := [(18, pureH 4 M18), (14, pureH 4 M14), (26, pureH 4 M26), (22, pureH 4 M22), (32, pureH 4 M32), (13, pureH 4 M13), (16, pureH 4 M16), (21, pureH 4 M21), (20, pureH 4 M20), (24, pureH 4 M24), (19, pureH 4 M19), (25, pureH 4 M25), (27, pureH 4 M27), (23, pureH 4 M23)]
@[simp] theorem fsR_18 : lookM fsR 18 = some (pureH 4 M18) := rfl
@[simp] theorem fsR_14 : lookM fsR 14 = some (pureH 4 M14) := rfl
@[simp] theorem fsR_26 : lookM fsR 26 = some (pureH 4 M26) := rfl
@[simp] theorem fsR_22 : lookM fsR 22 = some (pureH 4 M22) := rfl
@[simp] theorem fsR_32 : lookM fsR 32 = some (pureH 4 M32) := rfl
@[simp] theorem fsR_13 : lookM fsR 13 = some (pureH 4 M13) := rfl
@[simp] theorem fsR_16 : lookM fsR 16 = some (pureH 4 M16) := rfl
@[simp] theorem fsR_21 : lookM fsR 21 = some (pureH 4 M21) := rfl
@[simp] theorem fsR_20 : lookM fsR 20 = some (pureH 4 M20) := rfl
@[simp] theorem fsR_24 : lookM fsR 24 = some (pureH 4 M24) := rfl
@[simp] theorem fsR_19 : lookM fsR 19 = some (pureH 4 M19) := rfl
theorem soundR : ∀ f M, lookM fsR f = some M → FnSpecY Tryd.prog GR f M := lookM_cons (FnSpecY.of_pure spec18 4) (lookM_cons (FnSpecY.of_pure spec14 4) (lookM_cons (FnSpecY.of_pure spec26 4) (lookM_cons (FnSpecY.of_pure spec22 4) (lookM_cons (FnSpecY.of_pure spec32 4) (lookM_cons (FnSpecY.of_pure spec13 4) (lookM_cons (FnSpecY.of_pure spec16 4) (lookM_cons (FnSpecY.of_pure spec21 4) (lookM_cons (FnSpecY.of_pure spec20 4) (lookM_cons (FnSpecY.of_pure spec24 4) (lookM_cons (FnSpecY.of_pure spec19 4) (lookM_cons (FnSpecY.of_pure spec25 4) (lookM_cons (FnSpecY.of_pure spec27 4) (lookM_cons (FnSpecY.of_pure spec23 4) lookM_nil)))))))))))))
theorem okm : Ok ⟨-3, 4⟩ := by decide +kernel
theorem text34 : text ⟨-3, 4⟩ = [45, 51, 47, 52] := by simp [text, Lib.itoa, Lib.decDigits]
theorem parse34 : parseQ [45, 51, 47, 52] = some ⟨-3, 4⟩ := parse_iff.2 ⟨okm, text34⟩
theorem parse68 : parseQ [54, 47, 56] = none := by
  have h : parseN [54, 47, 56] = some (6, 8) := by decide +kernel
  unfold parseQ
  rw [h, Option.bind_some, if_neg]
  rintro ⟨k, _⟩
  exact absurd k (by decide +kernel)
noncomputable def M12 : PModel := fun args => match args with
  | [] => some (.bool true)
  | _ => none
set_option maxRecDepth 100000 in
set_option maxHeartbeats 8000000 in
theorem ev12 : evP (envOf GR fsR) 0 mf12 1 [] = some (.bool true) := by
  have i : ∀ {n d : Int}, -1000 ≤ n ∧ n ≤ 1000 ∧ -1000 ≤ d ∧ d ≤ 1000 → InQ ⟨n, d⟩ := fun {n d} h => by unfold InQ inI; simp only; omega
  have m1 : M18 [.int .i64 6, .int .i64 (-8)] = some (.tup [.agg [.int .i64 (-3), .int .i64 4], .int .i64 0]) := by
    rw [M18_eq (by unfold inI; omega) (by unfold inI; omega), show mkQ 6 (-8) = some ⟨-3, 4⟩ by decide +kernel]; rfl
  have q1 := M14_eq 1 6
  have q2 := M14_eq 1 3
  have q3 := M14_eq (-5) 4
  have q4 := M14_eq 1 2
  have q5 := M14_eq 0 1
  have q6 := M14_eq (-3) 4
  have q7 := M14_eq (-1) 1
  have q8 := M14_eq 5 2
  have q9 := M14_eq (-2) 1
  have q10 := M14_eq 2 1
  have q11 := M14_eq 2 4
  have m2 := M26_eq (a := ⟨1, 6⟩) (b := ⟨1, 3⟩) (i (by omega)) (i (by omega))
  rw [show addQ ⟨1, 6⟩ ⟨1, 3⟩ = some ⟨1, 2⟩ by decide +kernel] at m2
  have m3 := M22_eq (a := ⟨-5, 4⟩) (d := 2) (i (by omega))
  rw [show roundQ ⟨-5, 4⟩ 2 = some ⟨-1, 1⟩ by decide +kernel] at m3
  have m4 := M32_eq (a := ⟨1, 2⟩) (b := ⟨0, 1⟩) (i (by omega)) (i (by omega))
  rw [show divQ ⟨1, 2⟩ ⟨0, 1⟩ = none by decide +kernel] at m4
  have m5 := M13_eq (a := ⟨-3, 4⟩) (i (by omega))
  unfold printA at m5
  rw [if_pos okm, text34] at m5
  have m6 := M16_eq (s := [45, 51, 47, 52]) (by decide)
  rw [parse34] at m6
  have m7 := M16_eq (s := [54, 47, 56]) (by decide)
  rw [parse68] at m7
  have m8 := M21_eq (a := ⟨-3, 4⟩) (b := ⟨1, 2⟩) (i (by omega)) (i (by omega))
  rw [show cmpQ ⟨-3, 4⟩ ⟨1, 2⟩ = -1 by decide +kernel] at m8
  have m9 := M20_eq (a := ⟨-3, 4⟩) (i (by omega))
  rw [show floorQ ⟨-3, 4⟩ = -1 by decide +kernel] at m9
  have m10 := M24_eq (a := ⟨5, 2⟩) (b := ⟨-2, 1⟩) (c := ⟨2, 1⟩) (i (by omega)) (i (by omega)) (i (by omega))
  rw [show clampQ ⟨5, 2⟩ ⟨-2, 1⟩ ⟨2, 1⟩ = ⟨2, 1⟩ by decide +kernel] at m10
  have m11 := M19_eq (a := ⟨-3, 4⟩) (i (by omega))
  rw [show decide (Ok ⟨-3, 4⟩) = true by decide +kernel] at m11
  have m12 := M19_eq (a := ⟨2, 4⟩) (i (by omega))
  rw [show decide (Ok ⟨2, 4⟩) = false by decide +kernel] at m12
  clear i
  simp only [qA, resA] at *
  rw [evP_run _ _ rfl]
  simp [mf12, m1, m2, m3, m4, m5, m6, m7, m8, m9, m10, m11, m12, q1, q2, q3, q4, q5, q6, q7, q8, q9, q10, q11, evEqAgg, eqOffs, eqK]
theorem spec12 : PureSpec Tryd.prog GR 12 M12 := by
  refine PureSpec.of_ev (E := envOf GR fsR) (envOf_sound soundR) rfl at12 comp12 1 ?_
  intro args r h
  unfold M12 at h
  split at h
  · injection h with h; subst h
    exact ⟨0, ev12⟩
  · cases h
end Rat0
end Go.Proofs.YtfplfkcgjdkdaaaDoor
/-
  Ratio: what the laws' cards share.
-/
namespace Go.Proofs.YtfplfkcgjdkdaaaDoor
namespace Rat0
open Go

theorem ownK : ownKnob Tryd.prog.godebug = none := by kernel_rfl
theorem gM : Tryd.prog.globalNamed "cleanroom/ratio.errMisfit" = some 0 := by kernel_rfl
theorem gS : Tryd.prog.globalNamed "strconv.ErrSyntax" = some 2 := by kernel_rfl
theorem gE : Tryd.prog.globalNamed "strconv.ErrRange" = some 3 := by kernel_rfl
theorem gP : Tryd.prog.globalNamed "internal/strconv.uint64pow10" = some 4 := by kernel_rfl
theorem gMT : (Tryd.prog.globals[0]?).map (·.type) = some 58 := by kernel_rfl
theorem gST : (Tryd.prog.globals[2]?).map (·.type) = some 58 := by kernel_rfl
theorem gET : (Tryd.prog.globals[3]?).map (·.type) = some 58 := by kernel_rfl
theorem gPT : (Tryd.prog.globals[4]?).map (·.type) = some 120 := by kernel_rfl
theorem cells120 : Tryd.prog.cellsOf 120 = 20 := by kernel_rfl
theorem cells18 : Tryd.prog.cellsOf 18 = 1 := by kernel_rfl
theorem cells131 : Tryd.prog.cellsOf 131 = 1 := by kernel_rfl
theorem cells9 : Tryd.prog.cellsOf 9 = 1 := by kernel_rfl
theorem star : "*" ++ "errors.errorString" = "*errors.errorString" := by decide
theorem row129 (u : TypeId) (h : Tryd.prog.typeName? 3 u = some "*errors.errorString") : u = 129 :=
  typeName_ptr_named (nm := "errors.errorString") (by rw [star]; kernel_rfl) (by kernel_rfl) (by decide) u (by rw [star]; exact h)
theorem var_row {W : World} {n : String} {g : Nat} {cs : Array Value} (hg : Tryd.prog.globalNamed n = some g) (h : W.var? Tryd.prog n = some cs) : ∃ T fz, W.heap[g]? = some (.cells cs T fz) := by
  unfold World.var? at h
  simp only [hg, Option.bind_some] at h
  split at h
  · rename_i c T fz e
    injection h with h
    subst h
    exact ⟨T, fz, e⟩
  · cases h
theorem sent_rel {W : World} {n : String} {g : Nat} {text : List UInt8} {a : Addr} {s : ByteArray} (hg : Tryd.prog.globalNamed n = some g)
    (hv : W.var? Tryd.prog n = some #[.iface 129 (.pointer (some a))]) (hc : W.cell? a = some (.string s)) (hs : s.data.toList = text) :
    VRel W (fun b => b < W.heap.size) Ghost.none (.pointer (some ⟨g, 0, none⟩)) (.fp (errA text)) ∧ ∃ c T fz, W.heap[g]? = some (.cells c T fz) ∧ c.size = (errA text).length := by
  obtain ⟨T, fz, hh⟩ := var_row hg hv
  refine ⟨?_, _, T, fz, hh, rfl⟩
  obtain ⟨b, o, sp⟩ := a
  unfold World.cell? at hc
  cases hb : W.heap[b]? with
  | none => simp [hb] at hc
  | some ob =>
    cases ob with
    | cells c T' fz' =>
      simp only [hb] at hc
      cases sp with
      | some _ => simp at hc
      | none =>
        simp only [Option.isSome_none, Bool.false_eq_true, if_false] at hc
        refine .fp _ g 0 T _ fz _ (fun _ => .iface 129 (.pointer (some ⟨b, o, none⟩))) (Array.getElem?_eq_some_iff.1 hh).1 hh (by simp [errA]) (fun i hi => ?_) (fun i hi => ?_)
        · obtain rfl : i = 0 := by simp [errA] at hi; exact hi
          refine .iface _ _ _ _ (.fp _ b o T' c fz' _ (fun _ => .string s) (Array.getElem?_eq_some_iff.1 hb).1 hb (by simp) (fun j hj => ?_) (fun j hj => ?_))
          · obtain rfl : j = 0 := by simpa using hj
            exact .str _ _ _ hs
          · obtain rfl : j = 0 := by simpa using hj
            exact ⟨hc, rfl⟩
        · obtain rfl : i = 0 := by simp [errA] at hi; exact hi
          exact ⟨rfl, rfl⟩
    | _ => simp [hb] at hc
theorem tab_rel {W : World} {n : String} {g : Nat} {k : IntKind} {zs : List Int} (hg : Tryd.prog.globalNamed n = some g) (hz : 0 < zs.length)
    (h : Lib.TabIs Tryd.prog W n k zs) :
    VRel W (fun b => b < W.heap.size) Ghost.none (.pointer (some ⟨g, 0, none⟩)) (.fp (zs.map (.int k ·))) ∧ ∃ c T fz, W.heap[g]? = some (.cells c T fz) ∧ c.size = (zs.map (AV.int k ·)).length := by
  obtain ⟨T, fz, hh⟩ := var_row hg h
  refine ⟨?_, _, T, fz, hh, by simp⟩
  refine .fp _ g 0 T _ fz _ (fun i => .int k (zs.getD i 0)) (Array.getElem?_eq_some_iff.1 hh).1 hh (by simpa using hz) (fun i hi => ?_) (fun i hi => ?_)
  · have hi' : i < zs.length := by simpa using hi
    simp only [List.getElem_map, List.getD_eq_getElem?_getD, List.getElem?_eq_getElem hi', Option.getD_some]
    exact .int _ _ _
  · have hi' : i < zs.length := by simpa using hi
    simp only [Nat.zero_add, List.getD_eq_getElem?_getD, List.getElem?_eq_getElem hi', Option.getD_some]
    exact ⟨by simp [hi'], rfl⟩
def laidL : List (String × DataW Unit) := [("math/bits.deBruijn32tab", Rows.laid_math_bits_deBruijn32tab), ("math/bits.deBruijn64tab", Rows.laid_math_bits_deBruijn64tab), ("internal/strconv.uint64pow10", Rows.laid_internal_strconv_uint64pow10), ("strconv.ErrRange", Rows.laid_strconv_ErrRange), ("strconv.ErrSyntax", Rows.laid_strconv_ErrSyntax), ("cleanroom/ratio.errMisfit", Rows.laid_cleanroom_ratio_errMisfit)]
set_option maxRecDepth 100000 in
theorem powD {H : Type} : (Rows.laid_internal_strconv_uint64pow10 : DataW H) = Lib.tabData .u64 Lib.pow10Tab := by
  rw [show Lib.pow10Tab = [1, 10, 100, 1000, 10000, 100000, 1000000, 10000000, 100000000, 1000000000, 10000000000, 100000000000, 1000000000000, 10000000000000, 100000000000000, 1000000000000000, 10000000000000000, 100000000000000000, 1000000000000000000, 10000000000000000000] by kernel_rfl]
  rfl
set_option maxRecDepth 100000 in
theorem grel_of {W : World} (h : laidMet Tryd.prog laidL W) : GRel GR W (fun b => b < W.heap.size) := by
  unfold laidL at h
  have h2 := h.tail.tail
  rw [powD] at h2
  have hp := Lib.tabIs_of_head gP gPT Tryd.underlying120 Tryd.underlying63 (by kernel_rfl) cells120 h2
  obtain ⟨a1, s1, hv1, hc1, hs1, _⟩ := laid_sentinel h2.tail gE gET Tryd.underlying58 row129 Tryd.underlying129 Tryd.underlying131 rfl rfl Tryd.underlying9 cells131 cells9
  obtain ⟨a2, s2, hv2, hc2, hs2, _⟩ := laid_sentinel h2.tail.tail gS gST Tryd.underlying58 row129 Tryd.underlying129 Tryd.underlying131 rfl rfl Tryd.underlying9 cells131 cells9
  obtain ⟨a3, s3, hv3, hc3, hs3, _⟩ := laid_sentinel h2.tail.tail.tail gM gMT Tryd.underlying58 row129 Tryd.underlying129 Tryd.underlying131 rfl rfl Tryd.underlying9 cells131 cells9
  intro gl cs hg
  unfold GR at hg
  split at hg
  · rename_i e; subst e; injection hg with hg; subst hg
    exact sent_rel gM hv3 hc3 hs3
  split at hg
  · rename_i e; subst e; injection hg with hg; subst hg
    exact sent_rel gS hv2 hc2 hs2
  split at hg
  · rename_i e; subst e; injection hg with hg; subst hg
    exact sent_rel gE hv1 hc1 hs1
  split at hg
  · rename_i e; subst e; injection hg with hg; subst hg
    exact tab_rel gP (by rw [Lib.pow10Tab_length]; decide) hp
  · cases hg

/-- A WORLD FOR THE WITNESS: the variables hold what their initialisers lay. -/
noncomputable def laidWorld (os : Os) : World :=
  let w := World.holding Tryd.prog os ⟨#[], #[], []⟩
  let n := w.heap.size
  let err := fun (i : Nat) (o : Obj) => match o with
    | .cells _ t fz => Obj.cells #[.iface 129 (.pointer (some ⟨n + i, 0, none⟩))] t fz
    | o => o
  let tab := fun (k : IntKind) (zs : List Int) (o : Obj) => match o with
    | .cells _ t fz => Obj.cells (zs.map fun z => Value.int k z).toArray t fz
    | o => o
  { w with heap := (((((((w.heap.modify 0 (err 0)).modify 2 (err 1)).modify 3 (err 2)).modify 4 (tab .u64 [1, 10, 100, 1000, 10000, 100000, 1000000, 10000000, 100000000, 1000000000, 10000000000, 100000000000, 1000000000000, 10000000000000, 100000000000000, 1000000000000000, 10000000000000000, 100000000000000000, 1000000000000000000, 10000000000000000000])).modify 5 (tab .u8 [0, 1, 28, 2, 29, 14, 24, 3, 30, 22, 20, 15, 25, 17, 4, 8, 31, 27, 13, 23, 21, 19, 16, 7, 26, 12, 18, 6, 11, 5, 10, 9])).modify 6 (tab .u8 [0, 1, 56, 2, 57, 49, 28, 3, 61, 58, 42, 50, 38, 29, 17, 4, 62, 47, 59, 36, 45, 43, 51, 22, 53, 39, 33, 30, 24, 18, 12, 5, 63, 55, 48, 27, 60, 41, 37, 16, 46, 35, 44, 21, 52, 32, 23, 11, 54, 26, 40, 15, 34, 20, 31, 10, 25, 14, 19, 9, 13, 8, 7, 6])).push (.cells #[.string ⟨#[109, 105, 115, 102, 105, 116]⟩] 131 (0, 0))).push (.cells #[.string ⟨#[105, 110, 118, 97, 108, 105, 100, 32, 115, 121, 110, 116, 97, 120]⟩] 131 (0, 0)) |>.push (.cells #[.string ⟨#[118, 97, 108, 117, 101, 32, 111, 117, 116, 32, 111, 102, 32, 114, 97, 110, 103, 101]⟩] 131 (0, 0)) }
theorem laidW (os : Os) : laidMet Tryd.prog laidL ((laidWorld os).forCall (fun _ _ => 0) ⟨#[], #[], []⟩).memory := laidMet_of_run' 8 (by kernel_rfl) (by kernel_rfl)
end Rat0
end Go.Proofs.YtfplfkcgjdkdaaaDoor
/-
  Ratio: what the laws are evaluated with; RatioFloor (4).
-/
namespace Go.Proofs.YtfplfkcgjdkdaaaDoor
namespace Rat0
open Go

noncomputable def fsX : List (FuncId × HModel) := (12, pureH 4 M12) :: fsR
@[simp] theorem fsX_12 : lookM fsX 12 = some (pureH 4 M12) := rfl
@[simp] theorem fsX_18 : lookM fsX 18 = some (pureH 4 M18) := rfl
@[simp] theorem fsX_14 : lookM fsX 14 = some (pureH 4 M14) := rfl
@[simp] theorem fsX_26 : lookM fsX 26 = some (pureH 4 M26) := rfl
@[simp] theorem fsX_22 : lookM fsX 22 = some (pureH 4 M22) := rfl
@[simp] theorem fsX_32 : lookM fsX 32 = some (pureH 4 M32) := rfl
@[simp] theorem fsX_13 : lookM fsX 13 = some (pureH 4 M13) := rfl
@[simp] theorem fsX_16 : lookM fsX 16 = some (pureH 4 M16) := rfl
@[simp] theorem fsX_21 : lookM fsX 21 = some (pureH 4 M21) := rfl
@[simp] theorem fsX_20 : lookM fsX 20 = some (pureH 4 M20) := rfl
@[simp] theorem fsX_24 : lookM fsX 24 = some (pureH 4 M24) := rfl
@[simp] theorem fsX_19 : lookM fsX 19 = some (pureH 4 M19) := rfl
@[simp] theorem fsX_25 : lookM fsX 25 = some (pureH 4 M25) := rfl
@[simp] theorem fsX_27 : lookM fsX 27 = some (pureH 4 M27) := rfl
@[simp] theorem fsX_23 : lookM fsX 23 = some (pureH 4 M23) := rfl
theorem soundX : ∀ f M, lookM fsX f = some M → FnSpecY Tryd.prog GR f M := lookM_cons (FnSpecY.of_pure spec12 4) soundR
noncomputable abbrev EX : Env := envOf GR fsX
theorem M12_eq : M12 [] = some (.bool true) := rfl
/-! ### equality of two fractions -/
theorem eqQ (neg : Bool) (a b : Q) : evEqAgg neg [(0, 1), (1, 1)] (.agg [.int .i64 a.n, .int .i64 a.d]) (.agg [.int .i64 b.n, .int .i64 b.d]) = some (.bool (if neg then !decide (a = b) else decide (a = b))) := by
  have e : decide (a = b) = (decide (a.n = b.n) && decide (a.d = b.d)) := by
    rw [Bool.eq_iff_iff]
    simp only [Bool.and_eq_true, decide_eq_true_eq]
    constructor
    · rintro rfl; exact ⟨rfl, rfl⟩
    · rintro ⟨h1, h2⟩; cases a; cases b; simp_all
  rw [e]
  simp [evEqAgg, eqOffs, eqK]
theorem not_ok0 : ¬ Ok ⟨0, 0⟩ := by decide +kernel
theorem inQ0 : InQ ⟨0, 0⟩ := by unfold InQ inI; simp only; omega
theorem evLss (x y : Int) : evBin .lss (.int .i64 x) (.int .i64 y) = some (.bool (decide (x < y))) := by simp [evBin]
theorem evLeq (x y : Int) : evBin .leq (.int .i64 x) (.int .i64 y) = some (.bool (decide (x ≤ y))) := by simp [evBin]
theorem evGtr (x y : Int) : evBin .gtr (.int .i64 x) (.int .i64 y) = some (.bool (decide (y < x))) := by simp [evBin]
theorem evGeq (x y : Int) : evBin .geq (.int .i64 x) (.int .i64 y) = some (.bool (decide (y ≤ x))) := by simp [evBin]
theorem evEql (x y : Int) : evBin .eql (.int .i64 x) (.int .i64 y) = some (.bool (decide (x = y))) := by simp [evBin]
theorem evNeq (x y : Int) : evBin .neq (.int .i64 x) (.int .i64 y) = some (.bool (!decide (x = y))) := by simp [evBin]

set_option maxRecDepth 100000 in
set_option maxHeartbeats 4000000 in
theorem ev4 {n d : Int} (hn : inI n) (hd : inI d) : evP EX 0 mf4 1 [.int .i64 n, .int .i64 d] = some (.bool true) := by
  rw [evP_run _ _ rfl]
  rcases mk_form hn hd with ⟨_, m⟩ | ⟨r, _, ok, m⟩
  · have v := M19_eq inQ0
    have f := M20_eq inQ0
    simp only [not_ok0, decide_false] at v
    rw [show floorQ ⟨0, 0⟩ = 0 from if_neg not_ok0] at f
    unfold qA at v f
    simp [mf4, M12_eq, m, v, f]
  · have f := M20_eq ok.inQ
    obtain ⟨k1, k2, k3, k4⟩ := floor_bd ok
    have kt := floor_top ok
    have kl := floor_low ok
    have kh := floor_high ok
    obtain ⟨k, hk⟩ : ∃ k, k = floorQ r := ⟨_, rfl⟩
    rw [← hk] at f k3 k4 kt kl kh
    have mk := M18_eq (n := k) (d := 1) (by unfold lim at *; unfold inI; omega) (by unfold inI; omega)
    rw [mk_int ⟨k3, k4⟩] at mk
    have c1 := M21_eq (a := ⟨k, 1⟩) (b := r) (ok_int ⟨k3, k4⟩).inQ ok.inQ
    unfold lim at k3 k4
    have b1 : evBin .lss (.int .i64 k) (.int .i64 (-1000000000)) = some (.bool false) := by rw [evLss]; simp; omega
    by_cases h : lim ≤ k
    · obtain ⟨rfl, rfl⟩ := kt h
      have q := M14_eq lim 1
      unfold qA at f q
      unfold resA qA at mk
      unfold lim at *
      have b2 : evBin .geq (.int .i64 1000000000) (.int .i64 1000000000) = some (.bool true) := by simp [evBin]
      have b3 : evBin .eql (.int .i64 1000000000) (.int .i64 1000000000) = some (.bool true) := by simp [evBin]
      have b4 : evBin .neq (.int .i64 0) (.int .i64 0) = some (.bool false) := by simp [evBin]
      have e := eqQ false ⟨1000000000, 1⟩ ⟨1000000000, 1⟩
      simp only [decide_true, Bool.false_eq_true, if_false] at e mk f q m
      simp [mf4, M12_eq, m, f, mk, q, b1, b2, b3, b4, -evBin]
    · have h' : k < lim := by omega
      have mh := M18_eq (n := k + 1) (d := 1) (by unfold lim at *; unfold inI; omega) (by unfold inI; omega)
      have o2 : Ok ⟨k + 1, 1⟩ := ok_int ⟨by unfold lim at *; omega, by omega⟩
      rw [mk_int ⟨by unfold lim at *; omega, by omega⟩] at mh
      have c2 := M21_eq (a := r) (b := ⟨k + 1, 1⟩) ok.inQ o2.inQ
      have kh := kh h'
      obtain ⟨c, hc⟩ : ∃ c, c = cmpQ ⟨k, 1⟩ r := ⟨_, rfl⟩
      obtain ⟨c', hc'⟩ : ∃ c, c = cmpQ r ⟨k + 1, 1⟩ := ⟨_, rfl⟩
      rw [← hc] at c1 kl
      rw [← hc'] at c2 kh
      unfold qA at f c1 c2
      unfold resA qA at mk mh
      unfold lim at *
      have b2 : evBin .geq (.int .i64 k) (.int .i64 1000000000) = some (.bool false) := by rw [evGeq]; simp; omega
      have b3 : evBin .add (.int .i64 k) (.int .i64 1) = some (.int .i64 (k + 1)) := evAdd (by unfold inI; omega)
      have b4 : evBin .neq (.int .i64 0) (.int .i64 0) = some (.bool false) := by simp [evBin]
      have b5 : evBin .eql (.int .i64 0) (.int .i64 0) = some (.bool true) := by simp [evBin]
      have b6 : evBin .leq (.int .i64 c) (.int .i64 0) = some (.bool true) := by rw [evLeq]; simp [kl]
      have b7 : evBin .lss (.int .i64 c') (.int .i64 0) = some (.bool true) := by rw [evLss]; simp [kh]
      simp only at c1 c2
      simp [mf4, M12_eq, m, f, mk, mh, c1, c2, b1, b2, b3, b4, b5, b6, b7, -evBin]
theorem arg_i {n : Nat} {a : AV} (h : TA Tryd.prog n 3 a) : ∃ z : Int, a = .int .i64 z ∧ inI z := TA.i64 Tryd.underlying3 h
theorem ev4L (args : List AV) (h : LawArgs Tryd.prog 8 Tryd.f4.params.toList args) : ∃ fuel, evP EX fuel mf4 1 args = some (.bool true) := by
  rw [Tryd.params4] at h
  obtain ⟨a, r, rfl, h0, h⟩ := h.cons
  obtain ⟨b, r, rfl, h1, h⟩ := h.cons
  obtain rfl := h.nil
  obtain ⟨n, rfl, hn⟩ := arg_i h0
  obtain ⟨d, rfl, hd⟩ := arg_i h1
  exact ⟨0, ev4 hn hd⟩
end Rat0
end Go.Proofs.YtfplfkcgjdkdaaaDoor
/-
  Ratio: what the laws of three fractions share.
-/
namespace Go.Proofs.YtfplfkcgjdkdaaaDoor
namespace Rat0
open Go

theorem rN : resA none = .tup [.agg [.int .i64 0, .int .i64 0], .int .i64 30] := rfl
theorem rS (a : Q) : resA (some a) = .tup [.agg [.int .i64 a.n, .int .i64 a.d], .int .i64 0] := rfl
theorem n00 : evBin .neq (.int .i64 0) (.int .i64 0) = some (.bool false) := by simp [evBin]
theorem n30 : evBin .neq (.int .i64 30) (.int .i64 0) = some (.bool true) := by simp [evBin]
theorem q00 : evBin .eql (.int .i64 0) (.int .i64 0) = some (.bool true) := by simp [evBin]
theorem q30 : evBin .eql (.int .i64 30) (.int .i64 0) = some (.bool false) := by simp [evBin]
theorem nzz (z : Int) : evBin .neq (.int .i64 z) (.int .i64 z) = some (.bool false) := by simp [evBin]
theorem qzz (z : Int) : evBin .eql (.int .i64 z) (.int .i64 z) = some (.bool true) := by simp [evBin]
theorem aggNe (x y : Int) : evEqAgg true [(0, 1), (1, 1)] (.agg [.int .i64 x, .int .i64 y]) (.agg [.int .i64 x, .int .i64 y]) = some (.bool false) := by
  simp
theorem aggEq (x y : Int) : evEqAgg false [(0, 1), (1, 1)] (.agg [.int .i64 x, .int .i64 y]) (.agg [.int .i64 x, .int .i64 y]) = some (.bool true) := by
  simp
theorem ld0 (a b c d e f : AV) : loadElem (.agg [a, b, c, d, e, f]) 6 0 true 2 = some (.agg [a, b]) := rfl
theorem ld2 (a b c d e f : AV) : loadElem (.agg [a, b, c, d, e, f]) 6 2 true 2 = some (.agg [c, d]) := rfl
theorem ld4 (a b c d e f : AV) : loadElem (.agg [a, b, c, d, e, f]) 6 4 true 2 = some (.agg [e, f]) := rfl
set_option maxRecDepth 100000 in
theorem arg_six {n : Nat} {a : AV} (h : TA Tryd.prog (n + 3) 40 a) : ∃ x y z : Q, InQ x ∧ InQ y ∧ InQ z ∧ a = six x y z := by
  obtain ⟨xs, rfl, hc, _⟩ := TA.agg (by kernel_rfl) h
  simp only [TC, Tryd.underlying40] at hc
  rw [show Tryd.prog.cellsOf 39 = 2 by kernel_rfl] at hc
  simp only [TCa, Tryd.underlying39, Tryd.underlying3] at hc
  rw [show Tryd.prog.cellsOf 3 = 1 by kernel_rfl] at hc
  obtain ⟨_, _, rfl, ⟨_, _, rfl, ⟨a, rfl, ha⟩, _, _, _, rfl, ⟨b, rfl, hb⟩, _, rfl⟩, _, _, _, rfl, ⟨_, _, rfl, ⟨c, rfl, hc⟩, _, _, _, rfl, ⟨d, rfl, hd⟩, _, rfl⟩, _, _, _, rfl, ⟨_, _, rfl, ⟨e, rfl, he⟩, _, _, _, rfl, ⟨f, rfl, hf⟩, _, rfl⟩, _, rfl⟩ := hc
  exact ⟨⟨a, b⟩, ⟨c, d⟩, ⟨e, f⟩, ⟨ha, hb⟩, ⟨hc, hd⟩, ⟨he, hf⟩, rfl⟩
end Rat0
end Go.Proofs.YtfplfkcgjdkdaaaDoor
/-
  Ratio: RatioCommutes (8).
-/
namespace Go.Proofs.YtfplfkcgjdkdaaaDoor
namespace Rat0
open Go

set_option maxRecDepth 100000 in
set_option maxHeartbeats 16000000 in
theorem ev8 {x y z : Q} (hx : InQ x) (hy : InQ y) (hz : InQ z) : evP EX 0 mf8 1 [six x y z] = some (.bool true) := by
  rw [evP_run _ _ rfl]
  rcases M23_eq hx hy hz with ⟨a, b, c, m⟩ | ⟨a, b, c, oa, ob, oc, _, m⟩
  · unfold six at m ⊢
    simp [mf8, M12_eq, m]
  · have m1 := M26_eq oa.inQ ob.inQ
    have m2 := M26_eq ob.inQ oa.inQ
    have m3 := M27_eq oa.inQ ob.inQ
    have m4 := M27_eq ob.inQ oa.inQ
    have m5 := M26_eq ob.inQ oc.inQ
    have m6 := M27_eq ob.inQ oc.inQ
    rw [add_comm b a] at m2
    rw [mul_comm b a] at m4
    unfold qA at m1 m2 m3 m4 m5 m6
    unfold six at m ⊢
    have hA : (∃ e, e ≠ 0 ∧ errN (addQ a b) = e) ∨ (errN (addQ a b) = 0 ∧ ∃ e, e ≠ 0 ∧ errN (addQ b c) = e) ∨ (errN (addQ a b) = 0 ∧ errN (addQ b c) = 0 ∧ ∃ s t r : Q, ∃ e : Int, ∃ k : Q, fstQ (addQ a b) = s ∧ fstQ (addQ b c) = t ∧
        M26 [.agg [.int .i64 s.n, .int .i64 s.d], .agg [.int .i64 c.n, .int .i64 c.d]] = some (.tup [.agg [.int .i64 k.n, .int .i64 k.d], .int .i64 e]) ∧
        M26 [.agg [.int .i64 a.n, .int .i64 a.d], .agg [.int .i64 t.n, .int .i64 t.d]] = some (.tup [.agg [.int .i64 k.n, .int .i64 k.d], .int .i64 e])) := by
      cases h1 : addQ a b with
      | none => exact .inl ⟨30, by decide, rfl⟩
      | some s =>
        cases h2 : addQ b c with
        | none => exact .inr (.inl ⟨rfl, 30, by decide, rfl⟩)
        | some t =>
          have k1 := M26_eq (add_some h1).2.2.1.inQ oc.inQ
          have k2 := M26_eq oa.inQ (add_some h2).2.2.1.inQ
          rw [add_assoc h1 h2] at k1
          rw [resA_eq] at k1 k2
          exact .inr (.inr ⟨rfl, rfl, s, t, s, _, _, rfl, rfl, k1, k2⟩)
    have hM : (∃ e, e ≠ 0 ∧ errN (mulQ a b) = e) ∨ (errN (mulQ a b) = 0 ∧ ∃ e, e ≠ 0 ∧ errN (mulQ b c) = e) ∨ (errN (mulQ a b) = 0 ∧ errN (mulQ b c) = 0 ∧ ∃ s t r : Q, ∃ e : Int, ∃ k : Q, fstQ (mulQ a b) = s ∧ fstQ (mulQ b c) = t ∧
        M27 [.agg [.int .i64 s.n, .int .i64 s.d], .agg [.int .i64 c.n, .int .i64 c.d]] = some (.tup [.agg [.int .i64 k.n, .int .i64 k.d], .int .i64 e]) ∧
        M27 [.agg [.int .i64 a.n, .int .i64 a.d], .agg [.int .i64 t.n, .int .i64 t.d]] = some (.tup [.agg [.int .i64 k.n, .int .i64 k.d], .int .i64 e])) := by
      cases h1 : mulQ a b with
      | none => exact .inl ⟨30, by decide, rfl⟩
      | some s =>
        cases h2 : mulQ b c with
        | none => exact .inr (.inl ⟨rfl, 30, by decide, rfl⟩)
        | some t =>
          have k1 := M27_eq (mul_some h1).2.2.1.inQ oc.inQ
          have k2 := M27_eq oa.inQ (mul_some h2).2.2.1.inQ
          rw [mul_assoc h1 h2] at k1
          rw [resA_eq] at k1 k2
          exact .inr (.inr ⟨rfl, rfl, s, t, s, _, _, rfl, rfl, k1, k2⟩)
    rw [resA_eq] at m1 m2 m3 m4 m5 m6
    generalize fstQ (addQ a b) = s1 at m1 m2 hA
    generalize errN (addQ a b) = e1 at m1 m2 hA
    generalize fstQ (addQ b c) = s2 at m5 hA
    generalize errN (addQ b c) = e2 at m5 hA
    generalize fstQ (mulQ a b) = s3 at m3 m4 hM
    generalize errN (mulQ a b) = e3 at m3 m4 hM
    generalize fstQ (mulQ b c) = s4 at m6 hM
    generalize errN (mulQ b c) = e4 at m6 hM
    have nz : ∀ {e : Int}, e ≠ 0 → evBin .eql (.int .i64 e) (.int .i64 0) = some (.bool false) := fun h => by rw [evEql]; simp [h]
    rcases hA with ⟨e, he, rfl⟩ | ⟨rfl, e, he, rfl⟩ | ⟨rfl, rfl, s, t, r, e, k, rfl, rfl, k1, k2⟩ <;> rcases hM with ⟨e', he', rfl⟩ | ⟨rfl, e', he', rfl⟩ | ⟨rfl, rfl, s', t', r', e', k', rfl, rfl, k3, k4⟩
    · simp [mf8, M12_eq, m, m1, m2, m3, m4, m5, m6, nz he, nz he', nzz, evIndexArr, ld0, ld2, ld4, -evBin]
    · simp [mf8, M12_eq, m, m1, m2, m3, m4, m5, m6, nz he, nz he', q00, nzz, evIndexArr, ld0, ld2, ld4, -evBin]
    · simp [mf8, M12_eq, m, m1, m2, m3, m4, m5, m6, k3, k4, nz he, q00, nzz, evIndexArr, ld0, ld2, ld4, -evBin]
    · simp [mf8, M12_eq, m, m1, m2, m3, m4, m5, m6, nz he, nz he', q00, nzz, evIndexArr, ld0, ld2, ld4, -evBin]
    · simp [mf8, M12_eq, m, m1, m2, m3, m4, m5, m6, nz he, nz he', q00, nzz, evIndexArr, ld0, ld2, ld4, -evBin]
    · simp [mf8, M12_eq, m, m1, m2, m3, m4, m5, m6, k3, k4, nz he, q00, nzz, evIndexArr, ld0, ld2, ld4, -evBin]
    · simp [mf8, M12_eq, m, m1, m2, m3, m4, m5, m6, k1, k2, nz he', q00, nzz, evIndexArr, ld0, ld2, ld4, -evBin]
    · simp [mf8, M12_eq, m, m1, m2, m3, m4, m5, m6, k1, k2, nz he', q00, nzz, evIndexArr, ld0, ld2, ld4, -evBin]
    · simp [mf8, M12_eq, m, m1, m2, m3, m4, m5, m6, k1, k2, k3, k4, q00, nzz, evIndexArr, ld0, ld2, ld4, -evBin]
theorem ev8L (args : List AV) (h : LawArgs Tryd.prog 8 Tryd.f8.params.toList args) : ∃ fuel, evP EX fuel mf8 1 args = some (.bool true) := by
  rw [Tryd.params8] at h
  obtain ⟨a, r, rfl, h0, h⟩ := h.cons
  obtain rfl := h.nil
  obtain ⟨x, y, z, hx, hy, hz, rfl⟩ := arg_six (n := 5) h0
  exact ⟨0, ev8 hx hy hz⟩
end Rat0
end Go.Proofs.YtfplfkcgjdkdaaaDoor
/-
  Ratio: RatioDistributes (9).
-/
namespace Go.Proofs.YtfplfkcgjdkdaaaDoor
namespace Rat0
open Go

set_option maxRecDepth 100000 in
set_option maxHeartbeats 8000000 in
theorem ev9 {x y z : Q} (hx : InQ x) (hy : InQ y) (hz : InQ z) : evP EX 0 mf9 1 [six x y z] = some (.bool true) := by
  rw [evP_run _ _ rfl]
  rcases M23_eq hx hy hz with ⟨a, b, c, m⟩ | ⟨a, b, c, oa, ob, oc, _, m⟩
  · unfold six at m ⊢
    simp [mf9, M12_eq, m]
  · have m1 := M26_eq ob.inQ oc.inQ
    have m2 := M27_eq oa.inQ ob.inQ
    have m3 := M27_eq oa.inQ oc.inQ
    unfold qA at m1 m2 m3
    unfold six at m ⊢
    cases h1 : addQ b c with
    | none =>
      rw [h1, rN] at m1
      rw [resA_eq] at m2 m3
      simp [mf9, M12_eq, m, m1, m2, m3, n30, evIndexArr, ld0, ld2, ld4, -evBin]
    | some s =>
      rw [h1, rS] at m1
      cases h2 : mulQ a b with
      | none =>
        rw [h2, rN] at m2
        rw [resA_eq] at m3
        simp [mf9, M12_eq, m, m1, m2, m3, n00, n30, evIndexArr, ld0, ld2, ld4, -evBin]
      | some p =>
        rw [h2, rS] at m2
        cases h3 : mulQ a c with
        | none =>
          rw [h3, rN] at m3
          simp [mf9, M12_eq, m, m1, m2, m3, n00, n30, evIndexArr, ld0, ld2, ld4, -evBin]
        | some q =>
          rw [h3, rS] at m3
          have m4 := M27_eq oa.inQ (add_some h1).2.2.1.inQ
          have m5 := M26_eq (mul_some h2).2.2.1.inQ (mul_some h3).2.2.1.inQ
          rw [distrib h1 h2 h3] at m4
          rw [resA_eq] at m4 m5
          obtain ⟨u, hu⟩ : ∃ u, u = (fstQ (addQ p q)).n := ⟨_, rfl⟩
          obtain ⟨v, hv⟩ : ∃ u, u = (fstQ (addQ p q)).d := ⟨_, rfl⟩
          obtain ⟨w, hw⟩ : ∃ u, u = errN (addQ p q) := ⟨_, rfl⟩
          rw [← hu, ← hv, ← hw] at m4 m5
          unfold qA at m4 m5
          simp [mf9, M12_eq, m, m1, m2, m3, m4, m5, n00, qzz, evIndexArr, ld0, ld2, ld4, -evBin]
theorem ev9L (args : List AV) (h : LawArgs Tryd.prog 8 Tryd.f9.params.toList args) : ∃ fuel, evP EX fuel mf9 1 args = some (.bool true) := by
  rw [Tryd.params9] at h
  obtain ⟨a, r, rfl, h0, h⟩ := h.cons
  obtain rfl := h.nil
  obtain ⟨x, y, z, hx, hy, hz, rfl⟩ := arg_six (n := 5) h0
  exact ⟨0, ev9 hx hy hz⟩
end Rat0
end Go.Proofs.YtfplfkcgjdkdaaaDoor
/-
  Ratio: RatioInverse (11).
-/
namespace Go.Proofs.YtfplfkcgjdkdaaaDoor
namespace Rat0
open Go

theorem ldF (cs : List AV) (e o sz : Nat) : loadElem (.agg cs) e o false sz = cs[o]? := rfl
theorem evRem1001 {n : Int} : evBin .rem (.int .i64 n) (.int .i64 1001) = some (.int .i64 (n.tmod 1001)) := by
  simp [evBin]
theorem tmod_bd (n : Int) : -1000 ≤ n.tmod 1001 ∧ n.tmod 1001 ≤ 1000 := by
  have e := Int.natAbs_tmod n 1001
  rw [show (1001 : Int).natAbs = 1001 from rfl] at e
  omega
set_option maxRecDepth 100000 in
set_option maxHeartbeats 16000000 in
theorem ev11 {x y z : Q} {m0 n0 : Int} (hx : InQ x) (hy : InQ y) (hz : InQ z) : evP EX 0 mf11 1 [six x y z, .int .i64 m0, .int .i64 n0] = some (.bool true) := by
  rw [evP_run _ _ rfl]
  have r1 := evRem1001 (n := m0)
  have r2 := evRem1001 (n := n0)
  have c1 := tmod_bd m0
  have c2 := tmod_bd n0
  generalize m0.tmod 1001 = M at r1 c1
  generalize n0.tmod 1001 = N at r2 c2
  have c3 : -1000000 ≤ M * N ∧ M * N ≤ 1000000 := by
    have e := Int.natAbs_mul M N
    have k := Nat.mul_le_mul (show M.natAbs ≤ 1000 by omega) (show N.natAbs ≤ 1000 by omega)
    omega
  have l1 : -lim ≤ M ∧ M ≤ lim := by unfold lim; omega
  have l2 : -lim ≤ N ∧ N ≤ lim := by unfold lim; omega
  have l3 : -lim ≤ M + N ∧ M + N ≤ lim := by unfold lim; omega
  have l4 : -lim ≤ M * N ∧ M * N ≤ lim := by unfold lim; omega
  have b1 : evBin .add (.int .i64 M) (.int .i64 N) = some (.int .i64 (M + N)) := evAdd (by unfold inI; omega)
  have b2 : evBin .mul (.int .i64 M) (.int .i64 N) = some (.int .i64 (M * N)) := evMul (by unfold inI; omega)
  have p1 := M18_eq (n := M) (d := 1) (by unfold inI; omega) (by unfold inI; omega)
  have p2 := M18_eq (n := N) (d := 1) (by unfold inI; omega) (by unfold inI; omega)
  have p3 := M26_eq (ok_int l1).inQ (ok_int l2).inQ
  have p4 := M27_eq (ok_int l1).inQ (ok_int l2).inQ
  have i1 := M14_eq (M + N) 1
  have i2 := M14_eq (M * N) 1
  rw [mk_int l1, rS] at p1
  rw [mk_int l2, rS] at p2
  rw [add_int l1 l2 l3, rS] at p3
  rw [mul_int l1 l2 l4, rS] at p4
  generalize M + N = S at b1 i1 p3
  generalize M * N = P at b2 i2 p4
  unfold qA at p3 p4 i1 i2
  simp only at p1 p2 p3 p4 i1 i2
  clear l1 l2 l3 l4 c1 c2 c3
  rcases M23_eq hx hy hz with ⟨a, b, c, m⟩ | ⟨a, b, c, oa, ob, oc, _, m⟩
  · unfold six at m ⊢
    simp [mf11, M12_eq, m, r1, r2, b1, b2, p1, p2, p3, p4, i1, i2, n00, -evBin]
  · have m1 := M26_eq oa.inQ ob.inQ
    have m2 := M27_eq oa.inQ ob.inQ
    unfold qA at m1 m2
    have hA : (∃ e, e ≠ 0 ∧ errN (addQ a b) = e) ∨ (errN (addQ a b) = 0 ∧ M25 [.agg [.int .i64 (fstQ (addQ a b)).n, .int .i64 (fstQ (addQ a b)).d], .agg [.int .i64 b.n, .int .i64 b.d]] = some (.tup [.agg [.int .i64 a.n, .int .i64 a.d], .int .i64 0])) := by
      cases h1 : addQ a b with
      | none => exact .inl ⟨30, by decide, rfl⟩
      | some s =>
        have k := M25_eq (add_some h1).2.2.1.inQ ob.inQ
        rw [add_sub h1] at k
        exact .inr ⟨rfl, k⟩
    have hM : (∃ e, e ≠ 0 ∧ errN (mulQ a b) = e) ∨ (errN (mulQ a b) = 0 ∧ (b.n = 0 ∨ (b.n ≠ 0 ∧ M32 [.agg [.int .i64 (fstQ (mulQ a b)).n, .int .i64 (fstQ (mulQ a b)).d], .agg [.int .i64 b.n, .int .i64 b.d]] = some (.tup [.agg [.int .i64 a.n, .int .i64 a.d], .int .i64 0])))) := by
      cases h1 : mulQ a b with
      | none => exact .inl ⟨30, by decide, rfl⟩
      | some s =>
        by_cases h0 : b.n = 0
        · exact .inr ⟨rfl, .inl h0⟩
        · have k := M32_eq (mul_some h1).2.2.1.inQ ob.inQ
          rw [mul_div h1 h0] at k
          exact .inr ⟨rfl, .inr ⟨h0, k⟩⟩
    rw [resA_eq] at m1 m2
    generalize (fstQ (addQ a b)).n = s1 at m1 hA
    generalize (fstQ (addQ a b)).d = s2 at m1 hA
    generalize errN (addQ a b) = e1 at m1 hA
    generalize (fstQ (mulQ a b)).n = s3 at m2 hM
    generalize (fstQ (mulQ a b)).d = s4 at m2 hM
    generalize errN (mulQ a b) = e2 at m2 hM
    have nz : ∀ {e : Int}, e ≠ 0 → evBin .eql (.int .i64 e) (.int .i64 0) = some (.bool false) := fun h => by rw [evEql]; simp [h]
    have nn : ∀ {e : Int}, e ≠ 0 → evBin .neq (.int .i64 e) (.int .i64 0) = some (.bool true) := fun h => by rw [evNeq]; simp [h]
    have n0' : b.n = 0 → evBin .neq (.int .i64 b.n) (.int .i64 0) = some (.bool false) := fun h => by rw [evNeq]; simp [h]
    unfold six at m ⊢
    rcases hA with ⟨e, he, rfl⟩ | ⟨rfl, k1⟩ <;> rcases hM with ⟨e', he', rfl⟩ | ⟨rfl, h0 | ⟨h0, k2⟩⟩
    · simp [mf11, M12_eq, m, m1, m2, r1, r2, b1, b2, p1, p2, p3, p4, i1, i2, n00, nz he, nz he', evIndexArr, ld0, ld2, -evBin]
    · simp [mf11, M12_eq, m, m1, m2, r1, r2, b1, b2, p1, p2, p3, p4, i1, i2, n00, q00, nz he, n0' h0, evIndexArr, ld0, ld2, -evBin]
    · simp [mf11, M12_eq, m, m1, m2, k2, r1, r2, b1, b2, p1, p2, p3, p4, i1, i2, n00, q00, nz he, nn h0, evIndexArr, ld0, ld2, -evBin]
    · simp [mf11, M12_eq, m, m1, m2, k1, r1, r2, b1, b2, p1, p2, p3, p4, i1, i2, n00, q00, nz he', evIndexArr, ld0, ld2, -evBin]
    · simp [mf11, M12_eq, m, m1, m2, k1, r1, r2, b1, b2, p1, p2, p3, p4, i1, i2, n00, q00, n0' h0, evIndexArr, ld0, ld2, -evBin]
    · simp [mf11, M12_eq, m, m1, m2, k1, k2, r1, r2, b1, b2, p1, p2, p3, p4, i1, i2, n00, q00, nn h0, evIndexArr, ld0, ld2, -evBin]
theorem ev11L (args : List AV) (h : LawArgs Tryd.prog 8 Tryd.f11.params.toList args) : ∃ fuel, evP EX fuel mf11 1 args = some (.bool true) := by
  rw [Tryd.params11] at h
  obtain ⟨a, r, rfl, h0, h⟩ := h.cons
  obtain ⟨b, r, rfl, h1, h⟩ := h.cons
  obtain ⟨c, r, rfl, h2, h⟩ := h.cons
  obtain rfl := h.nil
  obtain ⟨x, y, z, hx, hy, hz, rfl⟩ := arg_six (n := 5) h0
  obtain ⟨m, rfl, _⟩ := arg_i h1
  obtain ⟨n, rfl, _⟩ := arg_i h2
  exact ⟨0, ev11 hx hy hz⟩
end Rat0
end Go.Proofs.YtfplfkcgjdkdaaaDoor
/-
  Ratio: RatioRound (5).
-/
namespace Go.Proofs.YtfplfkcgjdkdaaaDoor
namespace Rat0
open Go

theorem and1023 (z : Int) : ∃ w : Int, evBin .and (.int .i64 z) (.int .i64 1023) = some (.int .i64 w) ∧ 0 ≤ w ∧ w ≤ 1023 := by
  have h : (BitVec.ofInt 64 1023).toNat = 1023 := by decide
  refine ⟨andI .i64 z 1023, by simp only [evBin]; rw [if_pos trivial], ?_⟩
  unfold andI
  rw [show IntKind.i64.bits = 64 from rfl, BitVec.toNat_and, h]
  have := Nat.and_le_right (n := (BitVec.ofInt 64 z).toNat) (m := 1023)
  rw [wrapI (by unfold inI; omega)]
  omega
theorem cut1000 (w : Int) (h : 0 ≤ w ∧ w ≤ 1023) : ∃ v : Int, evBin .rem (.int .i64 w) (.int .i64 1000) = some (.int .i64 v) ∧ 0 ≤ v ∧ v ≤ 999 := by
  refine ⟨w.tmod 1000, by simp [evBin], Int.tmod_nonneg _ h.1, ?_⟩
  have e := Int.natAbs_tmod w 1000
  rw [show (1000 : Int).natAbs = 1000 from rfl] at e
  omega
theorem cutMil (n : Int) : ∃ v : Int, evBin .rem (.int .i64 n) (.int .i64 1000000) = some (.int .i64 v) ∧ v.natAbs ≤ 999999 := by
  refine ⟨n.tmod 1000000, by simp [evBin], ?_⟩
  have e := Int.natAbs_tmod n 1000000
  rw [show (1000000 : Int).natAbs = 1000000 from rfl] at e
  omega
theorem denOf (z : Int) : ∃ w v : Int, evBin .and (.int .i64 z) (.int .i64 1023) = some (.int .i64 w) ∧ evBin .rem (.int .i64 w) (.int .i64 1000) = some (.int .i64 v) ∧ ∃ d, evBin .add (.int .i64 1) (.int .i64 v) = some (.int .i64 d) ∧ 1 ≤ d ∧ d ≤ 1000 := by
  obtain ⟨w, h1, h2⟩ := and1023 z
  obtain ⟨v, k1, k2⟩ := cut1000 w h2
  exact ⟨w, v, h1, k1, 1 + v, evAdd (by unfold inI; omega), by omega, by omega⟩
/-- the twice difference -/
theorem twice_bd {a : Q} {d : Int} (ha : Ok a) (hn : a.n.natAbs ≤ 999999) (hd : 1 ≤ d ∧ d ≤ 1000) : ∃ P R : Int, rnd a d * a.d = P ∧ a.n * d = R ∧ -999999000 ≤ R ∧ R ≤ 999999000 ∧ 2 * (P - R) ≤ a.d ∧ -a.d < 2 * (P - R) ∧ -1000000000 ≤ rnd a d ∧ rnd a d ≤ 1000000000 := by
  have hb := rnd_bd ha.1 d
  have h1 := ha.1
  obtain ⟨m, hm⟩ : ∃ m, m = a.n * d := ⟨_, rfl⟩
  have m1 : m ≤ 999999000 := by
    rw [hm]
    have := Int.mul_le_mul_of_nonneg_right (show a.n ≤ 999999 by omega) (show 0 ≤ d by omega)
    have := Int.mul_le_mul_of_nonneg_left hd.2 (show (0 : Int) ≤ 999999 by omega)
    omega
  have m2 : -999999000 ≤ m := by
    rw [hm]
    have := Int.mul_le_mul_of_nonneg_right (show -999999 ≤ a.n by omega) (show 0 ≤ d by omega)
    have := Int.mul_le_mul_of_nonneg_left hd.2 (show (0 : Int) ≤ 999999 by omega)
    omega
  rw [← hm] at hb
  obtain ⟨r, hr⟩ : ∃ r, r = rnd a d := ⟨_, rfl⟩
  rw [← hr] at hb
  refine ⟨r * a.d, m, by rw [hr], hm.symm, m2, m1, hb.1, hb.2, ?_, ?_⟩
  · rw [← hr]
    rcases Int.lt_or_le r (-1000000000) with h | h
    · have := Int.mul_le_mul_of_nonneg_right (show r ≤ -1000000001 by omega) (Int.le_of_lt h1)
      rw [Int.neg_mul] at this
      omega
    · exact h
  · rw [← hr]
    rcases Int.lt_or_le 1000000000 r with h | h
    · have := Int.mul_le_mul_of_nonneg_right (show 1000000001 ≤ r by omega) (Int.le_of_lt h1)
      omega
    · exact h
set_option maxRecDepth 100000 in
set_option maxHeartbeats 16000000 in
theorem ev5 {n m den0 d0 : Int} : evP EX 0 mf5 1 [.int .i64 n, .int .i64 m, .int .i64 den0, .int .i64 d0] = some (.bool true) := by
  rw [evP_run _ _ rfl]
  obtain ⟨w1, v1, f1, f2, den, f3, g1, g2⟩ := denOf den0
  obtain ⟨w2, v2, f4, f5, d, f6, g3, g4⟩ := denOf d0
  obtain ⟨n', f7, g5⟩ := cutMil n
  obtain ⟨m', f8, g6⟩ := cutMil m
  obtain ⟨a, ka, la, _⟩ := mk_small (n := n') (d := den) (by omega) (by omega) (by omega)
  obtain ⟨b, kb, lb, _⟩ := mk_small (n := m') (d := den) (by omega) (by omega) (by omega)
  have oa := (mk_ok ka).2.1
  have ob := (mk_ok kb).2.1
  have p1 := M18_eq (n := n') (d := den) (by unfold inI; omega) (by unfold inI; omega)
  have p2 := M18_eq (n := m') (d := den) (by unfold inI; omega) (by unfold inI; omega)
  rw [ka, rS] at p1
  rw [kb, rS] at p2
  obtain ⟨x, hx⟩ := round_ok oa (by omega) ⟨g3, g4⟩
  obtain ⟨y, hy⟩ := round_ok ob (by omega) ⟨g3, g4⟩
  obtain ⟨_, _, _, ox, _⟩ := round_some hx
  obtain ⟨_, _, _, oy, _⟩ := round_some hy
  have p3 := M22_eq (a := a) (d := d) oa.inQ
  have p4 := M22_eq (a := b) (d := d) ob.inQ
  have p5 := M22_eq (a := x) (d := d) ox.inQ
  rw [hx, rS] at p3
  rw [hy, rS] at p4
  rw [round_twice hx, rS] at p5
  have c1 := M21_eq oa.inQ ob.inQ
  have c2 := M21_eq ox.inQ oy.inQ
  obtain ⟨dv, kr⟩ := round_dvd hx
  have mono := round_mono hx hy
  obtain ⟨P, R, hP, hR, u1, u2, u3, u4, u5, u6⟩ := twice_bd oa (by omega) ⟨g3, g4⟩
  generalize cmpQ a b = C at c1 mono
  generalize cmpQ x y = E at c2 mono
  have hx1 := ox.1
  have ha1 := oa.1
  have ha2 := oa.2.1
  have b1 : evBin .lss (.int .i64 x.d) (.int .i64 1) = some (.bool false) := by rw [evLss]; simp; omega
  have b2 : evBin .rem (.int .i64 d) (.int .i64 x.d) = some (.int .i64 0) := by
    simp only [evBin]
    rw [if_pos trivial, if_neg (by omega), Int.tmod_eq_zero_of_dvd dv]
  have q1 : inI (d / x.d) := by
    have e1 := Int.ediv_nonneg (a := d) (b := x.d) (by omega) (by omega)
    have e2 := Int.ediv_le_self (a := d) x.d (by omega)
    unfold inI; omega
  have b3 : evBin .quo (.int .i64 d) (.int .i64 x.d) = some (.int .i64 (d / x.d)) := by
    simp only [evBin]
    rw [if_pos trivial, if_neg (by omega), Int.tdiv_eq_ediv_of_nonneg (by omega), wrapI q1]
  have b4 : evBin .mul (.int .i64 x.n) (.int .i64 (d / x.d)) = some (.int .i64 (rnd a d)) := by
    have := evMul (x := x.n) (y := d / x.d) (by rw [kr]; unfold inI; omega)
    rwa [kr] at this
  unfold lim at ha2
  have b5 : evBin .mul (.int .i64 (rnd a d)) (.int .i64 a.d) = some (.int .i64 P) := by
    have := evMul (x := rnd a d) (y := a.d) (by rw [hP]; unfold inI; omega)
    rwa [hP] at this
  have b6 : evBin .mul (.int .i64 a.n) (.int .i64 d) = some (.int .i64 R) := by
    have := evMul (x := a.n) (y := d) (by rw [hR]; unfold inI; omega)
    rwa [hR] at this
  have b7 : evBin .sub (.int .i64 P) (.int .i64 R) = some (.int .i64 (P - R)) := evSub (by unfold inI; omega)
  have b8 : evBin .mul (.int .i64 2) (.int .i64 (P - R)) = some (.int .i64 (2 * (P - R))) := evMul (by unfold inI; omega)
  have b9 : evUn .neg (.int .i64 a.d) = some (.int .i64 (-a.d)) := by simp [evUn, wrapI (a := -a.d) (by unfold inI; omega)]
  have b10 : evBin .gtr (.int .i64 (2 * (P - R))) (.int .i64 (-a.d)) = some (.bool true) := by rw [evGtr]; simp; omega
  have b11 : evBin .leq (.int .i64 (2 * (P - R))) (.int .i64 a.d) = some (.bool true) := by rw [evLeq]; simp; omega
  generalize 2 * (P - R) = T at b8 b10 b11
  generalize P - R = D at b7 b8
  generalize d / x.d = qd at b3 b4
  generalize rnd a d = rr at b4 b5
  unfold qA at p3 p4 p5 c1 c2
  clear hP hR u1 u2 u3 u4 u5 u6 kr dv hx hy ka kb
  by_cases h : C ≤ 0
  · have b12 : evBin .gtr (.int .i64 C) (.int .i64 0) = some (.bool false) := by rw [evGtr]; simp; omega
    have b13 : evBin .leq (.int .i64 E) (.int .i64 0) = some (.bool true) := by rw [evLeq]; simp [mono h]
    simp [mf5, M12_eq, f1, f2, f3, f4, f5, f6, f7, f8, p1, p2, p3, p4, p5, c1, c2, b1, b2, b3, b4, b5, b6, b7, b8, b9, b10, b11, b12, b13, n00, -evBin, -evUn]
  · have b12 : evBin .gtr (.int .i64 C) (.int .i64 0) = some (.bool true) := by rw [evGtr]; simp; omega
    simp [mf5, M12_eq, f1, f2, f3, f4, f5, f6, f7, f8, p1, p2, p3, p4, p5, c1, b1, b2, b3, b4, b5, b6, b7, b8, b9, b10, b11, b12, n00, -evBin, -evUn]
theorem ev5L (args : List AV) (h : LawArgs Tryd.prog 8 Tryd.f5.params.toList args) : ∃ fuel, evP EX fuel mf5 1 args = some (.bool true) := by
  rw [Tryd.params5] at h
  obtain ⟨a, r, rfl, h0, h⟩ := h.cons
  obtain ⟨b, r, rfl, h1, h⟩ := h.cons
  obtain ⟨c, r, rfl, h2, h⟩ := h.cons
  obtain ⟨d, r, rfl, h3, h⟩ := h.cons
  obtain rfl := h.nil
  obtain ⟨_, rfl, _⟩ := arg_i h0
  obtain ⟨_, rfl, _⟩ := arg_i h1
  obtain ⟨_, rfl, _⟩ := arg_i h2
  obtain ⟨_, rfl, _⟩ := arg_i h3
  exact ⟨0, ev5⟩
end Rat0
end Go.Proofs.YtfplfkcgjdkdaaaDoor
/-
  Ratio: RatioText (6).
-/
namespace Go.Proofs.YtfplfkcgjdkdaaaDoor
namespace Rat0
open Go

/-- a string cut -/
def cut60 (s : List UInt8) : List UInt8 := s.take 60
theorem cut60_len (s : List UInt8) : (cut60 s).length ≤ 60 := by simp [cut60]; omega
theorem min60 (s : List UInt8) : evMinL false (.int .i64 (s.length : Int)) [.int .i64 60] = some (.int .i64 ((min s.length 60 : Nat) : Int)) := by
  have := min2_nat s.length 60 .i64 .i64
  simp only [evMinL]
  rw [show (.int .i64 60 : AV) = .int .i64 ((60 : Nat) : Int) from rfl, this]
theorem hi_nat (k : IntKind) {n len : Nat} (h : n ≤ len) : hiB len (some (.int k (n : Int))) = some n := by
  have : (n : Int) ≤ (len : Int) := by omega
  simp [hiB, this]
theorem cutS60 (s : List UInt8) : evSliceStr none (some (.int .i64 ((min s.length 60 : Nat) : Int))) (.str s) = some (.str (cut60 s)) := by
  have h : min s.length 60 ≤ s.length := by omega
  have : s.take (min s.length 60) = cut60 s := by
    rw [cut60]
    by_cases h60 : s.length ≤ 60
    · rw [Nat.min_eq_left h60, List.take_of_length_le (Nat.le_refl _), List.take_of_length_le h60]
    · rw [Nat.min_eq_right (by omega)]
  rw [← this]
  simp only [evSliceStr, evBounds, loB, hi_nat .i64 h, if_pos (Nat.zero_le _), Option.map_some, List.drop_zero, Nat.sub_zero]
theorem lenS (s : List UInt8) : evLenStr (.str s) = some (.int .i64 (s.length : Int)) := by simp [evLenStr]
theorem strNe (s t : List UInt8) : evBin .neq (.str s) (.str t) = some (.bool (!decide (s = t))) := by
  simp only [evBin, Option.some.injEq, AV.bool.injEq]
  rw [Bool.eq_iff_iff]; simp
theorem text_len {a : Q} (h : InQ a) : (text a).length ≤ 41 := by
  have h1 := itoa_len h.1
  have h2 := itoa_len h.2
  unfold text
  split <;> simp only [List.length_append, List.length_cons, List.length_nil] <;> omega
theorem clamp_ok {a b c : Q} (oa : Ok a) (ob : Ok b) (oc : Ok c) : Ok (clampQ a b c) ∧ (clampQ a b c = a ∨ clampQ a b c = b ∨ clampQ a b c = c) ∧ (cmpQ b c ≤ 0 → cmpQ b (clampQ a b c) ≤ 0 ∧ cmpQ (clampQ a b c) c ≤ 0) := by
  unfold clampQ
  rw [if_pos ⟨oa, ob, oc⟩]
  have zb : cmpQ b b = 0 := (cmp_zero ob ob).2 rfl
  have zc : cmpQ c c = 0 := (cmp_zero oc oc).2 rfl
  split
  · exact ⟨ob, .inr (.inl rfl), fun h => ⟨by omega, h⟩⟩
  · split
    · exact ⟨oc, .inr (.inr rfl), fun h => ⟨h, by omega⟩⟩
    · have := cmp_neg ob oa
      exact ⟨oa, .inl rfl, fun h => ⟨by omega, by omega⟩⟩
set_option maxRecDepth 100000 in
set_option maxHeartbeats 32000000 in
theorem ev6 {x y z : Q} (hx : InQ x) (hy : InQ y) (hz : InQ z) (s : List UInt8) : evP EX 0 mf6 1 [six x y z, .str s] = some (.bool true) := by
  rw [evP_run _ _ rfl]
  have mn := min60 s
  have sl := cutS60 s
  have ln := lenS s
  have hlen := cut60_len s
  generalize ((min s.length 60 : Nat) : Int) = M at mn sl
  generalize cut60 s = s' at sl hlen
  generalize (s.length : Int) = L at mn ln
  have z0 := M14_eq 0 0
  unfold qA at z0
  simp only at z0
  obtain ⟨q, e, t, f, pe, nt, nq, p1, p2, u1, u2, u3, u4, u5, hu⟩ : ∃ (q : Q) (e : Int) (t : List UInt8) (f : Int) (pe nt nq : Bool), M16 [.str s'] = some (.tup [.agg [.int .i64 q.n, .int .i64 q.d], .int .i64 e]) ∧ M13 [.agg [.int .i64 q.n, .int .i64 q.d]] = some (.tup [.str t, .int .i64 f]) ∧
      evBin .eql (.int .i64 e) (.int .i64 0) = some (.bool pe) ∧ evBin .eql (.int .i64 f) (.int .i64 0) = some (.bool pe) ∧ evBin .neq (.str t) (.str s') = some (.bool nt) ∧ evBin .neq (.int .i64 e) (.int .i64 0) = some (.bool (!pe)) ∧
      evEqAgg true [(0, 1), (1, 1)] (.agg [.int .i64 q.n, .int .i64 q.d]) (.agg [.int .i64 0, .int .i64 0]) = some (.bool nq) ∧ ((pe = true ∧ nt = false) ∨ (pe = false ∧ nq = false)) := by
    have p := M16_eq (s := s') (by omega)
    cases h : parseQ s' with
    | none =>
      rw [h, rN] at p
      have p2 := M13_eq inQ0
      unfold printA at p2
      rw [if_neg not_ok0] at p2
      exact ⟨⟨0, 0⟩, 30, [], 30, false, _, false, p, p2, q30, q30, strNe _ _, n30, aggNe 0 0, .inr ⟨rfl, rfl⟩⟩
    | some r =>
      rw [h, rS] at p
      obtain ⟨ok, ht⟩ := parse_iff.1 h
      have p2 := M13_eq ok.inQ
      unfold printA at p2
      rw [if_pos ok] at p2
      refine ⟨r, 0, text r, 0, true, _, _, p, p2, q00, q00, strNe _ _, n00, eqQ true r ⟨0, 0⟩, .inl ⟨rfl, ?_⟩⟩
      simp [ht]
  rcases M23_eq hx hy hz with ⟨a, b, c, m⟩ | ⟨a, b, c, oa, ob, oc, _, m⟩
  · unfold six at m ⊢
    rcases hu with ⟨rfl, rfl⟩ | ⟨rfl, rfl⟩ <;> simp [mf6, M12_eq, mn, sl, ln, z0, p1, p2, u1, u2, u3, u4, u5, m, -evBin, -evEqAgg, -evMinL, -evSliceStr, -evLenStr]
  · have t1 := M13_eq oa.inQ
    unfold printA at t1
    rw [if_pos oa] at t1
    have t2 := M16_eq (s := text a) (Nat.le_trans (text_len oa.inQ) (by omega))
    rw [parse_text oa, rS] at t2
    have t3 := M24_eq oa.inQ ob.inQ oc.inQ
    obtain ⟨ok, k1, k2⟩ := clamp_ok oa ob oc
    generalize clampQ a b c = k at t3 ok k1 k2
    have t4 := M21_eq ob.inQ oc.inQ
    have t5 := M21_eq ob.inQ ok.inQ
    have t6 := M21_eq ok.inQ oc.inQ
    generalize text a = ta at t1 t2
    generalize cmpQ b c = G at t4 k2
    generalize cmpQ b k = G1 at t5 k2
    generalize cmpQ k c = G2 at t6 k2
    obtain ⟨pg, p4, p5, v1, v2, v3, hv⟩ : ∃ pg p4 p5 : Bool, evBin .gtr (.int .i64 G) (.int .i64 0) = some (.bool pg) ∧ evBin .leq (.int .i64 G1) (.int .i64 0) = some (.bool p4) ∧ evBin .leq (.int .i64 G2) (.int .i64 0) = some (.bool p5) ∧ (pg = true ∨ (pg = false ∧ p4 = true ∧ p5 = true)) := by
      refine ⟨_, _, _, evGtr _ _, evLeq _ _, evLeq _ _, ?_⟩
      by_cases h : G ≤ 0
      · obtain ⟨h1, h2⟩ := k2 h
        exact .inr ⟨by simp; omega, by simp [h1], by simp [h2]⟩
      · exact .inl (by simp; omega)
    obtain ⟨d1, d2, d3, w1, w2, w3, hw⟩ : ∃ d1 d2 d3 : Bool, evEqAgg false [(0, 1), (1, 1)] (.agg [.int .i64 k.n, .int .i64 k.d]) (.agg [.int .i64 a.n, .int .i64 a.d]) = some (.bool d1) ∧ evEqAgg false [(0, 1), (1, 1)] (.agg [.int .i64 k.n, .int .i64 k.d]) (.agg [.int .i64 b.n, .int .i64 b.d]) = some (.bool d2) ∧
        evEqAgg false [(0, 1), (1, 1)] (.agg [.int .i64 k.n, .int .i64 k.d]) (.agg [.int .i64 c.n, .int .i64 c.d]) = some (.bool d3) ∧ (d1 = true ∨ (d1 = false ∧ d2 = true) ∨ (d1 = false ∧ d2 = false ∧ d3 = true)) := by
      refine ⟨_, _, _, eqQ false k a, eqQ false k b, eqQ false k c, ?_⟩
      simp only [Bool.false_eq_true, if_false, decide_eq_true_eq, decide_eq_false_iff_not]
      by_cases h1 : k = a
      · exact .inl h1
      · by_cases h2 : k = b
        · exact .inr (.inl ⟨h1, h2⟩)
        · exact .inr (.inr ⟨h1, h2, (k1.resolve_left h1).resolve_left h2⟩)
    unfold qA at t1 t3 t4 t5 t6
    unfold six at m ⊢
    clear k1 k2
    rcases hu with ⟨rfl, rfl⟩ | ⟨rfl, rfl⟩ <;> rcases hv with rfl | ⟨rfl, rfl, rfl⟩ <;> rcases hw with rfl | ⟨rfl, rfl⟩ | ⟨rfl, rfl, rfl⟩ <;>
      simp [mf6, M12_eq, mn, sl, ln, z0, p1, p2, u1, u2, u3, u4, u5, m, t1, t2, t3, t4, t5, t6, v1, v2, v3, w1, w2, w3, q00, aggEq, ld0, ld2, ld4, evIndexArr, -evBin, -evEqAgg, -evMinL, -evSliceStr, -evLenStr]
theorem ev6L (args : List AV) (h : LawArgs Tryd.prog 8 Tryd.f6.params.toList args) : ∃ fuel, evP EX fuel mf6 1 args = some (.bool true) := by
  rw [Tryd.params6] at h
  obtain ⟨a, r, rfl, h0, h⟩ := h.cons
  obtain ⟨b, r, rfl, h1, h⟩ := h.cons
  obtain rfl := h.nil
  obtain ⟨x, y, z, hx, hy, hz, rfl⟩ := arg_six (n := 5) h0
  obtain ⟨s, rfl, _⟩ := TA.str Tryd.underlying9 h1
  exact ⟨0, ev6 hx hy hz s⟩
end Rat0
end Go.Proofs.YtfplfkcgjdkdaaaDoor
/-
  Ratio: RatioMatchesReference (10).
-/
namespace Go.Proofs.YtfplfkcgjdkdaaaDoor
namespace Rat0
open Go

noncomputable def fsM : List (FuncId × HModel) := (28, pureH 4 M28) :: (29, pureH 4 M29) :: (30, pureH 4 M30) :: (31, pureH 4 M31) :: (33, pureH 4 M33) :: (34, pureH 4 M34) :: (35, pureH 4 M35) :: (36, pureH 4 M36) :: (37, pureH 4 M37) :: (38, pureH 4 M38) :: fsX
@[simp] theorem fsM_28 : lookM fsM 28 = some (pureH 4 M28) := rfl
@[simp] theorem fsM_29 : lookM fsM 29 = some (pureH 4 M29) := rfl
@[simp] theorem fsM_30 : lookM fsM 30 = some (pureH 4 M30) := rfl
@[simp] theorem fsM_31 : lookM fsM 31 = some (pureH 4 M31) := rfl
@[simp] theorem fsM_33 : lookM fsM 33 = some (pureH 4 M33) := rfl
@[simp] theorem fsM_34 : lookM fsM 34 = some (pureH 4 M34) := rfl
@[simp] theorem fsM_35 : lookM fsM 35 = some (pureH 4 M35) := rfl
@[simp] theorem fsM_36 : lookM fsM 36 = some (pureH 4 M36) := rfl
@[simp] theorem fsM_37 : lookM fsM 37 = some (pureH 4 M37) := rfl
@[simp] theorem fsM_38 : lookM fsM 38 = some (pureH 4 M38) := rfl
@[simp] theorem fsM_12 : lookM fsM 12 = some (pureH 4 M12) := rfl
@[simp] theorem fsM_14 : lookM fsM 14 = some (pureH 4 M14) := rfl
@[simp] theorem fsM_18 : lookM fsM 18 = some (pureH 4 M18) := rfl
@[simp] theorem fsM_19 : lookM fsM 19 = some (pureH 4 M19) := rfl
@[simp] theorem fsM_20 : lookM fsM 20 = some (pureH 4 M20) := rfl
@[simp] theorem fsM_21 : lookM fsM 21 = some (pureH 4 M21) := rfl
@[simp] theorem fsM_22 : lookM fsM 22 = some (pureH 4 M22) := rfl
@[simp] theorem fsM_24 : lookM fsM 24 = some (pureH 4 M24) := rfl
@[simp] theorem fsM_25 : lookM fsM 25 = some (pureH 4 M25) := rfl
@[simp] theorem fsM_26 : lookM fsM 26 = some (pureH 4 M26) := rfl
@[simp] theorem fsM_27 : lookM fsM 27 = some (pureH 4 M27) := rfl
@[simp] theorem fsM_32 : lookM fsM 32 = some (pureH 4 M32) := rfl
theorem soundM : ∀ f M, lookM fsM f = some M → FnSpecY Tryd.prog GR f M :=
  lookM_cons (FnSpecY.of_pure spec28 4) (lookM_cons (FnSpecY.of_pure spec29 4) (lookM_cons (FnSpecY.of_pure spec30 4) (lookM_cons (FnSpecY.of_pure spec31 4) (lookM_cons (FnSpecY.of_pure spec33 4) (lookM_cons (FnSpecY.of_pure spec34 4) (lookM_cons (FnSpecY.of_pure spec35 4) (lookM_cons (FnSpecY.of_pure spec36 4) (lookM_cons (FnSpecY.of_pure spec37 4) (lookM_cons (FnSpecY.of_pure spec38 4) soundX)))))))))
noncomputable abbrev EM : Env := envOf GR fsM

/-- a fraction's cells -/
abbrev gA (a : Q) : AV := .agg [.int .i64 a.n, .int .i64 a.d]
def four (a b : Q) : AV := .agg [.int .i64 a.n, .int .i64 a.d, .int .i64 b.n, .int .i64 b.d]
theorem fst_in {r : Option Q} (h : ∀ x, r = some x → Ok x) : InQ (fstQ r) := by
  cases r with
  | none => exact inQ0
  | some x => exact (h x rfl).inQ
/-- what the functions and their references answer at one pair -/
structure Same (a b m : Q) (d : Int) : Prop where
  f1 : M26 [gA a, gA b] = some (.tup [gA (fstQ (addQ a b)), .int .i64 (errN (addQ a b))])
  f2 : M29 [gA a, gA b] = some (.tup [gA (fstQ (addQ a b)), .int .i64 (errN (addQ a b))])
  f3 : M25 [gA a, gA b] = some (.tup [gA (fstQ (subQ a b)), .int .i64 (errN (subQ a b))])
  f4 : M30 [gA a, gA b] = some (.tup [gA (fstQ (subQ a b)), .int .i64 (errN (subQ a b))])
  f5 : M27 [gA a, gA b] = some (.tup [gA (fstQ (mulQ a b)), .int .i64 (errN (mulQ a b))])
  f6 : M31 [gA a, gA b] = some (.tup [gA (fstQ (mulQ a b)), .int .i64 (errN (mulQ a b))])
  f7 : M32 [gA a, gA b] = some (.tup [gA (fstQ (divQ a b)), .int .i64 (errN (divQ a b))])
  f8 : M33 [gA a, gA b] = some (.tup [gA (fstQ (divQ a b)), .int .i64 (errN (divQ a b))])
  f9 : M22 [gA a, .int .i64 d] = some (.tup [gA (fstQ (roundQ a d)), .int .i64 (errN (roundQ a d))])
  f10 : M34 [gA a, .int .i64 d] = some (.tup [gA (fstQ (roundQ a d)), .int .i64 (errN (roundQ a d))])
  f11 : M19 [gA a] = some (.bool (decide (Ok a)))
  f12 : M35 [gA a] = some (.bool (decide (Ok a)))
  f13 : M21 [gA a, gA b] = some (.int .i64 (cmpQ a b))
  f14 : M36 [gA a, gA b] = some (.int .i64 (cmpQ a b))
  f15 : M20 [gA a] = some (.int .i64 (floorQ a))
  f16 : M37 [gA a] = some (.int .i64 (floorQ a))
  f17 : M24 [gA a, gA b, gA m] = some (gA (clampQ a b m))
  f18 : M38 [gA a, gA b, gA m] = some (gA (clampQ a b m))
  f19 : M24 [gA m, gA a, gA b] = some (gA (clampQ m a b))
  f20 : M38 [gA m, gA a, gA b] = some (gA (clampQ m a b))
theorem same {a b m : Q} {d : Int} (ha : InQ a) (hb : InQ b) (hm : InQ m) : Same a b m d where
  f1 := (M26_eq ha hb).trans (congrArg some (resA_eq _))
  f2 := (M29_eq ha hb).trans (congrArg some (resA_eq _))
  f3 := (M25_eq ha hb).trans (congrArg some (resA_eq _))
  f4 := (M30_eq ha hb).trans (congrArg some (resA_eq _))
  f5 := (M27_eq ha hb).trans (congrArg some (resA_eq _))
  f6 := (M31_eq ha hb).trans (congrArg some (resA_eq _))
  f7 := (M32_eq ha hb).trans (congrArg some (resA_eq _))
  f8 := (M33_eq ha hb).trans (congrArg some (resA_eq _))
  f9 := (M22_eq ha).trans (congrArg some (resA_eq _))
  f10 := (M34_eq ha).trans (congrArg some (resA_eq _))
  f11 := M19_eq ha
  f12 := M35_eq ha
  f13 := M21_eq ha hb
  f14 := M36_eq ha hb
  f15 := M20_eq ha
  f16 := M37_eq ha
  f17 := M24_eq ha hb hm
  f18 := M38_eq ha hb hm
  f19 := M24_eq hm ha hb
  f20 := M38_eq hm ha hb
theorem l03 : evBin .lss (.int .i64 0) (.int .i64 3) = some (.bool true) := by simp [evBin]
theorem l13 : evBin .lss (.int .i64 1) (.int .i64 3) = some (.bool true) := by simp [evBin]
theorem l23 : evBin .lss (.int .i64 2) (.int .i64 3) = some (.bool true) := by simp [evBin]
theorem l33 : evBin .lss (.int .i64 3) (.int .i64 3) = some (.bool false) := by simp [evBin]
theorem a01 : evBin .add (.int .i64 0) (.int .i64 1) = some (.int .i64 1) := evAdd (by unfold inI; omega)
theorem a11 : evBin .add (.int .i64 1) (.int .i64 1) = some (.int .i64 2) := evAdd (by unfold inI; omega)
theorem a21 : evBin .add (.int .i64 2) (.int .i64 1) = some (.int .i64 3) := evAdd (by unfold inI; omega)
theorem ldG (e : AV) (cs : List AV) (es o sz : Nat) (h : e = .agg cs) : loadElem e es o false sz = cs[o]? := by subst h; rfl
theorem lf0 (a b c d : AV) : loadElem (.agg [a, b, c, d]) 4 0 true 2 = some (.agg [a, b]) := rfl
theorem lf2 (a b c d : AV) : loadElem (.agg [a, b, c, d]) 4 2 true 2 = some (.agg [c, d]) := rfl
theorem lfF (cs : List AV) (e o sz : Nat) : loadElem (.agg cs) e o false sz = cs[o]? := rfl
set_option maxRecDepth 100000 in
set_option maxHeartbeats 64000000 in
theorem ev10 {x y : Q} {d : Int} (hx : InQ x) (hy : InQ y) : evP EM 6 mf10 1 [four x y, .int .i64 d] = some (.bool true) := by
  rw [evP_run _ _ rfl]
  have p1 := M18_eq hx.1 hx.2
  have p2 := M28_eq hx.1 hx.2
  have p3 := M18_eq hy.1 hy.2
  have p4 := M28_eq hy.1 hy.2
  rw [resA_eq] at p1 p2 p3 p4
  have hm := fst_in (r := mkQ x.n x.d) fun _ h => (mk_ok h).2.1
  have ho := fst_in (r := mkQ y.n y.d) fun _ h => (mk_ok h).2.1
  generalize fstQ (mkQ x.n x.d) = m at p1 p2 hm
  generalize fstQ (mkQ y.n y.d) = o at p3 p4 ho
  generalize errN (mkQ x.n x.d) = e1 at p1 p2
  generalize errN (mkQ y.n y.d) = e2 at p3 p4
  have i1 := M14_eq x.n x.d
  have i2 := M14_eq y.n y.d
  unfold qA at i1 i2
  simp only at i1 i2
  obtain ⟨g1, g2, g3, g4, g5, g6, g7, g8, g9, g10, g11, g12, g13, g14, g15, g16, g17, g18, g19, g20⟩ := same (d := d) hm ho hm
  obtain ⟨h1, h2, h3, h4, h5, h6, h7, h8, h9, h10, h11, h12, h13, h14, h15, h16, h17, h18, h19, h20⟩ := same (d := d) hx hy hm
  obtain ⟨j1, j2, j3, j4, j5, j6, j7, j8, _, _, _, _, j13, j14, _, _, j17, j18, j19, j20⟩ := same (d := d) hm hy hm
  unfold four
  simp (maxSteps := 20000000) [mf10, lp10x0, M12_eq, p1, p2, p3, p4, i1, i2, g1, g2, g3, g4, g5, g6, g7, g8, g9, g10, g11, g12, g13, g14, g15, g16, g17, g18, g19, g20, h1, h2, h3, h4, h5, h6, h7, h8, h9, h10, h11, h12, h13, h14, h15, h16, h17, h18, h19, h20, j1, j2, j3, j4, j5, j6, j7, j8, j13, j14, j17, j18, j19, j20, nzz, l03, l13, l23, l33, a01, a11, a21, lf0, lf2, evIndexArr, run_loopE, iter_succ, -evBin]
set_option maxRecDepth 100000 in
theorem arg_four {n : Nat} {a : AV} (h : TA Tryd.prog (n + 3) 48 a) : ∃ x y : Q, InQ x ∧ InQ y ∧ a = four x y := by
  obtain ⟨xs, rfl, hc, _⟩ := TA.agg (by kernel_rfl) h
  simp only [TC, Tryd.underlying48] at hc
  rw [show Tryd.prog.cellsOf 3 = 1 by kernel_rfl] at hc
  simp only [TCa, Tryd.underlying3] at hc
  obtain ⟨_, _, rfl, ⟨a, rfl, ha⟩, _, _, _, rfl, ⟨b, rfl, hb⟩, _, _, _, rfl, ⟨c, rfl, hc⟩, _, _, _, rfl, ⟨d, rfl, hd⟩, _, rfl⟩ := hc
  exact ⟨⟨a, b⟩, ⟨c, d⟩, ⟨ha, hb⟩, ⟨hc, hd⟩, rfl⟩
theorem ev10L (args : List AV) (h : LawArgs Tryd.prog 8 Tryd.f10.params.toList args) : ∃ fuel, evP EM fuel mf10 1 args = some (.bool true) := by
  rw [Tryd.params10] at h
  obtain ⟨a, r, rfl, h0, h⟩ := h.cons
  obtain ⟨b, r, rfl, h1, h⟩ := h.cons
  obtain rfl := h.nil
  obtain ⟨x, y, hx, hy, rfl⟩ := arg_four (n := 5) h0
  obtain ⟨d, rfl, _⟩ := arg_i h1
  exact ⟨6, ev10 hx hy⟩
end Rat0
end Go.Proofs.YtfplfkcgjdkdaaaDoor
