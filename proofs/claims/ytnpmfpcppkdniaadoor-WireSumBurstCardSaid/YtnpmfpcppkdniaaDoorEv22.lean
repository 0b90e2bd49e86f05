/-
  The rows that 'simp' runs functions by, and numbers. Program-independent.
-/
import Derived.Test.YtnpmfpcppkdniaaDoorEv21
namespace Go.Proofs.YtnpmfpcppkdniaaDoor
open Go

attribute [simp] run_skip run_kill run_seq run_region run_block run_blk run_scope run_ret run_exit run_nil exits_nil exits_code exits_ops exits_blk exits_blk_ne run_cond_t run_cond_f run_ops_nil run_op run_op_wanted run_op_unwanted run_op_idle
  after_normal after_exit after_ret clear evStep evX evOp setVar evBin evEqBool evUn evConvInt evLoad evIndexSl evIndexStr evSliceStr evSliceSl evBounds hiB loB evExtract evLenStr evLenSl evMin2 evMinL evBox evBuildSlice evRes pack
  pureH pureM callM lookM frz scalarB noRefB flat1 AV.solid cellsOf evNilCheck evFieldAddr evPart fillA isNilA evMake evToBytes storeElem evStore

@[simp] theorem envY_call (G : Nat → Option (List AV)) (fs : List (FuncId × HModel)) (h : Handler) (f : FuncId) (a b args : List AV) (A : Arena) : (envY G fs h).call (.func (.func f) a b) args A = callM fs h (.func (.func f) a b) args A := rfl
@[simp] theorem envY_callYield (G : Nat → Option (List AV)) (fs : List (FuncId × HModel)) (h : Handler) (l : Nat) (a b args : List AV) (A : Arena) : (envY G fs h).call (.func (.yield l) a b) args A = match h (.func (.yield l) a b) args A with
  | some x => some x
  | none => callM fs h (.func (.yield l) a b) args A := rfl
@[simp] theorem envY_glob (G : Nat → Option (List AV)) (fs : List (FuncId × HModel)) (h : Handler) : (envY G fs h).glob = G := rfl
@[simp] theorem envY_hand (G : Nat → Option (List AV)) (fs : List (FuncId × HModel)) (h : Handler) : (envY G fs h).hand = h := rfl
@[simp] theorem envY_callY (G : Nat → Option (List AV)) (fs : List (FuncId × HModel)) (h : Handler) : (envY G fs h).callY = callM fs := rfl
@[simp] theorem envOf_call (G : Nat → Option (List AV)) (fs : List (FuncId × HModel)) (f : FuncId) (a b args : List AV) (A : Arena) : (envOf G fs).call (.func (.func f) a b) args A = callM fs (fun _ _ _ => none) (.func (.func f) a b) args A := rfl
@[simp] theorem envOf_glob (G : Nat → Option (List AV)) (fs : List (FuncId × HModel)) : (envOf G fs).glob = G := rfl
@[simp] theorem envOf_hand (G : Nat → Option (List AV)) (fs : List (FuncId × HModel)) : (envOf G fs).hand = fun _ _ _ => none := rfl
@[simp] theorem envOf_callY (G : Nat → Option (List AV)) (fs : List (FuncId × HModel)) : (envOf G fs).callY = callM fs := rfl

@[simp] theorem loadElem_bool (b : Bool) (esz size : Nat) : loadElem (.bool b) esz 0 false size = some (.bool b) := rfl
@[simp] theorem loadElem_int (k : IntKind) (b : Int) (esz size : Nat) : loadElem (.int k b) esz 0 false size = some (.int k b) := rfl
@[simp] theorem loadElem_str (b : List UInt8) (esz size : Nat) : loadElem (.str b) esz 0 false size = some (.str b) := rfl
@[simp] theorem loadElem_nilS (esz size : Nat) : loadElem .nilS esz 0 false size = some .nilS := rfl
@[simp] theorem loadElem_nilP (esz size : Nat) : loadElem .nilP esz 0 false size = some .nilP := rfl
@[simp] theorem loadElem_nilM (esz size : Nat) : loadElem .nilM esz 0 false size = some .nilM := rfl
@[simp] theorem loadElem_nilF (esz size : Nat) : loadElem .nilF esz 0 false size = some .nilF := rfl
@[simp] theorem loadElem_nilI (esz size : Nat) : loadElem .nilI esz 0 false size = some .nilI := rfl
@[simp] theorem loadElem_fs (a : Nat) (b : List AV) (esz size : Nat) : loadElem (.fs a b) esz 0 false size = some (.fs a b) := rfl
@[simp] theorem loadElem_sl (a b c : Nat) (esz size : Nat) : loadElem (.sl a b c) esz 0 false size = some (.sl a b c) := rfl
@[simp] theorem loadElem_ptr (a b c : Nat) (esz size : Nat) : loadElem (.ptr a b c) esz 0 false size = some (.ptr a b c) := rfl
@[simp] theorem loadElem_fp (a : List AV) (esz size : Nat) : loadElem (.fp a) esz 0 false size = some (.fp a) := rfl
@[simp] theorem loadElem_func (f : Fn) (a b : List AV) (esz size : Nat) : loadElem (.func f a b) esz 0 false size = some (.func f a b) := rfl
@[simp] theorem loadElem_map (a : Nat) (esz size : Nat) : loadElem (.map a) esz 0 false size = some (.map a) := rfl
@[simp] theorem loadElem_iface (t : TypeId) (v : AV) (esz size : Nat) : loadElem (.iface t v) esz 0 false size = some (.iface t v) := rfl
@[simp] theorem loadElem_part (cs : List AV) (esz o size : Nat) : loadElem (.agg cs) esz o false size = cs[o]? := rfl
@[simp] theorem loadElem_agg (cs : List AV) (esz : Nat) : loadElem (.agg cs) esz 0 true esz = some (.agg cs) := by unfold loadElem; simp

/-- a function without a mark: its frozen result -/
noncomputable def evP (E : Env) (fuel : Nat) (mf : MFun) (n : Nat) (args : List AV) : Option AV := (evFun E fuel mf args []).map fun x => frz x.2 n x.1

theorem evP_run {E : Env} {fuel : Nat} {n : Nat} (mf : MFun) (args : List AV) (h : args.length = mf.n) : evP E fuel mf n args = match run E fuel [.code mf.mc] (args ++ List.replicate (mf.len - mf.n) .undef) [] with
    | some (.normal σ A') => (evRes A' σ mf.res).map fun l => frz A' n (pack l)
    | some (.ret σ A') => (evRes A' σ mf.res).map fun l => frz A' n (pack l)
    | _ => none := by
  unfold evP
  rw [evFun_run mf args h]
  cases run E fuel [.code mf.mc] (args ++ List.replicate (mf.len - mf.n) .undef) [] with
  | none => rfl
  | some o => cases o with
    | normal σ A => simp [Option.map_map]; rfl
    | exit id σ A => rfl
    | ret σ A => simp [Option.map_map]; rfl

theorem PureSpec.of_ev {P : Program} {E : Env} {f : FuncId} {fn : Func} {k : Nat} {vs : List Nat} {pu : List FuncId} {hints : Hints} {mf : MFun} (hE : EnvSound P E) (hys : E.ys = []) (hf : P.funcs[f]? = some fn) (hc : compFun P fn k vs pu hints = some mf) (n : Nat) {M : PModel}
    (hM : ∀ args r, M args = some r → ∃ fuel, evP E fuel mf n args = some r) (hpu : PureIn E pu := by first | exact PureIn.nil | (repeat (first | exact PureIn.nil | refine PureIn.cons (n := _) (M := _) rfl ?_))) : PureSpec P E.glob f M :=
  PureSpec.of_fns (M' := fun fuel => evFun E fuel mf) (fun fuel => evFun_sound hE hys hf hc hpu) n fun args r h => by
    obtain ⟨fuel, h⟩ := hM args r h
    unfold evP at h
    cases h1 : evFun E fuel mf args [] with
    | none => rw [h1] at h; cases h
    | some x => rw [h1] at h; injection h with h; exact ⟨fuel, x.1, x.2, h1, h⟩

@[simp] theorem srcElems_fs (esz : Nat) (A : Arena) (es : List AV) : srcElems esz A (.fs esz es) = some es := by simp [srcElems]
@[simp] theorem srcElems_nil (esz : Nat) (A : Arena) : srcElems esz A .nilS = some [] := rfl
@[simp] theorem srcElems_str (A : Arena) (l : List UInt8) : srcElems 1 A (.str l) = some (l.map fun b => .int .u8 b.toNat) := rfl
theorem srcElems_sl {A : Arena} {id : Nat} {esz : Nat} {gr : Bool} {es : List AV} (h : A[id]? = some (.row esz gr es)) (off len : Nat) : srcElems esz A (.sl id off len) = some ((es.drop off).take len) := by simp [srcElems, h]
@[simp] theorem srcElems_new (A : Arena) (esz : Nat) (gr : Bool) (es : List AV) : srcElems esz (A ++ [Ent.row esz gr es]) (.sl A.length 0 es.length) = some es := by simp [srcElems]

/-- a slice that is all of its row, and what it holds -/
def Full (A : Arena) (o : AV) (esz : Nat) (xs : List AV) : Prop := (o = .nilS ∧ xs = []) ∨ ∃ id gr, o = .sl id 0 xs.length ∧ A[id]? = some (.row esz gr xs)

theorem Full.keep {A A' : Arena} {o : AV} {esz : Nat} {xs : List AV} (h : Full A o esz xs) (hk : ∀ id n, o = .sl id 0 n → A'[id]? = A[id]?) : Full A' o esz xs := by
  rcases h with h | ⟨id, gr, h1, h2⟩
  · exact .inl h
  · exact .inr ⟨id, gr, h1, (hk id _ h1).trans h2⟩
theorem Full.push {A : Arena} {o : AV} {esz : Nat} {xs : List AV} (h : Full A o esz xs) (e : Ent) : Full (A ++ [e]) o esz xs := by
  rcases h with h | ⟨id, gr, h1, h2⟩
  · exact .inl h
  · exact .inr ⟨id, gr, h1, by rw [List.getElem?_append_left (List.getElem?_eq_some_iff.1 h2).1]; exact h2⟩
theorem Full.src {A : Arena} {o : AV} {esz : Nat} {xs : List AV} (h : Full A o esz xs) : srcElems esz A o = some xs := by
  rcases h with ⟨rfl, rfl⟩ | ⟨id, gr, rfl, h2⟩
  · rfl
  · simp [srcElems, h2]
theorem Full.length_le {A : Arena} {esz id n : Nat} {xs : List AV} (h : Full A (.sl id 0 n) esz xs) : id < A.length ∧ n = xs.length := by
  rcases h with ⟨h, _⟩ | ⟨id', gr, h1, h2⟩
  · cases h
  · cases h1; exact ⟨(List.getElem?_eq_some_iff.1 h2).1, rfl⟩

theorem append_full {A : Arena} {o x : AV} {esz bytes : Nat} {xs ys : List AV} (h : Full A o esz xs) (hx : srcElems esz A x = some ys) (hy : ys ≠ []) (he : 0 < esz) (hb : 0 < bytes) (hs : (xs.length + ys.length) * bytes ≤ 140737488355328) :
    ∃ o' A', evAppend esz bytes A o x = some (o', A') ∧ Full A' o' esz (xs ++ ys) ∧ A.length ≤ A'.length ∧ (∀ id, id < A.length → (∀ n, o ≠ .sl id 0 n) → A'[id]? = A[id]?) := by
  have hpos : 0 < ys.length := List.length_pos_iff.2 hy
  rcases h with ⟨rfl, rfl⟩ | ⟨id, gr, rfl, h2⟩
  · refine ⟨.sl A.length 0 ys.length, A ++ [.row esz false ys], ?_, .inr ⟨A.length, false, by simp, by simp⟩, by simp, fun id hid _ => by rw [List.getElem?_append_left hid]⟩
    simp only [List.length_nil, Nat.zero_add] at hs
    unfold evAppend; rw [hx]; simp [he, hb, hs, hy]
  · refine ⟨.sl id 0 (xs.length + ys.length), A.set id (.row esz true (xs ++ ys)), ?_, .inr ⟨id, true, by simp, by simp [(List.getElem?_eq_some_iff.1 h2).1]⟩, by simp, fun k hk hne => ?_⟩
    · unfold evAppend; rw [hx]; simp [h2, he, hb, hs]
    · rw [List.getElem?_set_ne (fun e => hne _ (by rw [e]))]

/-- bytes as elements -/
def bytesA (l : List UInt8) : List AV := l.map fun b => .int .u8 b.toNat
theorem toStr_full {A : Arena} {o : AV} {l : List UInt8} (h : Full A o 1 (bytesA l)) : evToStr A o = some (.str l) := by
  have hu : ∀ l : List UInt8, u8s (bytesA l) = some (l.map fun b => (b.toNat : Int)) := u8s_bytes
  have hm : ∀ l : List UInt8, (l.map fun b => (b.toNat : Int)).map (fun n => UInt8.ofNat n.toNat) = l := fun l => by
    rw [List.map_map]; conv => rhs; rw [← List.map_id l]
    apply List.map_congr_left; intro b _; simp
  have hs := h.src
  rcases h with ⟨rfl, h2⟩ | ⟨id, gr, rfl, h2⟩
  · simp only [evToStr, hs, hu, hm, Option.map_some]
  · simp only [evToStr, hs, hu, hm, Option.map_some]

@[simp] theorem int_beq (a b : Int) : (a == b) = decide (a = b) := by
  by_cases h : a = b <;> simp [h]
@[simp] theorem int_bne (a b : Int) : (a != b) = !decide (a = b) := by
  by_cases h : a = b <;> simp [h]
@[simp] theorem nat_not_neg (n : Nat) : ((n : Int) < 0) = False := by simp
@[simp] theorem bits_i64 : IntKind.i64.bits = 64 := rfl
@[simp] theorem bits_u64 : IntKind.u64.bits = 64 := rfl
@[simp] theorem bits_u32 : IntKind.u32.bits = 32 := rfl
@[simp] theorem bits_i32 : IntKind.i32.bits = 32 := rfl
@[simp] theorem bits_u8 : IntKind.u8.bits = 8 := rfl

def inI (a : Int) : Prop := -9223372036854775808 ≤ a ∧ a ≤ 9223372036854775807
theorem wrapI {a : Int} (h : inI a) : IntKind.i64.wrap a = a := wrap_i64 h.1 h.2
theorem wrapU64 {a : Int} (h : 0 ≤ a ∧ a < 18446744073709551616) : IntKind.u64.wrap a = a := by
  unfold IntKind.wrap; simp [IntKind.signed, IntKind.bits]; omega
theorem wrapU32 {a : Int} (h : 0 ≤ a ∧ a < 4294967296) : IntKind.u32.wrap a = a := by
  unfold IntKind.wrap; simp [IntKind.signed, IntKind.bits]; omega
theorem wrapU8 {a : Int} (h : 0 ≤ a ∧ a < 256) : IntKind.u8.wrap a = a := by
  unfold IntKind.wrap; simp [IntKind.signed, IntKind.bits]; omega
end Go.Proofs.YtnpmfpcppkdniaaDoor
