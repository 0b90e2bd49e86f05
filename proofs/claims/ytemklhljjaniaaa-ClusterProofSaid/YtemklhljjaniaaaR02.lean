/-
  What the proof is built on (Ev11b to Ev17b).
-/
import Derived.Test.YtemklhljjaniaaaR01
import Derived.Laws.StructEq
import Derived.Sort.LoopGhostIn
import Derived.RangeFuncCalls
import Derived.RangeFuncNested
import Derived.OrdersIn
/-
  Literals that nobody writes, maps, structs that are compared. Program-independent.
-/
namespace Go.Proofs.Ytemklhljjaniaaa
open Go

/-- no reference into the arena, as far as two levels show -/
def reflessB1 : AV → Bool
  | .bool _ | .int .. | .str _ | .nilS | .nilP | .nilM | .nilF | .nilI | .fs .. | .fp _ => true
  | _ => false
def reflessB : AV → Bool
  | .agg cs => cs.all reflessB1
  | a => reflessB1 a

section
variable {P : Program} {w : World} {OK : Nat → Prop} {g : Ghost} {A : Arena}

theorem refless1_none {a : AV} {v : Value} (h : reflessB1 a = true) (hv : VRel w OK g v a) : VRel w OK Ghost.none v a := by
  cases a <;> simp only [reflessB1, Bool.false_eq_true] at h
  · rw [hv.inv_bool]; exact .bool _ _
  · rw [hv.inv_int]; exact .int _ _ _
  · obtain ⟨s, e, hs⟩ := hv.inv_str; rw [e]; exact .str _ _ _ hs
  · obtain ⟨p, e⟩ := hv.inv_nilS; rw [e]; exact .nilS _ _
  · rw [hv.inv_nilP]; exact .nilP _
  · rw [hv.inv_nilM]; exact .nilM _
  · cases hv; exact .nilF _
  · cases hv; exact .nilI _
  · obtain ⟨b, o, cap, T, c, fz, vals, e, h1, h2, h3, h4, h5, h6⟩ := hv.inv_fs
    rw [e]; exact .fs _ b o cap _ T c fz _ vals h1 h2 h3 h4 h5 h6
  · obtain ⟨b, o, T, c, fz, vals, e, h1, h2, h3, h4, h5⟩ := hv.inv_fp
    rw [e]; exact .fp _ b o T c fz _ vals h1 h2 h3 h4 h5
theorem refless_none {a : AV} {v : Value} (h : reflessB a = true) (hv : VRel w OK g v a) : VRel w OK Ghost.none v a := by
  cases a with
  | agg cs =>
    simp only [reflessB, List.all_eq_true] at h
    obtain ⟨vs, vals, e, h1, h2, h3⟩ := hv.inv_agg
    rw [e]
    exact .agg _ vs cs h1 vals h2 (fun i hi => refless1_none (h _ (List.getElem_mem hi)) (h3 i hi))
  | _ => exact refless1_none h hv

/-- a slice literal that nobody writes -/
def evBuildF (esz : Nat) (as_ : List AV) : Option AV :=
  if 0 < esz ∧ as_.length * esz ≤ 16777216 ∧ as_.all (fun a => a.solid && (cellsOf a).length == esz && reflessB a) = true then some (if as_.isEmpty then .nilS else .fs esz as_) else none

/-- What an operation may do; more may be frozen behind it. -/
def DoesF (P : Program) (w : World) (OK : Nat → Prop) (g : Ghost) (s : Sem Value) (r : AV) (A' : Arena) : Prop :=
  ∃ v w' OK' g', s.run P w = .ok v w' ∧ VRel w' OK' g' v r ∧ ARel w' OK' g' A' ∧ Ext w OK g w' OK' g'
theorem Does.f {s : Sem Value} {r : AV} {A' : Arena} (h : Does P w OK g s r A') : DoesF P w OK g s r A' := by
  obtain ⟨v, w', g', h⟩ := h
  exact ⟨v, w', OK, g', h⟩

theorem evBuildF_sound {t e : TypeId} {i : TypeInfo} {z : Value} {vs : List Value} {as_ : List AV} {r : AV} (ht : P.underlying t = some (.slice e)) (hi : P.info? e = some i) (hz : i.zero = some z) (hA : ARel w OK g A) (h : ListRel w OK g vs as_)
    (he : evBuildF i.size as_ = some r) : DoesF P w OK g (Instr.buildSlice t vs.length ((vs.zipIdx.map fun x => (x.2, x.1)).toArray)) r A := by
  unfold evBuildF at he
  simp only [Option.ite_none_right_eq_some, Option.some.injEq] at he
  obtain ⟨⟨hpos, hbig, hall⟩, rfl⟩ := he
  have hlen := h.length
  have hsol : ∀ k (hk : k < as_.length), as_[k].solid = true ∧ (cellsOf as_[k]).length = i.size ∧ reflessB as_[k] = true := fun k hk => by
    have := List.all_eq_true.1 hall _ (List.getElem_mem hk)
    simpa [and_assoc] using this
  have hvs : ∀ v ∈ vs, v.cells.size = i.size := fun v hv => by
    obtain ⟨k, hk, rfl⟩ := List.getElem_of_mem hv
    have hr := h.get k hk (by omega)
    rw [(hr.cells (hsol k (by omega)).1).1, (hsol k (by omega)).2.1]
  let zs : Array Value := if vs.length * i.size = 0 then #[] else z.cells
  let C0 : Array Value := (Array.range (vs.length * i.size)).map (zs[· % zs.size]!)
  obtain ⟨out, h1, h2, _, h4⟩ := fill_seq (size := i.size) vs 0 C0 hvs (by simp [C0])
  have hrun : (Instr.buildSlice t vs.length ((vs.zipIdx.map fun x => (x.2, x.1)).toArray)).run P w = .ok (.slice (some ⟨w.heap.size, 0, none⟩) vs.length vs.length) { w with heap := w.heap.push (.cells out e (0, 0)) } := by
    have c1 : ¬ (16777216 < vs.length * i.size) := by rw [hlen]; omega
    have c2 : (vs.zipIdx.map fun x => (x.2, x.1)) = (vs.zipIdx 0).map fun x => (x.2, x.1) := rfl
    rw [← c2] at h1
    unfold Instr.buildSlice
    simp only [Sem.run_bind, run_underlying' ht, Result.andThen_ok, run_sizeOf' hi, gt_iff_lt, show ((2 : Nat) ^ 24) = 16777216 from rfl, c1, if_false]
    by_cases h0 : vs.length * i.size = 0
    · have hz0 : zs = #[] := by simp [zs, h0]
      simp only [h0, if_true, Sem.run_pure, Sem.run_bind, Result.andThen_ok]
      simp only [C0, hz0, h0] at h1
      rw [h1]
      simp [newRow]
    · have hz0 : zs = z.cells := by simp only [zs, if_neg h0]
      simp only [h0, if_false, Sem.run_bind, run_zeroValue' hi hz, Result.andThen_ok, Sem.run_pure]
      simp only [C0, hz0] at h1
      rw [h1]
      simp [newRow]
  have hblk : ∀ b, b < w.heap.size → (w.heap.push (.cells out e (0, 0)))[b]? = w.heap[b]? := fun b hb => by rw [Array.getElem?_push, if_neg (by omega)]
  have hX : Ext w OK g { w with heap := w.heap.push (.cells out e (0, 0)) } (fun b => OK b ∨ b = w.heap.size) g :=
    ⟨rfl, rfl, rfl, by simp, fun b hb _ => hblk b hb, g.le_refl, fun _ h => .inl h, fun id inc h => .inl ⟨id, inc, h, rfl⟩, fun b h => by
      rcases h with h | rfl
      · exact .inl h
      · exact .inr (Nat.le_refl _), fun b r hb _ => (hblk b (Array.getElem?_eq_some_iff.1 hb).1).trans hb, fun _ _ _ _ => rfl⟩
  have hK : ARel { w with heap := w.heap.push (.cells out e (0, 0)) } (fun b => OK b ∨ b = w.heap.size) g A :=
    hA.keep (w' := { w with heap := w.heap.push (.cells out e (0, 0)) }) (by simp) hblk _ (fun b h => .inl h) (fun b h => by
      rcases h with h | rfl
      · exact .inl h
      · exact .inr (Nat.le_refl _)) (fun b h => by
      rcases h with h | rfl
      · have := hA.ok b h; simp; omega
      · simp)
  refine ⟨_, _, _, g, hrun, ?_, hK, hX⟩
  by_cases h0 : as_ = []
  · subst h0
    simp only [List.isEmpty_nil, if_true]
    have : vs.length = 0 := by simpa using hlen
    rw [this]
    exact .nilS _ _
  · rw [if_neg (by simpa using h0), hlen]
    refine .fs _ w.heap.size 0 _ i.size e out (0, 0) as_ (fun k => vs.getD k undef) (.inr rfl) (by simp) (Nat.le_refl _) (fun k hk => ?_) (fun k hk => ?_) (fun k hk j hj => ?_)
    · have hk' : k < vs.length := by omega
      have hr := refless_none (hsol k hk).2.2 (h.get k hk' hk)
      have : vs.getD k undef = vs[k] := by simp [List.getD_eq_getElem?_getD, hk']
      rw [this]
      exact hr.mono (fun b h => .inl h) (fun b hb => hblk b (hA.ok b hb)) _ (Ghost.le_refl _)
    · have hk' : k < vs.length := by omega
      have hr := h.get k hk' hk
      have : vs.getD k undef = vs[k] := by simp [List.getD_eq_getElem?_getD, hk']
      rw [this]
      exact ⟨hvs _ (List.getElem_mem _), (hr.cells (hsol k hk).1).2.1⟩
    · have hk' : k < vs.length := by omega
      have : vs.getD k undef = vs[k] := by simp [List.getD_eq_getElem?_getD, hk']
      rw [this]
      have := h4 k hk' j hj
      simpa using this

/-! ### maps whose keys are integers or strings -/

def keyEq : AV → AV → Option Bool
  | .int k a, .int k' b => if k = k' then some (a == b) else none
  | .str a, .str b => some (a == b)
  | _, _ => none
def findA (k : AV) : List (AV × AV) → Nat → Option (Option (Nat × AV))
  | [], _ => some none
  | (k', v) :: r, i => match keyEq k k' with
    | some true => some (some (i, v))
    | some false => findA k r (i + 1)
    | none => none
/-- 'make(map[K]V)' -/
def evMakeMap (A : Arena) : AV × Arena := (.map A.length, A ++ [.map []])
/-- 'm[k]' -/
def evLookup (commaOk : Bool) (z : AV) (A : Arena) : AV → AV → Option AV
  | .map id, k => match A[id]? with
    | some (.map kvs) => match findA k kvs 0 with
      | some (some (_, v)) => some (if commaOk then .tup [v, .bool true] else v)
      | some none => some (if commaOk then .tup [z, .bool false] else z)
      | none => none
    | _ => none
  | .nilM, .int _ _ => some (if commaOk then .tup [z, .bool false] else z)
  | .nilM, .str _ => some (if commaOk then .tup [z, .bool false] else z)
  | _, _ => none
/-- 'm[k] = v' -/
def evMapUpdate (A : Arena) : AV → AV → AV → Option Arena
  | .map id, k, v => match A[id]? with
    | some (.map kvs) => match findA k kvs 0 with
      | some (some (i, _)) => some (A.set id (.map (kvs.set i (k, v))))
      | some none => (match k with | .int .. => some (A.set id (.map (kvs ++ [(k, v)]))) | .str _ => some (A.set id (.map (kvs ++ [(k, v)]))) | _ => none)
      | none => none
    | _ => none
  | _, _, _ => none

theorem sameNow_keyEq {d : TypeDesc} {v v' : Value} {k k' : AV} {b : Bool} (hd : (∃ kd, d = .int kd) ∨ d = .string) (hk : ∀ kd, d = .int kd → ∃ kk n, k = .int kk n) (hks : d = .string → ∃ s, k = .str s) (h1 : VRel w OK g v k) (h2 : VRel w OK g v' k') (he : keyEq k k' = some b) : Instr.sameNow d v v' = some b := by
  rcases hd with ⟨kd, rfl⟩ | rfl
  · obtain ⟨kk, n, rfl⟩ := hk kd rfl
    cases k' <;> simp only [keyEq, reduceCtorEq] at he
    rw [h1.inv_int, h2.inv_int]
    simpa [Instr.sameNow] using he
  · obtain ⟨s, rfl⟩ := hks rfl
    cases k' <;> simp only [keyEq, reduceCtorEq] at he
    obtain ⟨s1, rfl, e1⟩ := h1.inv_str
    obtain ⟨s2, rfl, e2⟩ := h2.inv_str
    simp only [Option.some.injEq] at he
    subst he
    have h : (s1 == s2) = (s1.data.toList == s2.data.toList) := by
      have h0 : (s1 == s2) = (s1.data == s2.data) := rfl
      rw [h0]
      by_cases hs : s1.data = s2.data
      · rw [hs]; simp
      · have h1 : s1.data.toList ≠ s2.data.toList := fun h => hs (Array.toList_inj.1 h)
        rw [beq_eq_false_iff_ne.2 hs, beq_eq_false_iff_ne.2 h1]
    simp only [Instr.sameNow, h, e1, e2]

theorem findNow_sound {d : TypeDesc} {v : Value} {k : AV} (hd : (∃ kd, d = .int kd) ∨ d = .string) (hk : ∀ kd, d = .int kd → ∃ kk n, k = .int kk n) (hks : d = .string → ∃ s, k = .str s) (h1 : VRel w OK g v k) :
    ∀ (es : List MapEntry) (kvs : List (AV × AV)) (i : Nat) (r : Option (Nat × AV)), es.length = kvs.length → (∀ j (h : j < kvs.length) (h' : j < es.length), VRel w OK g (es[j]).key (kvs[j]).1 ∧ VRel w OK g (es[j]).val (kvs[j]).2) → findA k kvs i = some r →
      ∃ r', Instr.findNow d v es i = some r' ∧ match r, r' with
        | none, none => True
        | some (j, a), some (j', u) => j = j' ∧ i ≤ j ∧ VRel w OK g u a ∧ ∃ h : j - i < es.length, VRel w OK g (es[j - i]).key k
        | _, _ => False
  | [], [], i, r, _, _, hf => by
    injection hf with hf; subst hf
    exact ⟨none, rfl, trivial⟩
  | [], _ :: _, _, _, hl, _, _ => by simp at hl
  | _ :: _, [], _, _, hl, _, _ => by simp at hl
  | e :: es, (k', a) :: kvs, i, r, hl, hr, hf => by
    obtain ⟨hk0, hv0⟩ := hr 0 (by simp) (by simp)
    simp only [List.getElem_cons_zero] at hk0 hv0
    simp only [findA] at hf
    split at hf
    · rename_i hq
      injection hf with hf; subst hf
      have hs := sameNow_keyEq hd hk hks h1 hk0 hq
      refine ⟨some (i, e.val), by simp [Instr.findNow, hs], rfl, Nat.le_refl _, hv0, by simp, ?_⟩
      simp only [Nat.sub_self, List.getElem_cons_zero]
      cases k <;> cases k' <;> simp only [keyEq, reduceCtorEq, Option.ite_none_right_eq_some, Option.some.injEq, beq_iff_eq] at hq
      · obtain ⟨rfl, rfl⟩ := hq; exact hk0
      · subst hq; exact hk0
    · rename_i hq
      have hs := sameNow_keyEq hd hk hks h1 hk0 hq
      obtain ⟨r', h2, h3⟩ := findNow_sound hd hk hks h1 es kvs (i + 1) r (by simpa using hl) (fun j h h' => by
        have := hr (j + 1) (by simp; omega) (by simp; omega)
        simpa using this) hf
      refine ⟨r', by simp [Instr.findNow, hs, h2], ?_⟩
      cases r <;> cases r' <;> simp only at h3 ⊢
      obtain ⟨h3, h4, h5, h6, h7⟩ := h3
      refine ⟨h3, by omega, h5, by simp; omega, ?_⟩
      rename_i p q
      have : p.1 - i = (p.1 - (i + 1)) + 1 := by omega
      simp only [this, List.getElem_cons_succ]
      exact h7
    · cases hf

theorem keyKind {k : AV} {v : Value} (h : VRel w OK g v k) (hk : ∃ b k', keyEq k k' = some b) : (∃ kk n, k = .int kk n ∧ v = .int kk n) ∨ ∃ s b, k = .str s ∧ v = .string b := by
  obtain ⟨b, k', hk⟩ := hk
  cases k <;> simp only [keyEq, reduceCtorEq] at hk
  · exact .inl ⟨_, _, rfl, h.inv_int⟩
  · obtain ⟨s, e, _⟩ := h.inv_str
    exact .inr ⟨_, s, rfl, e⟩

theorem run_checkKey {t : TypeId} {d : TypeDesc} (ht : P.underlying t = some d) (hd : (∃ kd, d = .int kd) ∨ d = .string) (e : Bool) (v : Value) (n : Nat) : (Instr.checkKey e (n + 1) t v).run P w = .ok () w := by
  rcases hd with ⟨kd, rfl⟩ | rfl
  · simp only [Instr.checkKey, Sem.run_bind, run_underlying' ht, Result.andThen_ok]; rfl
  · simp only [Instr.checkKey, Sem.run_bind, run_underlying' ht, Result.andThen_ok]; rfl

theorem run_findKey {t : TypeId} {d : TypeDesc} (ht : P.underlying t = some d) {v : Value} {es : List MapEntry} {r : Option (Nat × Value)} (h : Instr.findNow d v es 0 = some r) : (Instr.findKey t v es).run P w = .ok r w := by
  simp only [Instr.findKey, Sem.run_bind, run_underlying' ht, Result.andThen_ok, h]; rfl

/-- a map's block -/
theorem map_block (hA : ARel w OK g A) {id : Nat} {kvs : List (AV × AV)} (hid : A[id]? = some (.map kvs)) {v : Value} (hv : VRel w OK g v (.map id)) :
    ∃ inc es clock, g id = [inc] ∧ v = .map (some inc.b) ∧ w.heap[inc.b]? = some (.map es clock) ∧ es.size = kvs.length ∧ bornOk es clock ∧
      ∀ j (h : j < kvs.length) (h' : j < es.toList.length), VRel w OK g (es.toList[j]).key (kvs[j]).1 ∧ VRel w OK g (es.toList[j]).val (kvs[j]).2 := by
  obtain ⟨inc, hinc, rfl⟩ := hv.inv_map
  obtain ⟨hlt, hrow⟩ := List.getElem?_eq_some_iff.1 hid
  have hent := hA.ent id hlt
  rw [hrow] at hent
  obtain ⟨inc', hg, es, clock, h1, h2, hst, h3⟩ := hent
  rw [hg] at hinc
  simp at hinc; subst hinc
  refine ⟨inc, es, clock, hg, rfl, h1, h2, hst, fun j h h' => ?_⟩
  obtain ⟨e, e1, e2, e3⟩ := h3 j h
  have : es.toList[j] = e := by
    have hj : j < es.size := by simpa using h'
    rw [Array.getElem?_eq_getElem hj] at e1
    simpa using e1
  rw [this]; exact ⟨e2, e3⟩

theorem evLookup_sound {t kt et : TypeId} {d : TypeDesc} {ok : Bool} {i : TypeInfo} {z : Value} {za : AV} {v1 v2 : Value} {a1 a2 r : AV} (ht : P.underlying t = some (.map kt et)) (hk : P.underlying kt = some d) (hd : (∃ kd, d = .int kd) ∨ d = .string) (hi : P.info? et = some i) (hz : i.zero = some z) (hza : VRel w OK g z za)
    (hkk : ∀ kd, d = .int kd → ∃ kk n, a2 = .int kk n) (hks : d = .string → ∃ s, a2 = .str s)
    (hA : ARel w OK g A) (h1 : VRel w OK g v1 a1) (h2 : VRel w OK g v2 a2) (he : evLookup ok za A a1 a2 = some r) : Yields' P w OK g (Instr.lookup t v1 v2 ok) r := by
  have tup : ∀ (x : Value) (a : AV) (b : Bool), VRel w OK g x a → VRel w OK g (.tuple #[x, .bool b]) (.tup [a, .bool b]) := fun x a b hx =>
    .tup _ _ _ rfl (fun i => if i = 0 then x else .bool b) (fun i hi => by
      have : i = 0 ∨ i = 1 := by simp at hi; omega
      rcases this with rfl | rfl <;> rfl) (fun i hi => by
      have : i = 0 ∨ i = 1 := by simp at hi; omega
      rcases this with rfl | rfl
      · exact hx
      · exact .bool _ _)
  have key : ∀ (es : Array MapEntry) (kvs : List (AV × AV)) (res : Option (Nat × AV)), es.size = kvs.length →
      (∀ j (h : j < kvs.length) (h' : j < es.toList.length), VRel w OK g (es.toList[j]).key (kvs[j]).1 ∧ VRel w OK g (es.toList[j]).val (kvs[j]).2) → findA a2 kvs 0 = some res →
      ∃ x, (do
        Instr.checkKey es.isEmpty 10000 kt v2
        let (v, ok') ← match ← Instr.findKey kt v2 es.toList with
          | some (_, v) => pure (v, true)
          | none => pure (← zeroValue et, false)
        pure (if ok then .tuple #[v, .bool ok'] else v) : Sem Value).run P w = .ok x w ∧ VRel w OK g x (match res with | some (_, v) => (if ok then .tup [v, .bool true] else v) | none => (if ok then .tup [za, .bool false] else za)) := by
    intro es kvs res hsz hrel hf
    obtain ⟨r', hn, hr'⟩ := findNow_sound hd hkk hks h2 es.toList kvs 0 res (by simpa using hsz) hrel hf
    cases res with
    | none =>
      cases r' with
      | some _ => exact hr'.elim
      | none =>
        refine ⟨if ok then .tuple #[z, .bool false] else z, ?_, ?_⟩
        · simp only [Sem.run_bind, run_checkKey hk hd, Result.andThen_ok, run_findKey hk hn, run_zeroValue' hi hz, Sem.run_pure]
        · cases ok
          · exact hza
          · exact tup _ _ _ hza
    | some p =>
      obtain ⟨j, a⟩ := p
      cases r' with
      | none => exact hr'.elim
      | some q =>
        obtain ⟨j', u⟩ := q
        obtain ⟨_, _, hu, _⟩ := hr'
        refine ⟨if ok then .tuple #[u, .bool true] else u, ?_, ?_⟩
        · simp only [Sem.run_bind, run_checkKey hk hd, Result.andThen_ok, run_findKey hk hn, Sem.run_pure]
        · cases ok
          · exact hu
          · exact tup _ _ _ hu
  unfold evLookup at he
  split at he
  · rename_i id
    split at he
    · rename_i kvs hid
      obtain ⟨inc, es, clock, hg, rfl, hh, hsz, hborn, hrel⟩ := map_block hA hid h1
      have hgo : (getObj inc.b).run P w = .ok (.map es clock) w := by simp [getObj, Sem.run, hh]
      cases hf : findA a2 kvs 0 with
      | none => rw [hf] at he; cases he
      | some res =>
        obtain ⟨x, hx1, hx2⟩ := key es kvs res hsz hrel hf
        refine ⟨x, ?_, ?_⟩
        · simp only [Instr.lookup, Sem.run_bind, run_underlying' ht, Result.andThen_ok, hgo, Sem.run_pure]
          simp only [Sem.run_bind] at hx1
          exact hx1
        · rw [hf] at he
          cases res with
          | none => injection he with he; rw [← he]; exact hx2
          | some p => injection he with he; rw [← he]; exact hx2
    · cases he
  · injection he with he
    obtain rfl := h1.inv_nilM
    obtain ⟨x, hx1, hx2⟩ := key #[] [] none rfl (fun j h => by simp at h) rfl
    refine ⟨x, ?_, by rw [← he]; exact hx2⟩
    simp only [Instr.lookup, Sem.run_bind, run_underlying' ht, Result.andThen_ok, Sem.run_pure]
    simp only [Sem.run_bind] at hx1
    exact hx1
  · injection he with he
    obtain rfl := h1.inv_nilM
    obtain ⟨x, hx1, hx2⟩ := key #[] [] none rfl (fun j h => by simp at h) rfl
    refine ⟨x, ?_, by rw [← he]; exact hx2⟩
    simp only [Instr.lookup, Sem.run_bind, run_underlying' ht, Result.andThen_ok, Sem.run_pure]
    simp only [Sem.run_bind] at hx1
    exact hx1
  · cases he

/-- the world with a block written over -/
def putO (w : World) (b : Nat) (o : Obj) : World := { w with heap := w.heap.setIfInBounds b o }
theorem run_setMap {b : Nat} {es : Array MapEntry} {clock : Nat} (o : Obj) (hb : w.heap[b]? = some (.map es clock)) : (setObj b o).run P w = .ok () (putO w b o) := by
  simp [setObj, Sem.run, hb, putO]

theorem bornOk_push {es : Array MapEntry} {clock : Nat} (h : bornOk es clock) (e : MapEntry) (he : e.born = clock) : bornOk (es.push e) (clock + 1) := by
  refine ⟨fun x hx => ?_, ?_⟩
  · simp only [Array.toList_push, List.mem_append, List.mem_singleton] at hx
    rcases hx with hx | rfl
    · have := h.1 x hx; omega
    · omega
  · simp only [Array.toList_push, List.map_append, List.map_cons, List.map_nil]
    rw [List.nodup_append]
    refine ⟨h.2, by simp, fun a ha b hb => ?_⟩
    obtain ⟨x, hx, rfl⟩ := List.mem_map.1 ha
    simp at hb; subst hb
    have := h.1 x hx; omega
theorem bornOk_modify {es : Array MapEntry} {clock : Nat} (h : bornOk es clock) (j : Nat) (f : MapEntry → MapEntry) (hf : ∀ e, (f e).born = e.born) : bornOk (es.modify j f) clock := by
  have e1 : (es.modify j f).toList.map (·.born) = es.toList.map (·.born) := by
    apply List.ext_getElem?
    intro i
    rw [List.getElem?_map, List.getElem?_map, Array.getElem?_toList, Array.getElem?_toList, Array.getElem?_modify]
    split
    · cases es[i]? <;> simp [hf]
    · rfl
  refine ⟨fun x hx => ?_, by rw [e1]; exact h.2⟩
  have : x.born ∈ (es.modify j f).toList.map (·.born) := List.mem_map.2 ⟨x, hx, rfl⟩
  rw [e1] at this
  obtain ⟨y, hy, hyx⟩ := List.mem_map.1 this
  rw [← hyx]; exact h.1 y hy

theorem map_turn (hA : ARel w OK g A) {id : Nat} {kvs kvs' : List (AV × AV)} (hid : A[id]? = some (.map kvs)) {inc : Inc} (hg : g id = [inc]) {es es' : Array MapEntry} {clock clock' : Nat} (hh : w.heap[inc.b]? = some (.map es clock)) (hsz : es'.size = kvs'.length) (hborn : bornOk es' clock')
    (hrel : ∀ j (h : j < kvs'.length), ∃ e, es'[j]? = some e ∧ VRel w OK g e.key (kvs'[j]).1 ∧ VRel w OK g e.val (kvs'[j]).2) :
    ARel (putO w inc.b (.map es' clock')) OK g (A.set id (.map kvs')) ∧ Ext w OK g (putO w inc.b (.map es' clock')) OK g := by
  obtain ⟨hlt, hrow⟩ := List.getElem?_eq_some_iff.1 hid
  have hb : inc.b < w.heap.size := (Array.getElem?_eq_some_iff.1 hh).1
  have hother : ∀ b, b ≠ inc.b → (putO w inc.b (.map es' clock')).heap[b]? = w.heap[b]? := fun b hb => by
    simp [putO, Array.getElem?_setIfInBounds_ne (Ne.symm hb)]
  have hself : (putO w inc.b (.map es' clock')).heap[inc.b]? = some (.map es' clock') := by
    simp [putO, hb]
  refine hA.turn (w' := putO w inc.b (.map es' clock')) id hlt (by rw [hid]; simp) inc (by rw [hg]; simp) (by simp [putO]) rfl rfl rfl hother (fun r hr => by rw [hh] at hr; cases hr) g.le_refl (fun _ _ => rfl) (fun i hi => ⟨i, hi, rfl⟩)
    (fun i i' hi hi' _ => by rw [hg] at hi hi'; simp at hi hi'; rw [hi, hi']) (.map kvs') (fun hok => ?_) (fun _ => rfl)
  refine ⟨inc, hg, es', clock', hself, hsz, hborn, fun j hj => ?_⟩
  obtain ⟨e, e1, e2, e3⟩ := hrel j hj
  exact ⟨e, e1, e2.mono (fun _ h => h) hok _ (Ghost.le_refl _), e3.mono (fun _ h => h) hok _ (Ghost.le_refl _)⟩

theorem same_of_key {k : AV} {v v' : Value} (h1 : VRel w OK g v k) (h2 : VRel w OK g v' k) (hk : (∃ kk n, k = .int kk n) ∨ ∃ s, k = .str s) : v = v' ∧ Instr.sameBits 10000 v v = true := by
  rcases hk with ⟨kk, n, rfl⟩ | ⟨s, rfl⟩
  · rw [h1.inv_int, h2.inv_int]; exact ⟨rfl, by simp [Instr.sameBits]⟩
  · obtain ⟨s1, rfl, e1⟩ := h1.inv_str
    obtain ⟨s2, rfl, e2⟩ := h2.inv_str
    have : s1 = s2 := by
      cases s1; cases s2
      congr 1
      exact Array.toList_inj.1 (e1.trans e2.symm)
    subst this
    refine ⟨rfl, ?_⟩
    have h0 : (s1 == s1) = (s1.data == s1.data) := rfl
    simp [Instr.sameBits, h0]

theorem evMapUpdate_sound {t kt et : TypeId} {d : TypeDesc} {v1 v2 v3 : Value} {a1 a2 a3 : AV} {A' : Arena} (ht : P.underlying t = some (.map kt et)) (hk : P.underlying kt = some d) (hd : (∃ kd, d = .int kd) ∨ d = .string)
    (hkk : ∀ kd, d = .int kd → ∃ kk n, a2 = .int kk n) (hks : d = .string → ∃ s, a2 = .str s)
    (hA : ARel w OK g A) (h1 : VRel w OK g v1 a1) (h2 : VRel w OK g v2 a2) (h3 : VRel w OK g v3 a3) (he : evMapUpdate A a1 a2 a3 = some A') :
    ∃ w', (Instr.mapUpdate t v1 v2 v3).run P w = .ok () w' ∧ ARel w' OK g A' ∧ Ext w OK g w' OK g := by
  have hkind : (∃ kk n, a2 = .int kk n) ∨ ∃ s, a2 = .str s := by
    rcases hd with ⟨kd, rfl⟩ | rfl
    · exact .inl (hkk kd rfl)
    · exact .inr (hks rfl)
  unfold evMapUpdate at he
  split at he
  · rename_i id
    split at he
    · rename_i kvs hid
      obtain ⟨inc, es, clock, hg, rfl, hh, hsz, hborn, hrel⟩ := map_block hA hid h1
      have hgo : (getObj inc.b).run P w = .ok (.map es clock) w := by simp [getObj, Sem.run, hh]
      cases hf : findA a2 kvs 0 with
      | none => rw [hf] at he; cases he
      | some res =>
        obtain ⟨r', hn, hr'⟩ := findNow_sound hd hkk hks h2 es.toList kvs 0 res (by simpa using hsz) hrel hf
        rw [hf] at he
        cases res with
        | none =>
          have he : some (A.set id (.map (kvs ++ [(a2, a3)]))) = some A' := by
            rcases hkind with ⟨kk, n, rfl⟩ | ⟨s, rfl⟩ <;> exact he
          injection he with he; subst he
          cases r' with
          | some _ => exact hr'.elim
          | none =>
            obtain ⟨q1, q2⟩ := map_turn (clock' := clock + 1) (kvs' := kvs ++ [(a2, a3)]) (es' := es.push { key := v2, val := v3, born := clock }) hA hid hg hh (by simp [hsz]) (bornOk_push hborn _ rfl) (fun j hj => by
              by_cases hlt : j < kvs.length
              · refine ⟨es.toList[j]'(by simpa [hsz] using hlt), ?_, ?_⟩
                · rw [Array.getElem?_push, if_neg (by omega)]
                  simp [hsz, hlt]
                · rw [List.getElem_append_left hlt]
                  exact hrel j hlt (by simpa [hsz] using hlt)
              · have : j = kvs.length := by simp at hj; omega
                subst this
                refine ⟨{ key := v2, val := v3, born := clock }, by rw [← hsz]; simp, ?_⟩
                simp only [List.getElem_concat_length]
                exact ⟨h2, h3⟩)
            refine ⟨_, ?_, q1, q2⟩
            simp only [Instr.mapUpdate, Sem.run_bind, run_underlying' ht, Result.andThen_ok, hgo, run_checkKey hk hd, run_findKey hk hn, run_setMap _ hh]
        | some p =>
          obtain ⟨j, a⟩ := p
          cases r' with
          | none => exact hr'.elim
          | some q =>
            obtain ⟨j', u⟩ := q
            obtain ⟨rfl, _, hu, hjl, hkey⟩ := hr'
            injection he with he; subst he
            simp only [Nat.sub_zero] at hjl hkey
            have hjs : j < es.size := by simpa using hjl
            obtain ⟨hsame, hbits⟩ := same_of_key h2 hkey hkind
            have hkts : (Instr.keyThatStays (((es[j]?).map (·.key)).getD v2) v2).run P w = .ok v2 w := by
              have e1 : ((es[j]?).map (·.key)).getD v2 = v2 := by
                simp only [Array.getElem?_eq_getElem hjs, Option.map_some, Option.getD_some]
                rw [hsame]; simp
              rw [e1]
              simp only [Instr.keyThatStays, hbits, if_true]; rfl
            obtain ⟨q1, q2⟩ := map_turn (clock' := clock) (kvs' := kvs.set j (a2, a3)) (es' := es.modify j fun e => { e with key := v2, val := v3 }) hA hid hg hh (by simp [hsz]) (bornOk_modify hborn _ _ (fun _ => rfl)) (fun k hk' => by
              have hk'' : k < kvs.length := by simpa using hk'
              by_cases hkj : j = k
              · subst hkj
                refine ⟨{ es[j] with key := v2, val := v3 }, by rw [Array.getElem?_eq_getElem (by simpa using hjs), Array.getElem_modify]; simp, ?_⟩
                simp only [List.getElem_set_self]
                exact ⟨h2, h3⟩
              · refine ⟨es.toList[k]'(by simpa [hsz] using hk''), ?_, ?_⟩
                · have : k < es.size := by omega
                  rw [Array.getElem?_eq_getElem (by simpa using this), Array.getElem_modify]
                  simp [hkj]
                · rw [List.getElem_set_ne hkj]
                  exact hrel k hk'' (by simpa [hsz] using hk''))
            refine ⟨_, ?_, q1, q2⟩
            simp only [Instr.mapUpdate, Sem.run_bind, run_underlying' ht, Result.andThen_ok, hgo, run_checkKey hk hd, run_findKey hk hn, hkts, run_setMap _ hh]
    · cases he
  · cases he

theorem evMakeMap_sound {t : TypeId} (hA : ARel w OK g A) : Does P w OK g (Instr.makeMap t none) (evMakeMap A).1 (evMakeMap A).2 := by
  obtain ⟨q1, q2⟩ := hA.push (w' := { w with heap := w.heap.push (.map #[] 0) }) (.map #[] 0) rfl rfl rfl rfl (.map []) ⟨w.heap.size, 0, 0, 0, 0⟩ rfl (fun g' _ _ hnew => ⟨_, rfl, #[], 0, hnew, rfl, ⟨by simp, by simp⟩, fun i h => by simp at h⟩)
  refine ⟨.map (some w.heap.size), _, _, ?_, .map _ A.length _ (Ghost.push_self _ _ _), q1, q2⟩
  simp [Instr.makeMap, newObj, Sem.run]

/-! ### structs of integers, strings and booleans, compared -/

def kindT (P : Program) (t : TypeId) : Option Nat := match P.underlying t with
  | some .bool => some 0
  | some (.int _) => some 1
  | some .string => some 2
  | _ => none
def fieldsEq (P : Program) : List Field → Option (List (Nat × Nat))
  | [] => some []
  | f :: r => match kindT P f.type, P.info? f.type, fieldsEq P r with
    | some k, some _, some l => if f.name != "_" then some ((f.offset, k) :: l) else none
    | _, _, _ => none
/-- how a struct's values are compared: the cells and their kinds -/
def structEq (P : Program) (t : TypeId) : Option (List (Nat × Nat)) := match P.underlying t with
  | some (.struct fs) => if !P.stoodInHeld t && !P.eqGuardType P.depth t then fieldsEq P fs.toList else none
  | _ => none
def eqK : Nat → AV → AV → Option Bool
  | 0, .bool a, .bool b => some (a == b)
  | 1, .int k a, .int k' b => if k = k' then some (a == b) else none
  | 2, .str a, .str b => some (a == b)
  | _, _, _ => none
def eqOffs : List (Nat × Nat) → List AV → List AV → Option Bool
  | [], _, _ => some true
  | (o, k) :: r, cs, ds => match cs[o]?, ds[o]? with
    | some a, some b => match eqK k a b, eqOffs r cs ds with
      | some x, some y => some (x && y)
      | _, _ => none
    | _, _ => none
def evEqAgg (neg : Bool) (l : List (Nat × Nat)) : AV → AV → Option AV
  | .agg cs, .agg ds => (eqOffs l cs ds).map fun b => .bool (if neg then !b else b)
  | _, _ => none

theorem eqFields_sound {xs ys : Array Value} {cs ds : List AV} (h1 : VRel w OK g (.agg xs) (.agg cs)) (h2 : VRel w OK g (.agg ys) (.agg ds)) (d : Nat) : ∀ (fs : List Field) (l : List (Nat × Nat)) (b : Bool), fieldsEq P fs = some l → eqOffs l cs ds = some b →
    (Op.eqFields (d + 1) xs ys fs).run P w = .ok b w
  | [], l, b, hf, he => by
    injection hf with hf; subst hf
    injection he with he; subst he
    rfl
  | f :: r, l, b, hf, he => by
    unfold fieldsEq at hf
    split at hf
    · rename_i k i l' hk hi hl'
      simp only [Option.ite_none_right_eq_some, Option.some.injEq, bne_iff_ne, ne_eq] at hf
      obtain ⟨hn, rfl⟩ := hf
      unfold eqOffs at he
      split at he
      · rename_i a c ha hc
        split at he
        · rename_i x y hx hy
          injection he with he; subst he
          have hagg : isAggB P f.type = some false := by
            unfold kindT at hk
            unfold isAggB
            cases hu : P.underlying f.type with
            | none => rw [hu] at hk; cases hk
            | some dd => rw [hu] at hk; cases dd <;> simp at hk ⊢
          obtain ⟨v1, p1, r1⟩ := evPart_sound (P := P) (off := f.offset) hi hagg h1 (by simpa [evPart] using ha)
          obtain ⟨v2, p2, r2⟩ := evPart_sound (P := P) (off := f.offset) hi hagg h2 (by simpa [evPart] using hc)
          simp only [asAgg, Sem.run_bind, Sem.run_pure, Result.andThen_ok] at p1 p2
          have heq : (Op.equalIn (d + 1) f.type v1 v2).run P w = .ok x w := by
            unfold kindT at hk
            split at hk <;> simp only [Option.some.injEq, reduceCtorEq] at hk <;> subst hk
            · rename_i hu
              cases a <;> cases c <;> simp only [eqK, reduceCtorEq, Option.some.injEq] at hx
              rw [r1.inv_bool, r2.inv_bool, ← hx]
              exact run_equalIn_bool' w d _ _ _ hu
            · rename_i kd hu
              cases a <;> cases c <;> simp only [eqK, reduceCtorEq, Option.ite_none_right_eq_some, Option.some.injEq] at hx
              obtain ⟨rfl, hx⟩ := hx
              rw [r1.inv_int, r2.inv_int, ← hx]
              exact run_equalIn_int w d _ _ _ _ _ hu
            · rename_i hu
              cases a <;> cases c <;> simp only [eqK, reduceCtorEq, Option.some.injEq] at hx
              obtain ⟨s1, rfl, e1⟩ := r1.inv_str
              obtain ⟨s2, rfl, e2⟩ := r2.inv_str
              rw [← hx, ← e1, ← e2, ← bytes_eq]
              exact run_equalIn_string w d _ _ _ hu
          have ih := eqFields_sound h1 h2 d r l' y hl' hy
          simp only [Op.eqFields, ne_eq, hn, not_false_eq_true, if_true, Sem.run_bind, p1, p2, Result.andThen_ok, heq]
          cases x
          · simp
          · simpa using ih
        · cases he
      · cases he
    · cases hf

theorem evEqAgg_sound {neg : Bool} {t : TypeId} {x y : Operand} {l : List (Nat × Nat)} {v1 v2 : Value} {a1 a2 r : AV} (hl : structEq P t = some l) (h1 : VRel w OK g v1 a1) (h2 : VRel w OK g v2 a2) (he : evEqAgg neg l a1 a2 = some r) :
    Yields' P w OK g (do eqGuard (if neg then .neq else .eql) t x y v1 v2; binOp (if neg then .neq else .eql) t v1 v2) r := by
  unfold structEq at hl
  split at hl
  · rename_i fs hu
    simp only [Option.ite_none_right_eq_some, Bool.and_eq_true, Bool.not_eq_true'] at hl
    obtain ⟨⟨hs, hg⟩, hl⟩ := hl
    unfold evEqAgg at he
    split at he
    · rename_i cs ds
      simp only [Option.map_eq_some_iff] at he
      obtain ⟨b, hb, rfl⟩ := he
      obtain ⟨xs, _, rfl, _⟩ := h1.inv_agg
      obtain ⟨ys, _, rfl, _⟩ := h2.inv_agg
      have hfo : P.fieldsOf t = fs := by simp [Program.fieldsOf, hu]
      have he := eqFields_sound h1 h2 9998 fs.toList l b hl hb
      have hst := run_equalIn_struct (P := P) w 9999 t xs ys (by rw [hfo]; exact hu) hs
      rw [hfo, he] at hst
      refine ⟨.bool (if neg then !b else b), ?_, .bool _ _⟩
      simp only [Sem.run_bind, run_eqGuard_agg w _ t x y xs ys hg, Result.andThen_ok]
      cases neg
      · simp only [Bool.false_eq_true, if_false, run_eql_struct, hst, Result.andThen_ok]
      · simp only [if_true, run_neq_struct, hst, Result.andThen_ok]
    · cases he
  · cases hl
end
end Go.Proofs.Ytemklhljjaniaaa
/-
  The operations in a form that names no type any more, their evaluation on trees, and that the model agrees. Program-independent.
-/
namespace Go.Proofs.Ytemklhljjaniaaa
open Go

/-- does 'append' always give a new entry, but for bytes? (a choice for the whole seat) -/
def appFresh : Bool := false
/-- are the elements no bytes? -/
def notByte (n : Nat) : Value → Bool
  | .bool _ => true
  | _ => n != 1
inductive MX where
  | var (i : Nat)
  | tmp (j : Nat)
  | cst (a : AV)
  | glob (g : Nat)
  | fn (f : FuncId)

inductive MOp where
  | mv (x : MX)
  | pick (c a b : MX)
  | bin (op : BinOp) (x y : MX)
  | eqBool (neg : Bool) (x y : MX)
  | un (op : UnOp) (x : MX)
  | convInt (k : IntKind) (x : MX)
  | same (x : MX)
  | toStr (x : MX)
  | toBytes (x : MX)
  | alloc (size : Nat) (z : AV)
  | allocArr (n esz : Nat) (z : AV)
  | box (x : MX)
  | build (zs : List AV) (parts : List (Nat × Nat × MX))
  | buildSlice (esz : Nat) (xs : List MX)
  | load (agg : Bool) (size : Nat) (p : MX)
  | store (size : Nat) (p v : MX)
  | nilCheck (x : MX)
  | fieldAddr (off : Nat) (x : MX)
  | part (agg : Bool) (off size : Nat) (x : MX)
  | indexSl (esz : Nat) (x i : MX)
  | indexArr (n s : Nat) (x i : MX)
  | indexVal (agg : Bool) (n s : Nat) (x i : MX)
  | indexStr (x i : MX)
  | sliceStr (x : MX) (lo hi : Option MX)
  | sliceSl (esz : Nat) (x : MX) (lo hi : Option MX)
  | sliceM (esz : Nat) (x : MX) (lo : Option MX) (hi mx : MX)
  | makeSlice (esz bytes : Nat) (z : AV) (l c : MX)
  | makeFunc (fn : Fn) (first cap : List MX)
  | extract (x : MX) (k : Nat)
  | lenStr (x : MX)
  | lenSl (x : MX)
  | lenMap (x : MX)
  | minmax (isMax : Bool) (x : MX) (xs : List MX)
  | append (esz bytes : Nat) (s x : MX)
  | appendN (esz bytes : Nat) (s x : MX)
  | clear (esz : Nat) (z : AV) (x : MX)
  | copy (esz : Nat) (d s : MX)
  | eqNil (kind : Nat) (neg : Bool) (x : MX)
  | call (f : MX) (args : List MX)
  | eqAgg (neg : Bool) (l : List (Nat × Nat)) (x y : MX)
  | buildF (esz : Nat) (xs : List MX)
  | makeMap
  | lookup (kd : Nat) (ok : Bool) (z : AV) (m k : MX)
  | mapUpdate (kd : Nat) (m k v : MX)

/-- a constant's tree -/
def ofCell : Value → Option AV
  | .bool b => some (.bool b)
  | .int k n => some (.int k n)
  | .string s => some (.str s.data.toList)
  | .slice none 0 0 => some .nilS
  | .pointer none => some .nilP
  | .map none => some .nilM
  | .nilFunc => some .nilF
  | .nilIface => some .nilI
  | _ => none
def ofCells : List Value → Option (List AV)
  | [] => some []
  | v :: r => match ofCell v, ofCells r with
    | some a, some l => some (a :: l)
    | _, _ => none
def ofValue : Value → Option AV
  | .agg cs => (ofCells cs.toList).map .agg
  | v => ofCell v

section
variable {P : Program} {w : World} {OK : Nat → Prop} {g : Ghost} {A : Arena}

theorem ofCell_rel {v : Value} {a : AV} (h : ofCell v = some a) : VRel w OK g v a ∧ v.oneCell' = true := by
  unfold ofCell at h
  split at h <;> simp at h <;> subst h
  · exact ⟨.bool _ _, rfl⟩
  · exact ⟨.int _ _ _, rfl⟩
  · exact ⟨.str _ _ _ rfl, rfl⟩
  · exact ⟨.nilS _ _, rfl⟩
  · exact ⟨.nilP _, rfl⟩
  · exact ⟨.nilM _, rfl⟩
  · exact ⟨.nilF _, rfl⟩
  · exact ⟨.nilI _, rfl⟩
theorem ofCells_rel : ∀ {vs : List Value} {as' : List AV}, ofCells vs = some as' → vs.length = as'.length ∧ ∀ i (h1 : i < vs.length) (h2 : i < as'.length), VRel w OK g vs[i] as'[i] ∧ (vs[i]).oneCell' = true
  | [], as', h => by injection h with h; subst h; exact ⟨rfl, fun i h1 => by simp at h1⟩
  | v :: r, as', h => by
    unfold ofCells at h
    split at h
    · rename_i a l h1 h2
      injection h with h; subst h
      obtain ⟨k1, k2⟩ := ofCells_rel (vs := r) h2
      refine ⟨by simp [k1], fun i h3 h4 => ?_⟩
      cases i with
      | zero => exact ofCell_rel h1
      | succ i => exact k2 i (by simpa using h3) (by simpa using h4)
    · cases h
theorem ofCells_cellsRel {vs : Array Value} {as' : List AV} (h : ofCells vs.toList = some as') : CellsRel w OK g vs as' := by
  obtain ⟨h1, h2⟩ := ofCells_rel (w := w) (OK := OK) (g := g) h
  refine ⟨by simpa using h1, fun i hi => ?_⟩
  have hi' : i < vs.size := by simp at h1; omega
  have := h2 i (by simpa using hi') hi
  exact ⟨vs[i], by simp [hi'], by simpa using this.2, by simpa using this.1⟩
theorem ofValue_rel {v : Value} {a : AV} (h : ofValue v = some a) : VRel w OK g v a := by
  unfold ofValue at h
  split at h
  · simp only [Option.map_eq_some_iff] at h
    obtain ⟨l, h1, rfl⟩ := h
    exact (ofCells_cellsRel h1).agg
  · exact (ofCell_rel h).1

/-- is it nil? By the kind of its type: 0 a pointer, 1 a slice, 2 a map, 3 a function, 4 an interface -/
def isNilA : Nat → AV → Option Bool
  | 0, .nilP => some true
  | 0, .ptr .. => some false
  | 0, .fp .. => some false
  | 1, .sl .. => some false
  | 1, .fs .. => some false
  | 2, .nilM => some true
  | 2, .map .. => some false
  | 3, .nilF => some true
  | 3, .func .. => some false
  | 4, .nilI => some true
  | 4, .iface .. => some false
  | _, _ => none

/-- a key: 1 an integer, 2 a string -/
def isKey : Nat → AV → Bool
  | 1, .int .. => true
  | 2, .str _ => true
  | _, _ => false
def keyKindT (P : Program) (t : TypeId) : Option Nat := match P.underlying t with
  | some (.int _) => some 1
  | some .string => some 2
  | _ => none

/-- the evaluation of an operation that is no call -/
def evOp (ρ : MX → AV) (A : Arena) : MOp → Option (AV × Arena)
  | .mv x => some (ρ x, A)
  | .pick c a b => match ρ c with
    | .bool t => some (if t then ρ a else ρ b, A)
    | _ => none
  | .bin op x y => (evBin op (ρ x) (ρ y)).map (·, A)
  | .eqBool neg x y => (evEqBool neg (ρ x) (ρ y)).map (·, A)
  | .un op x => (evUn op (ρ x)).map (·, A)
  | .convInt k x => (evConvInt k (ρ x)).map (·, A)
  | .same x => match ρ x with
    | .str s => some (.str s, A)
    | _ => none
  | .toStr x => (evToStr A (ρ x)).map (·, A)
  | .toBytes x => evToBytes A (ρ x)
  | .alloc size z => evBox size z A
  | .allocArr n esz z => evAllocArr n esz z A
  | .box x => evBox (cellsOf (ρ x)).length (ρ x) A
  | .build zs parts => (fillA zs (parts.map fun x => (x.1, x.2.1, ρ x.2.2))).map fun l => (.agg l, A)
  | .buildSlice esz xs => evBuildSlice esz (xs.map ρ) A
  | .load agg size p => (evLoad agg size A (ρ p)).map (·, A)
  | .store size p v => (evStore size A (ρ p) (ρ v)).map fun A' => (.undef, A')
  | .nilCheck x => (evNilCheck (ρ x)).map (·, A)
  | .fieldAddr off x => (evFieldAddr off A (ρ x)).map (·, A)
  | .part agg off size x => (evPart agg off size (ρ x)).map (·, A)
  | .indexSl esz x i => (evIndexSl esz A (ρ x) (ρ i)).map (·, A)
  | .indexArr n s x i => (evIndexArr n s A (ρ x) (ρ i)).map (·, A)
  | .indexVal agg n s x i => (evIndexVal agg n s (ρ x) (ρ i)).map (·, A)
  | .indexStr x i => (evIndexStr (ρ x) (ρ i)).map (·, A)
  | .sliceStr x lo hi => (evSliceStr (lo.map ρ) (hi.map ρ) (ρ x)).map (·, A)
  | .sliceSl esz x lo hi => (evSliceSl esz A (lo.map ρ) (hi.map ρ) (ρ x)).map (·, A)
  | .sliceM esz x lo hi mx => (evSliceM esz A (lo.map ρ) (ρ hi) (ρ mx) (ρ x)).map (·, A)
  | .makeSlice esz bytes z l c => evMake esz bytes z A (ρ l) (ρ c)
  | .makeFunc fn first cap => some (.func fn (first.map ρ) (cap.map ρ), A)
  | .extract x k => (evExtract k (ρ x)).map (·, A)
  | .lenStr x => (evLenStr (ρ x)).map (·, A)
  | .lenSl x => (evLenSl (ρ x)).map (·, A)
  | .lenMap x => (evLenMap A (ρ x)).map (·, A)
  | .minmax isMax x xs => (evMinL isMax (ρ x) (xs.map ρ)).map (·, A)
  | .append esz bytes s x => evAppend esz bytes A (ρ s) (ρ x)
  | .appendN esz bytes s x => evAppendN esz bytes A (ρ s) (ρ x)
  | .clear esz z x => evClear esz z A (ρ x)
  | .copy esz d s => evCopy esz A (ρ d) (ρ s)
  | .eqNil kind neg x => (isNilA kind (ρ x)).map fun b => (.bool (if neg then !b else b), A)
  | .call _ _ => none
  | .eqAgg neg l x y => (evEqAgg neg l (ρ x) (ρ y)).map (·, A)
  | .buildF esz xs => (evBuildF esz (xs.map ρ)).map (·, A)
  | .makeMap => some (evMakeMap A)
  | .lookup kd ok z m k => if isKey kd (ρ k) then (evLookup ok z A (ρ m) (ρ k)).map (·, A) else none
  | .mapUpdate kd m k v => if isKey kd (ρ k) then (evMapUpdate A (ρ m) (ρ k) (ρ v)).map fun A' => (.undef, A') else none

def cxs (cx : Operand → Option MX) : List Operand → Option (List MX)
  | [] => some []
  | x :: r => match cx x, cxs cx r with
    | some y, some l => some (y :: l)
    | _, _ => none
def cxo (cx : Operand → Option MX) : Option Operand → Option (Option MX)
  | none => some none
  | some x => (cx x).map some
def cxParts (cx : Operand → Option MX) (place : Nat → Option (Nat × Nat)) : List (Nat × Operand) → Option (List (Nat × Nat × MX))
  | [] => some []
  | (i, x) :: r => match place i, cx x, cxParts cx place r with
    | some (off, size), some y, some l => some ((off, size, y) :: l)
    | _, _, _ => none
def cxSeq (cx : Operand → Option MX) : Nat → List (Nat × Operand) → Option (List MX)
  | _, [] => some []
  | k, (i, x) :: r => if i = k then (match cx x, cxSeq cx (k + 1) r with
    | some y, some l => some (y :: l)
    | _, _ => none) else none
def fieldPlaces (P : Program) : List Field → Option (List (Nat × Nat))
  | [] => some []
  | f :: r => match P.info? f.type, fieldPlaces P r with
    | some i, some l => some ((f.offset, i.size) :: l)
    | _, _ => none
def nilConst : Nat → Value → Bool
  | 0, .pointer none => true
  | 1, .slice none 0 0 => true
  | 2, .map none => true
  | 3, .nilFunc => true
  | 4, .nilIface => true
  | _, _ => false
def nilKind : TypeDesc → Nat
  | .pointer _ => 0
  | .slice _ => 1
  | .map .. => 2
  | .func .. => 3
  | .interface _ => 4
  | _ => 5
def isIntT (P : Program) (t : TypeId) : Bool := match P.underlying t with | some (.int _) => true | some .string => true | _ => false

/-- 'fz': a slice literal is one that nobody writes -/
def compOp (P : Program) (fz : Bool) (cx : Operand → Option MX) : Op → Option MOp
  | .move x | .assign x => do some (.mv (← cx x))
  | .pick c a b => do some (.pick (← cx c) (← cx a) (← cx b))
  | .binOp op t x y _ =>
    match P.underlying t with
    | some (.int _) | some .string => do some (.bin op (← cx x) (← cx y))
    | some .bool => match op with
      | .eql => do some (.eqBool false (← cx x) (← cx y))
      | .neq => do some (.eqBool true (← cx x) (← cx y))
      | _ => none
    | some (.struct _) => match op with
      | .eql => do some (.eqAgg false (← structEq P t) (← cx x) (← cx y))
      | .neq => do some (.eqAgg true (← structEq P t) (← cx x) (← cx y))
      | _ => none
    | some d => match op, y with
      | .eql, .const v => if nilConst (nilKind d) v then do some (.eqNil (nilKind d) false (← cx x)) else none
      | .neq, .const v => if nilConst (nilKind d) v then do some (.eqNil (nilKind d) true (← cx x)) else none
      | _, _ => none
    | none => none
  | .unOp op _ x => do some (.un op (← cx x))
  | .convert s t x =>
    match P.underlying s, P.underlying t with
    | some (.int _), some (.int k) => do some (.convInt k (← cx x))
    | some .string, some .string => do some (.same (← cx x))
    | some .string, some (.slice e) => match P.underlying e with
      | some (.int .u8) => do some (.toBytes (← cx x))
      | _ => none
    | some (.slice e), some .string => match P.underlying e with
      | some (.int .u8) => do some (.toStr (← cx x))
      | _ => none
    | _, _ => none
  | .alloc t =>
    do
      let i ← P.info? t
      let z ← i.zero
      let za ← ofValue z
      some (.alloc i.size za)
  | .box _ x => do some (.box (← cx x))
  | .build t parts =>
    match P.underlying t with
    | some (.struct fields) => do
      let i ← P.info? t
      let z ← i.zero
      let zs ← ofCells z.cells.toList
      let places ← fieldPlaces P fields.toList
      some (.build zs (← cxParts cx (places[·]?) parts.toList))
    | some (.array _ e) => do
      let i ← P.info? t
      let ie ← P.info? e
      let z ← i.zero
      let zs ← ofCells z.cells.toList
      some (.build zs (← cxParts cx (fun k => some (k * ie.size, ie.size)) parts.toList))
    | _ => none
  | .buildSlice t n parts =>
    match P.underlying t with
    | some (.slice e) => do
      let ie ← P.info? e
      let _ ← ie.zero
      let xs ← cxSeq cx 0 parts.toList
      if xs.length = n then some (if fz then .buildF ie.size xs else .buildSlice ie.size xs) else none
    | _ => none
  | .load t p => do
    let i ← P.info? t
    let b ← isAggB P t
    some (.load b i.size (← cx p))
  | .store t p v => do
    let i ← P.info? t
    some (.store i.size (← cx p) (← cx v))
  | .nilCheck x => do some (.nilCheck (← cx x))
  | .fieldAddr s x k =>
    match P.underlying s with
    | some (.struct fields) => do
      let f ← fields[k]?
      let i ← P.info? f.type
      if i.size ≠ 0 then some (.fieldAddr f.offset (← cx x)) else none
    | _ => none
  | .field s x k =>
    match P.underlying s with
    | some (.struct fields) => do
      let f ← fields[k]?
      let i ← P.info? f.type
      let b ← isAggB P f.type
      some (.part b f.offset i.size (← cx x))
    | _ => none
  | .indexAddr t x k =>
    match P.underlying t with
    | some (.slice e) => do
      let i ← P.info? e
      some (.indexSl i.size (← cx x) (← cx k))
    | some (.array n e) => do
      let i ← P.info? e
      some (.indexArr n i.size (← cx x) (← cx k))
    | _ => none
  | .index t x k =>
    match P.underlying t with
    | some .string => do some (.indexStr (← cx x) (← cx k))
    | some (.array n e) => do
      let i ← P.info? e
      let b ← isAggB P e
      some (.indexVal b n i.size (← cx x) (← cx k))
    | _ => none
  | .slice t x lo hi none =>
    match P.underlying t with
    | some .string => do some (.sliceStr (← cx x) (← cxo cx lo) (← cxo cx hi))
    | some (.slice e) => do
      let i ← P.info? e
      some (.sliceSl i.size (← cx x) (← cxo cx lo) (← cxo cx hi))
    | _ => none
  | .slice t x lo (some hi) (some mx) =>
    match P.underlying t with
    | some (.slice e) => do
      let i ← P.info? e
      some (.sliceM i.size (← cx x) (← cxo cx lo) (← cx hi) (← cx mx))
    | _ => none
  | .makeSlice t l c =>
    match P.underlying t with
    | some (.slice e) => do
      let i ← P.info? e
      let z ← i.zero
      let za ← ofValue z
      if z.cells.size = i.size then some (.makeSlice i.size i.bytes za (← cx l) (← cx c)) else none
    | _ => none
  | .makeFunc fn first cap => do some (.makeFunc fn (← cxs cx first.toList) (← cxs cx cap.toList))
  | .extract x k => do some (.extract (← cx x) k)
  | .makeMap _ none => some .makeMap
  | .lookup t m k ok =>
    match P.underlying t with
    | some (.map kt et) => do
      let kd ← keyKindT P kt
      let i ← P.info? et
      let z ← i.zero
      let za ← ofValue z
      some (.lookup kd ok za (← cx m) (← cx k))
    | _ => none
  | .mapUpdate t m k v =>
    match P.underlying t with
    | some (.map kt _) => do
      let kd ← keyKindT P kt
      some (.mapUpdate kd (← cx m) (← cx k) (← cx v))
    | _ => none
  | .call c =>
    match c.callee with
    | .builtin .len =>
      match c.argTypes, c.args with
      | ⟨[t]⟩, ⟨[x]⟩ =>
        match P.underlying t with
        | some .string => do some (.lenStr (← cx x))
        | some (.slice _) => do some (.lenSl (← cx x))
        | some (.map ..) => do some (.lenMap (← cx x))
        | some (.array n _) => some (.mv (.cst (.int .i64 n)))
        | _ => none
      | _, _ => none
    | .builtin .min => match c.args with
      | ⟨x :: r⟩ => do some (.minmax false (← cx x) (← cxs cx r))
      | _ => none
    | .builtin .max => match c.args with
      | ⟨x :: r⟩ => do some (.minmax true (← cx x) (← cxs cx r))
      | _ => none
    | .builtin .append =>
      match c.argTypes, c.args with
      | ⟨[t, xt]⟩, ⟨[s, x]⟩ =>
        match P.underlying t with
        | some (.slice e) => do
          let i ← P.info? e
          let z ← i.zero
          let d ← P.underlying xt
          if z.cells.size = i.size ∧ (match d with | .slice _ => true | .string => true | _ => false) = true then do
            let y1 ← cx s
            let y2 ← cx x
            some (if (appFresh || fz) = true ∧ notByte i.bytes z = true then .appendN i.size i.bytes y1 y2 else .append i.size i.bytes y1 y2)
          else none
        | _ => none
      | _, _ => none
    | .builtin .clear =>
      match c.argTypes, c.args with
      | ⟨[t]⟩, ⟨[x]⟩ =>
        match P.underlying t with
        | some (.slice e) => do
          let i ← P.info? e
          let z ← i.zero
          let za ← ofValue z
          if z.cells.size = i.size then some (.clear i.size za (← cx x)) else none
        | _ => none
      | _, _ => none
    | .builtin .copy =>
      match c.argTypes, c.args with
      | ⟨[t, _]⟩, ⟨[d, s]⟩ =>
        match P.underlying t with
        | some (.slice e) => do
          let i ← P.info? e
          some (.copy i.size (← cx d) (← cx s))
        | _ => none
      | _, _ => none
    | .value f => do some (.call (← cx f) (← cxs cx c.args.toList))
    | _ => none
  | _ => none
end
end Go.Proofs.Ytemklhljjaniaaa
/-
  The evaluation of an operation is sound. Program-independent.
-/
namespace Go.Proofs.Ytemklhljjaniaaa
open Go
section
variable {P : Program} {w : World} {OK : Nat → Prop} {g : Ghost} {A : Arena}

/-- What carrying out an operation leaves. -/
def OpDoes (_P : Program) (w : World) (OK : Nat → Prop) (g : Ghost) (res : Result Next) (r : AV) (A' : Arena) : Prop :=
  ∃ v w' OK' g', (res = .ok (.value v) w' ∨ (res = .ok .skip w' ∧ v = undef)) ∧ VRel w' OK' g' v r ∧ ARel w' OK' g' A' ∧ Ext w OK g w' OK' g'

theorem Does.op {s : Sem Value} {r : AV} {A' : Arena} (h : Does P w OK g s r A') : OpDoes P w OK g ((do pure (.value (← s)) : Sem Next).run P w) r A' := by
  obtain ⟨v, w', g', h1, h2, h3, h4⟩ := h
  exact ⟨v, w', OK, g', .inl (by simp [h1]), h2, h3, h4⟩
theorem DoesF.op {s : Sem Value} {r : AV} {A' : Arena} (h : DoesF P w OK g s r A') : OpDoes P w OK g ((do pure (.value (← s)) : Sem Next).run P w) r A' := by
  obtain ⟨v, w', OK', g', h1, h2, h3, h4⟩ := h
  exact ⟨v, w', OK', g', .inl (by simp [h1]), h2, h3, h4⟩
theorem Yields'.op {s : Sem Value} {r : AV} (h : Yields' P w OK g s r) (hA : ARel w OK g A) : OpDoes P w OK g ((do pure (.value (← s)) : Sem Next).run P w) r A := (h.does hA).op
theorem OpDoes.val {v : Value} {r : AV} (h : VRel w OK g v r) (hA : ARel w OK g A) : OpDoes P w OK g (.ok (.value v) w) r A := ⟨v, w, OK, g, .inl rfl, h, hA, Ext.refl _ _ _⟩

variable {cx : Operand → Option MX} {ρc : Operand → Value} {ρ : MX → AV}

theorem cxs_rel (hx : ∀ x y, cx x = some y → VRel w OK g (ρc x) (ρ y)) : ∀ {xs : List Operand} {ys : List MX}, cxs cx xs = some ys → ListRel w OK g (xs.map ρc) (ys.map ρ)
  | [], ys, h => by injection h with h; subst h; trivial
  | x :: r, ys, h => by
    unfold cxs at h
    split at h
    · rename_i y l h1 h2
      injection h with h; subst h
      exact ⟨hx _ _ h1, cxs_rel hx h2⟩
    · cases h
theorem cxo_rel (hx : ∀ x y, cx x = some y → VRel w OK g (ρc x) (ρ y)) {x : Option Operand} {y : Option MX} (h : cxo cx x = some y) : ORel w OK g (x.map ρc) (y.map ρ) := by
  cases x with
  | none => simp [cxo] at h; subst h; trivial
  | some x =>
    simp only [cxo, Option.map_eq_some_iff] at h
    obtain ⟨z, h1, rfl⟩ := h
    exact hx _ _ h1
theorem cxParts_rel (hx : ∀ x y, cx x = some y → VRel w OK g (ρc x) (ρ y)) {place : Nat → Option (Nat × Nat)} : ∀ {xs : List (Nat × Operand)} {ys : List (Nat × Nat × MX)}, cxParts cx place xs = some ys →
    PartsRel w OK g place (xs.map fun x => (x.1, ρc x.2)) (ys.map fun y => (y.1, y.2.1, ρ y.2.2))
  | [], ys, h => by injection h with h; subst h; trivial
  | (i, x) :: r, ys, h => by
    unfold cxParts at h
    split at h
    · rename_i off size y l h1 h2 h3
      injection h with h; subst h
      exact ⟨h1, hx _ _ h2, cxParts_rel hx h3⟩
    · cases h
theorem cxSeq_rel (hx : ∀ x y, cx x = some y → VRel w OK g (ρc x) (ρ y)) : ∀ {k : Nat} {xs : List (Nat × Operand)} {ys : List MX}, cxSeq cx k xs = some ys →
    ∃ vs : List Value, (xs.map fun x => (x.1, ρc x.2)) = (vs.zipIdx k).map (fun x => (x.2, x.1)) ∧ ListRel w OK g vs (ys.map ρ) ∧ vs.length = ys.length
  | k, [], ys, h => by injection h with h; subst h; exact ⟨[], rfl, trivial, rfl⟩
  | k, (i, x) :: r, ys, h => by
    unfold cxSeq at h
    split at h
    · rename_i hk
      subst hk
      split at h
      · rename_i y l h1 h2
        injection h with h; subst h
        obtain ⟨vs, k1, k2, k3⟩ := cxSeq_rel hx h2
        exact ⟨ρc x :: vs, by simp [k1], ⟨hx _ _ h1, k2⟩, by simp [k3]⟩
      · cases h
    · cases h
theorem fieldPlaces_run : ∀ {fs : List Field} {ps : List (Nat × Nat)}, fieldPlaces P fs = some ps → ∀ w : World, (fs.mapM fun f => do pure (f.offset, ← sizeOf f.type) : Sem (List (Nat × Nat))).run P w = .ok ps w
  | [], ps, h, w => by injection h with h; subst h; rfl
  | f :: r, ps, h, w => by
    unfold fieldPlaces at h
    split at h
    · rename_i i l h1 h2
      injection h with h; subst h
      have ih := fieldPlaces_run h2 w
      simp [List.mapM_cons, run_sizeOf' h1] at ih ⊢
      rw [ih]; rfl
    · cases h
theorem fieldPlaces_runA {fs : Array Field} {ps : List (Nat × Nat)} (h : fieldPlaces P fs.toList = some ps) (w : World) : (fs.mapM fun f => do pure (f.offset, ← sizeOf f.type) : Sem (Array (Nat × Nat))).run P w = .ok ps.toArray w := by
  rw [Array.mapM_eq_mapM_toList, Sem.run_map]
  rw [fieldPlaces_run h w]
  rfl

set_option maxHeartbeats 1000000 in
/-- two values of which one is nil -/
theorem eq_nil_sound {neg : Bool} {t : TypeId} {d : TypeDesc} {x : Operand} {v c : Value} {a : AV} {b : Bool} (ht : P.underlying t = some d) (hcn : nilConst (nilKind d) c = true) (h : VRel w OK g v a) (hb : isNilA (nilKind d) a = some b) :
    (do eqGuard (if neg then .neq else .eql) t x (.const c) v c; binOp (if neg then .neq else .eql) t v c : Sem Value).run P w = .ok (.bool (if neg then !b else b)) w := by
  have fin : (Op.equalIn (9999 + 1) t v c).run P w = .ok b w → (eqGuard (if neg then .neq else .eql) t x (.const c) v c).run P w = .ok () w →
      (binOp .eql t v c = (do pure (.bool (← Op.equal t v c)))) → (binOp .neq t v c = (do pure (.bool (!(← Op.equal t v c))))) →
      (do eqGuard (if neg then .neq else .eql) t x (.const c) v c; binOp (if neg then .neq else .eql) t v c : Sem Value).run P w = .ok (.bool (if neg then !b else b)) w := by
    intro h1 h2 h3 h4
    have h1' : (Op.equal t v c).run P w = .ok b w := h1
    rw [Sem.run_bind, h2, Result.andThen_ok]
    cases neg
    · simp only [Bool.false_eq_true, if_false]
      rw [h3]
      simp [h1']
    · simp only [if_true]
      rw [h4]
      simp [h1']
  cases d <;> simp only [nilKind] at hcn hb <;> (try (cases c <;> simp [nilConst] at hcn; done))
  case pointer e =>
    obtain rfl : c = .pointer none := by
      cases c with
      | pointer p => cases p <;> simp [nilConst] at hcn; rfl
      | _ => simp [nilConst] at hcn
    cases a <;> simp only [isNilA, Option.some.injEq, reduceCtorEq] at hb <;> subst hb
    · obtain rfl := h.inv_nilP
      exact fin (by rw [Op.equalIn]; simp [run_underlying' ht]) (by cases neg <;> simp [eqGuard]) rfl rfl
    · obtain ⟨inc, _, rfl, _⟩ := h.inv_ptr
      exact fin (by rw [Op.equalIn]; simp [run_underlying' ht]) (by cases neg <;> simp [eqGuard]) rfl rfl
    · obtain ⟨b, o, T, c, fz, vals, rfl, _⟩ := h.inv_fp
      exact fin (by rw [Op.equalIn]; simp [run_underlying' ht]) (by cases neg <;> simp [eqGuard]) rfl rfl
  case slice e =>
    obtain rfl : c = .slice none 0 0 := by
      cases c with
      | slice p n k =>
        unfold nilConst at hcn
        split at hcn <;> simp_all
      | _ => simp [nilConst] at hcn
    cases a <;> simp only [isNilA, Option.some.injEq, reduceCtorEq] at hb <;> subst hb
    · obtain ⟨b, o, cap, T, c, fz, vals, rfl, _⟩ := h.inv_fs
      exact fin (by rw [Op.equalIn]; simp [run_underlying' ht]) (by cases neg <;> simp [eqGuard]) rfl rfl
    · obtain ⟨inc, cap, ao, _, rfl, _⟩ := h.inv_sl
      exact fin (by rw [Op.equalIn]; simp [run_underlying' ht]) (by cases neg <;> simp [eqGuard]) rfl rfl
  case map k e =>
    obtain rfl : c = .map none := by
      cases c with
      | map p => cases p <;> simp [nilConst] at hcn; rfl
      | _ => simp [nilConst] at hcn
    cases a <;> simp only [isNilA, Option.some.injEq, reduceCtorEq] at hb <;> subst hb
    · obtain rfl := h.inv_nilM
      exact fin (by rw [Op.equalIn]; simp [run_underlying' ht]) (by cases neg <;> simp [eqGuard]) rfl rfl
    · obtain ⟨inc, _, rfl⟩ := h.inv_map
      exact fin (by rw [Op.equalIn]; simp [run_underlying' ht]) (by cases neg <;> simp [eqGuard]) rfl rfl
  case func p r vv =>
    obtain rfl : c = .nilFunc := by cases c <;> simp [nilConst] at hcn; rfl
    cases a <;> simp only [isNilA, Option.some.injEq, reduceCtorEq] at hb <;> subst hb
    · cases h
      exact fin (by rw [Op.equalIn]; simp [run_underlying' ht]) (by cases neg <;> simp [eqGuard]) rfl rfl
    · obtain ⟨vs1, vs2, v1, v2, rfl, _⟩ := h.inv_func
      exact fin (by rw [Op.equalIn]; simp [run_underlying' ht]) (by cases neg <;> simp [eqGuard]) rfl rfl
  case interface ms =>
    obtain rfl : c = .nilIface := by cases c <;> simp [nilConst] at hcn; rfl
    cases a <;> simp only [isNilA, Option.some.injEq, reduceCtorEq] at hb <;> subst hb
    · cases h
      exact fin (by rw [Op.equalIn]; simp [run_underlying' ht]) (by cases neg <;> simp [eqGuard]) rfl rfl
    · cases h
      exact fin (by rw [Op.equalIn]; simp [run_underlying' ht]) (by cases neg <;> simp [eqGuard]) rfl rfl

theorem evOp_pure {s : Sem Value} {e : Option AV} {r : AV} {A' : Arena} (hA : ARel w OK g A) (he : e.map (fun r => (r, A)) = some (r, A')) (hs : ∀ r, e = some r → Yields' P w OK g s r) :
    OpDoes P w OK g ((do pure (.value (← s)) : Sem Next).run P w) r A' := by
  simp only [Option.map_eq_some_iff, Prod.mk.injEq] at he
  obtain ⟨r', h1, rfl, rfl⟩ := he
  exact (hs _ h1).op hA

theorem keyKind_spec {kt : TypeId} {kd : Nat} {a : AV} (h : keyKindT P kt = some kd) (hk : isKey kd a = true) :
    ∃ d, P.underlying kt = some d ∧ ((∃ k, d = .int k) ∨ d = .string) ∧ (∀ k, d = .int k → ∃ kk n, a = .int kk n) ∧ (d = .string → ∃ s, a = .str s) := by
  unfold keyKindT at h
  split at h
  · rename_i k hu
    injection h with h; subst h
    refine ⟨_, hu, .inl ⟨k, rfl⟩, fun _ _ => ?_, fun h => by cases h⟩
    cases a <;> simp [isKey] at hk
    exact ⟨_, _, rfl⟩
  · rename_i hu
    injection h with h; subst h
    refine ⟨_, hu, .inr rfl, fun k h => (by cases h), fun _ => ?_⟩
    cases a <;> simp [isKey] at hk
    exact ⟨_, rfl⟩
  · cases h

set_option maxHeartbeats 2000000 in
theorem evOp_sound {fz : Bool} {o : Oper} {m : MOp} {r : AV} {A' : Arena} (hcst : ∀ v, ρc (.const v) = v) (hρ : ∀ a, ρ (.cst a) = a) (hx : ∀ x y, cx x = some y → VRel w OK g (ρc x) (ρ y)) (hA : ARel w OK g A) (hc : compOp P fz cx o.op = some m) (he : evOp ρ A m = some (r, A')) :
    OpDoes P w OK g ((execOp ρc o).run P w) r A' := by
  obtain ⟨dst, op, type, pos, after, guard⟩ := o
  cases op with
  | move x | assign x =>
    simp only [compOp, Option.bind_eq_bind, Option.bind_eq_some_iff, Option.some.injEq] at hc
    obtain ⟨y, h1, rfl⟩ := hc
    simp only [evOp, Option.some.injEq, Prod.mk.injEq] at he
    obtain ⟨rfl, rfl⟩ := he
    exact OpDoes.val (hx _ _ h1) hA
  | pick c a b =>
    simp only [compOp, Option.bind_eq_bind, Option.bind_eq_some_iff, Option.some.injEq] at hc
    obtain ⟨c', h1, a', h2, b', h3, rfl⟩ := hc
    simp only [evOp] at he
    split at he
    · rename_i t ht
      simp only [Option.some.injEq, Prod.mk.injEq] at he
      obtain ⟨rfl, rfl⟩ := he
      have hcv := hx _ _ h1
      rw [ht] at hcv
      have e := hcv.inv_bool
      simp only [execOp, e, asBool, Sem.run_bind, Sem.run_pure, Result.andThen_ok]
      cases t
      · exact OpDoes.val (hx _ _ h3) hA
      · exact OpDoes.val (hx _ _ h2) hA
    · cases he
  | binOp op t x y yt =>
    simp only [compOp] at hc
    have bin : ∀ x' y', cx x = some x' → cx y = some y' → m = .bin op x' y' → OpDoes P w OK g ((execOp ρc ⟨dst, .binOp op t x y yt, type, pos, after, guard⟩).run P w) r A' := by
      rintro x' y' h1 h2 rfl
      exact evOp_pure hA he (fun r h => evBin_sound (hx _ _ h1) (hx _ _ h2) h)
    split at hc
    · simp only [Option.bind_eq_bind, Option.bind_eq_some_iff, Option.some.injEq] at hc
      obtain ⟨x', h1, y', h2, rfl⟩ := hc
      exact bin _ _ h1 h2 rfl
    · simp only [Option.bind_eq_bind, Option.bind_eq_some_iff, Option.some.injEq] at hc
      obtain ⟨x', h1, y', h2, rfl⟩ := hc
      exact bin _ _ h1 h2 rfl
    · rename_i ht
      split at hc
      · simp only [Option.bind_eq_bind, Option.bind_eq_some_iff, Option.some.injEq] at hc
        obtain ⟨x', h1, y', h2, rfl⟩ := hc
        exact evOp_pure hA he (fun r h => evEqBool_sound ht (hx _ _ h1) (hx _ _ h2) h)
      · simp only [Option.bind_eq_bind, Option.bind_eq_some_iff, Option.some.injEq] at hc
        obtain ⟨x', h1, y', h2, rfl⟩ := hc
        exact evOp_pure hA he (fun r h => evEqBool_sound ht (hx _ _ h1) (hx _ _ h2) h)
      · cases hc
    · split at hc
      · simp only [Option.bind_eq_bind, Option.bind_eq_some_iff, Option.some.injEq] at hc
        obtain ⟨l, hl, x', h1, y', h2, rfl⟩ := hc
        exact evOp_pure hA he (fun r h => evEqAgg_sound (neg := false) hl (hx _ _ h1) (hx _ _ h2) h)
      · simp only [Option.bind_eq_bind, Option.bind_eq_some_iff, Option.some.injEq] at hc
        obtain ⟨l, hl, x', h1, y', h2, rfl⟩ := hc
        exact evOp_pure hA he (fun r h => evEqAgg_sound (neg := true) hl (hx _ _ h1) (hx _ _ h2) h)
      · cases hc
    · rename_i d h1 h2 h3 h4 ht
      have fin : ∀ (neg : Bool) v, y = .const v → op = (if neg then .neq else .eql) → (if nilConst (nilKind d) v then do some (.eqNil (nilKind d) neg (← cx x)) else none) = some m → OpDoes P w OK g ((execOp ρc ⟨dst, .binOp op t x y yt, type, pos, after, guard⟩).run P w) r A' := by
        rintro neg v rfl rfl hc
        simp only [Option.bind_eq_bind, Option.bind_eq_some_iff, Option.ite_none_right_eq_some, Option.some.injEq] at hc
        obtain ⟨hn, x', h1, rfl⟩ := hc
        simp only [evOp, Option.map_eq_some_iff, Prod.mk.injEq] at he
        obtain ⟨b, hb, rfl, rfl⟩ := he
        have hk : ρc (.const v) = v := hcst v
        have := eq_nil_sound (neg := neg) (x := x) ht hn (hx _ _ h1) hb
        refine Yields'.op ⟨_, ?_, .bool _ _⟩ hA
        rw [hk]; exact this
      split at hc
      · exact fin false _ rfl rfl hc
      · exact fin true _ rfl rfl hc
      · cases hc
    · cases hc
  | unOp op t x =>
    simp only [compOp, Option.bind_eq_bind, Option.bind_eq_some_iff, Option.some.injEq] at hc
    obtain ⟨y, h1, rfl⟩ := hc
    exact evOp_pure hA he (fun r h => evUn_sound (hx _ _ h1) h)
  | convert s t x =>
    simp only [compOp] at hc
    split at hc
    · rename_i k1 k hs ht
      simp only [Option.bind_eq_bind, Option.bind_eq_some_iff, Option.some.injEq] at hc
      obtain ⟨y, h1, rfl⟩ := hc
      exact evOp_pure hA he (fun r h => evConvInt_sound hs ht (hx _ _ h1) h)
    · rename_i hs ht
      simp only [Option.bind_eq_bind, Option.bind_eq_some_iff, Option.some.injEq] at hc
      obtain ⟨y, h1, rfl⟩ := hc
      simp only [evOp] at he
      split at he
      · rename_i l hl
        simp only [Option.some.injEq, Prod.mk.injEq] at he
        obtain ⟨rfl, rfl⟩ := he
        have := hx _ _ h1
        rw [hl] at this
        obtain ⟨s', e, hs'⟩ := this.inv_str
        refine ⟨.string s', w, OK, g, .inl ?_, .str _ _ _ hs', hA, Ext.refl _ _ _⟩
        simp [execOp, e, convert, run_underlying' hs, run_underlying' ht]
      · cases he
    · rename_i e hs ht
      split at hc
      · rename_i he'
        simp only [Option.bind_eq_bind, Option.bind_eq_some_iff, Option.some.injEq] at hc
        obtain ⟨y, h1, rfl⟩ := hc
        exact (evToBytes_sound hs ht he' hA (hx _ _ h1) he).op
      · cases hc
    · rename_i e hs ht
      split at hc
      · rename_i he'
        simp only [Option.bind_eq_bind, Option.bind_eq_some_iff, Option.some.injEq] at hc
        obtain ⟨y, h1, rfl⟩ := hc
        exact evOp_pure hA he (fun r h => evToStr_sound hs he' ht hA (hx _ _ h1) h)
      · cases hc
    · cases hc
  | alloc t =>
    simp only [compOp, Option.bind_eq_bind, Option.bind_eq_some_iff, Option.some.injEq] at hc
    obtain ⟨i, hi, z, hz, za, hza, rfl⟩ := hc
    exact (evAlloc_sound hi hz hA (ofValue_rel hza) he).op
  | box t x =>
    simp only [compOp, Option.bind_eq_bind, Option.bind_eq_some_iff, Option.some.injEq] at hc
    obtain ⟨y, h1, rfl⟩ := hc
    exact (evBox_sound hA (hx _ _ h1) he).op
  | build t parts =>
    simp only [compOp] at hc
    split at hc
    · rename_i fields ht
      simp only [Option.bind_eq_bind, Option.bind_eq_some_iff, Option.some.injEq] at hc
      obtain ⟨i, hi, z, hz, zs, hzs, places, hpl, ps, hps, rfl⟩ := hc
      simp only [evOp, Option.map_eq_some_iff, Prod.mk.injEq] at he
      obtain ⟨l, hl, rfl, rfl⟩ := he
      refine (evBuildStruct_sound ht hi hz (ofCells_cellsRel hzs) places.toArray (fun w => fieldPlaces_runA hpl w) ?_ hl).op hA
      have := cxParts_rel hx hps
      simpa using this
    · rename_i n e ht
      simp only [Option.bind_eq_bind, Option.bind_eq_some_iff, Option.some.injEq] at hc
      obtain ⟨i, hi, ie, hie, z, hz, zs, hzs, ps, hps, rfl⟩ := hc
      simp only [evOp, Option.map_eq_some_iff, Prod.mk.injEq] at he
      obtain ⟨l, hl, rfl, rfl⟩ := he
      refine (evBuildArr_sound ht hi hz hie (ofCells_cellsRel hzs) ?_ hl).op hA
      have := cxParts_rel hx hps
      simpa using this
    · cases hc
  | buildSlice t n parts =>
    simp only [compOp] at hc
    split at hc
    · rename_i e ht
      simp only [Option.bind_eq_bind, Option.bind_eq_some_iff, Option.ite_none_right_eq_some, Option.some.injEq] at hc
      obtain ⟨ie, hie, z, hz, xs, hxs, hn, rfl⟩ := hc
      obtain ⟨vs, h1, h2, h3⟩ := cxSeq_rel hx hxs
      have : OpDoes P w OK g ((do pure (.value (← Instr.buildSlice t vs.length ((vs.zipIdx.map fun x => (x.2, x.1)).toArray))) : Sem Next).run P w) r A' := by
        cases fz
        · exact (evBuildSlice_sound ht hie hz hA h2 he).op
        · simp only [if_true, evOp, Option.map_eq_some_iff, Prod.mk.injEq] at he
          obtain ⟨r', he, rfl, rfl⟩ := he
          exact (evBuildF_sound ht hie hz hA h2 he).op
      have e1 : (parts.map fun x => (x.1, ρc x.2)) = ((vs.zipIdx.map fun x => (x.2, x.1)).toArray) := by
        apply Array.ext'
        simpa using h1
      rw [← e1, show vs.length = n by omega] at this
      exact this
    · cases hc
  | load t p =>
    simp only [compOp, Option.bind_eq_bind, Option.bind_eq_some_iff, Option.some.injEq] at hc
    obtain ⟨i, hi, b, hb, y, h1, rfl⟩ := hc
    exact evOp_pure hA he (fun r h => evLoad_sound hi hb hA (hx _ _ h1) h)
  | store t p v =>
    simp only [compOp, Option.bind_eq_bind, Option.bind_eq_some_iff, Option.some.injEq] at hc
    obtain ⟨i, hi, y, h1, z, h2, rfl⟩ := hc
    simp only [evOp, Option.map_eq_some_iff, Prod.mk.injEq] at he
    obtain ⟨A1, hst, rfl, rfl⟩ := he
    obtain ⟨w', q1, q2, q3⟩ := evStore_sound (P := P) hi hA (hx _ _ h1) (hx _ _ h2) hst
    exact ⟨undef, w', OK, g, .inr ⟨by simp [execOp, q1], rfl⟩, .undef _ _, q2, q3⟩
  | nilCheck x =>
    simp only [compOp, Option.bind_eq_bind, Option.bind_eq_some_iff, Option.some.injEq] at hc
    obtain ⟨y, h1, rfl⟩ := hc
    simp only [evOp, Option.map_eq_some_iff, Prod.mk.injEq] at he
    obtain ⟨r', h2, rfl, rfl⟩ := he
    have hv := hx _ _ h1
    unfold evNilCheck at h2
    split at h2
    · rename_i id i o hy
      rw [hy] at hv
      injection h2 with h2; subst h2
      obtain ⟨inc, hinc, e, _⟩ := hv.inv_ptr
      simp only [execOp, e]
      rw [e] at hv
      exact OpDoes.val hv hA
    · rename_i cs hy
      rw [hy] at hv
      injection h2 with h2; subst h2
      obtain ⟨b, o, T, c, fz, vals, e, _⟩ := hv.inv_fp
      simp only [execOp, e]
      rw [e] at hv
      exact OpDoes.val hv hA
    · cases h2
  | fieldAddr s x k =>
    simp only [compOp] at hc
    split at hc
    · rename_i fields hs
      simp only [Option.bind_eq_bind, Option.bind_eq_some_iff, Option.ite_none_right_eq_some, Option.some.injEq] at hc
      obtain ⟨f, hf, i, hi, hz, y, h1, rfl⟩ := hc
      exact evOp_pure hA he (fun r h => evFieldAddr_sound hs hf hi hz hA (hx _ _ h1) h)
    · cases hc
  | field s x k =>
    simp only [compOp] at hc
    split at hc
    · rename_i fields hs
      simp only [Option.bind_eq_bind, Option.bind_eq_some_iff, Option.some.injEq] at hc
      obtain ⟨f, hf, i, hi, b, hb, y, h1, rfl⟩ := hc
      exact evOp_pure hA he (fun r h => evField_sound hs hf hi hb (hx _ _ h1) h)
    · cases hc
  | indexAddr t x k =>
    simp only [compOp] at hc
    split at hc
    · rename_i e ht
      simp only [Option.bind_eq_bind, Option.bind_eq_some_iff, Option.some.injEq] at hc
      obtain ⟨i, hi, y, h1, z, h2, rfl⟩ := hc
      exact evOp_pure hA he (fun r h => evIndexSl_sound ht hi hA (hx _ _ h1) (hx _ _ h2) h)
    · rename_i n e ht
      simp only [Option.bind_eq_bind, Option.bind_eq_some_iff, Option.some.injEq] at hc
      obtain ⟨i, hi, y, h1, z, h2, rfl⟩ := hc
      exact evOp_pure hA he (fun r h => evIndexArr_sound ht hi hA (hx _ _ h1) (hx _ _ h2) h)
    · cases hc
  | index t x k =>
    simp only [compOp] at hc
    split at hc
    · rename_i ht
      simp only [Option.bind_eq_bind, Option.bind_eq_some_iff, Option.some.injEq] at hc
      obtain ⟨y, h1, z, h2, rfl⟩ := hc
      exact evOp_pure hA he (fun r h => evIndexStr_sound ht (hx _ _ h1) (hx _ _ h2) h)
    · rename_i n e ht
      simp only [Option.bind_eq_bind, Option.bind_eq_some_iff, Option.some.injEq] at hc
      obtain ⟨i, hi, b, hb, y, h1, z, h2, rfl⟩ := hc
      exact evOp_pure hA he (fun r h => evIndexVal_sound ht hi hb (hx _ _ h1) (hx _ _ h2) h)
    · cases hc
  | slice t x lo hi' mx =>
    cases mx with
    | some m' =>
      cases hi' with
      | none => simp [compOp] at hc
      | some hh =>
        simp only [compOp] at hc
        split at hc
        · rename_i e ht
          simp only [Option.bind_eq_bind, Option.bind_eq_some_iff, Option.some.injEq] at hc
          obtain ⟨i, hi, y, h1, l, h2, h', h3, m2, h4, rfl⟩ := hc
          refine evOp_pure hA he (fun r h => ?_)
          have := evSliceM_sound (P := P) ht hi hA (hx _ _ h1) (cxo_rel hx h2) (hx _ _ h3) (hx _ _ h4) h
          simpa [Instr.sliceAt, Yields', run_underlying' ht] using this
        · cases hc
    | none =>
      simp only [compOp] at hc
      split at hc
      · rename_i ht
        simp only [Option.bind_eq_bind, Option.bind_eq_some_iff, Option.some.injEq] at hc
        obtain ⟨y, h1, l, h2, h', h3, rfl⟩ := hc
        refine evOp_pure hA he (fun r h => ?_)
        have := evSliceStr_sound (P := P) ht (hx _ _ h1) (cxo_rel hx h2) (cxo_rel hx h3) h
        simpa [Instr.sliceAt, Yields', run_underlying' ht] using this
      · rename_i e ht
        simp only [Option.bind_eq_bind, Option.bind_eq_some_iff, Option.some.injEq] at hc
        obtain ⟨i, hi, y, h1, l, h2, h', h3, rfl⟩ := hc
        refine evOp_pure hA he (fun r h => ?_)
        have := evSliceSl_sound (P := P) ht hi hA (hx _ _ h1) (cxo_rel hx h2) (cxo_rel hx h3) h
        simpa [Instr.sliceAt, Yields', run_underlying' ht] using this
      · cases hc
  | makeSlice t l c =>
    simp only [compOp] at hc
    split at hc
    · rename_i e ht
      simp only [Option.bind_eq_bind, Option.bind_eq_some_iff, Option.ite_none_right_eq_some, Option.some.injEq] at hc
      obtain ⟨i, hi, z, hz, za, hza, hzs, y, h1, u, h2, rfl⟩ := hc
      exact (evMake_sound ht hi hz hzs hA (ofValue_rel hza) (hx _ _ h1) (hx _ _ h2) he).op
    · cases hc
  | makeFunc fn first cap =>
    simp only [compOp, Option.bind_eq_bind, Option.bind_eq_some_iff, Option.some.injEq] at hc
    obtain ⟨f', h1, c', h2, rfl⟩ := hc
    simp only [evOp, Option.some.injEq, Prod.mk.injEq] at he
    obtain ⟨rfl, rfl⟩ := he
    have r1 := cxs_rel hx h1
    have r2 := cxs_rel hx h2
    have l1 := r1.length
    have l2 := r2.length
    simp only [List.length_map, Array.length_toList] at l1 l2
    have hv : VRel w OK g (.func fn (first.map ρc) (cap.map ρc)) (.func fn (f'.map ρ) (c'.map ρ)) := by
      refine .func _ fn _ _ _ _ (by simp [l1]) (by simp [l2]) (fun i => ((first.map ρc)[i]?).getD undef) (fun i => ((cap.map ρc)[i]?).getD undef) (fun i hi => ?_) (fun i hi => ?_) (fun i hi => ?_) (fun i hi => ?_)
      · simp at hi; simp [show i < first.size by omega]
      · simp at hi; simp [show i < cap.size by omega]
      · simp at hi
        have := r1.get i (by simp; omega) (by simp; omega)
        simpa [show i < first.size by omega] using this
      · simp at hi
        have := r2.get i (by simp; omega) (by simp; omega)
        simpa [show i < cap.size by omega] using this
    exact ⟨_, w, OK, g, .inl (by simp [execOp, Instr.makeFunc]), hv, hA, Ext.refl _ _ _⟩
  | extract x k =>
    simp only [compOp, Option.bind_eq_bind, Option.bind_eq_some_iff, Option.some.injEq] at hc
    obtain ⟨y, h1, rfl⟩ := hc
    exact evOp_pure hA he (fun r h => evExtract_sound (hx _ _ h1) h)
  | makeMap t rs =>
    cases rs with
    | some x => simp [compOp] at hc
    | none =>
      simp only [compOp, Option.some.injEq] at hc
      subst hc
      simp only [evOp, Option.some.injEq] at he
      have := (evMakeMap_sound (P := P) (t := t) hA).op
      rw [he] at this
      exact this
  | lookup t mm k ok =>
    simp only [compOp] at hc
    split at hc
    · rename_i kt et ht
      simp only [Option.bind_eq_bind, Option.bind_eq_some_iff, Option.some.injEq] at hc
      obtain ⟨kd, hkd, i, hi, z, hz, za, hza, m', h1, k', h2, rfl⟩ := hc
      simp only [evOp, Option.ite_none_right_eq_some] at he
      obtain ⟨hkey, he⟩ := he
      obtain ⟨d, hd, hdk, hdi, hds⟩ := keyKind_spec hkd hkey
      exact evOp_pure hA he (fun r h => evLookup_sound ht hd hdk hi hz (ofValue_rel hza) hdi hds hA (hx _ _ h1) (hx _ _ h2) h)
    · cases hc
  | mapUpdate t mm k vv =>
    simp only [compOp] at hc
    split at hc
    · rename_i kt et ht
      simp only [Option.bind_eq_bind, Option.bind_eq_some_iff, Option.some.injEq] at hc
      obtain ⟨kd, hkd, m', h1, k', h2, v', h3, rfl⟩ := hc
      simp only [evOp, Option.ite_none_right_eq_some, Option.map_eq_some_iff, Prod.mk.injEq] at he
      obtain ⟨hkey, A1, hst, rfl, rfl⟩ := he
      obtain ⟨d, hd, hdk, hdi, hds⟩ := keyKind_spec hkd hkey
      obtain ⟨w', q1, q2, q3⟩ := evMapUpdate_sound (P := P) ht hd hdk hdi hds hA (hx _ _ h1) (hx _ _ h2) (hx _ _ h3) hst
      exact ⟨undef, w', OK, g, .inr ⟨by simp [execOp, q1], rfl⟩, .undef _ _, q2, q3⟩
    · cases hc
  | call c =>
    simp only [compOp] at hc
    obtain ⟨callee, args, argTypes⟩ := c
    simp only at hc
    split at hc
    · -- len
      split at hc
      · rename_i t x
        have step : ∀ (m' : MOp) (r : AV) (A'' : Arena), OpDoes P w OK g ((do pure (.value (← Builtin.len_ #[t] type #[ρc x])) : Sem Next).run P w) r A'' → OpDoes P w OK g ((execOp ρc ⟨dst, .call ⟨.builtin .len, ⟨[x]⟩, ⟨[t]⟩⟩, type, pos, after, guard⟩).run P w) r A'' := by
          intro _ r A'' h
          simpa [execOp, resolve, invoke, builtin] using h
        refine step m r A' ?_
        split at hc
        · rename_i ht
          simp only [Option.bind_eq_bind, Option.bind_eq_some_iff, Option.some.injEq] at hc
          obtain ⟨y, h1, rfl⟩ := hc
          exact evOp_pure hA he (fun r h => evLenStr_sound ht (hx _ _ h1) h)
        · rename_i e ht
          simp only [Option.bind_eq_bind, Option.bind_eq_some_iff, Option.some.injEq] at hc
          obtain ⟨y, h1, rfl⟩ := hc
          exact evOp_pure hA he (fun r h => evLenSl_sound ht (hx _ _ h1) h)
        · rename_i k e ht
          simp only [Option.bind_eq_bind, Option.bind_eq_some_iff, Option.some.injEq] at hc
          obtain ⟨y, h1, rfl⟩ := hc
          exact evOp_pure hA he (fun r h => evLenMap_sound ht hA (hx _ _ h1) h)
        · rename_i n e ht
          injection hc with hc; subst hc
          simp only [evOp, Option.some.injEq, Prod.mk.injEq] at he
          obtain ⟨rfl, rfl⟩ := he
          have : (Builtin.len_ #[t] type #[ρc x]).run P w = .ok (.int .i64 n) w := by simp [Builtin.len_, run_underlying' ht, goInt]
          exact Yields'.op ⟨.int .i64 n, this, by rw [hρ]; exact .int _ _ _⟩ hA
        · cases hc
      · cases hc
    · -- min
      split at hc
      · rename_i x r'
        simp only [Option.bind_eq_bind, Option.bind_eq_some_iff, Option.some.injEq] at hc
        obtain ⟨y, h1, l, h2, rfl⟩ := hc
        have hl := cxs_rel hx h2
        have := evOp_pure (s := (r'.map ρc).foldlM (if false then Builtin.max2 else Builtin.min2) (ρc x)) hA he (fun r h => by
          obtain ⟨u, u1, u2⟩ := evMinL_sound (P := P) (isMax := false) (r'.map ρc) (l.map ρ) (ρc x) (ρ y) r hl.length (fun i h h' => hl.get i h' h) (hx _ _ h1) h
          exact ⟨u, u1, u2⟩)
        simpa [execOp, resolve, invoke, builtin, Builtin.min_] using this
      · cases hc
    · -- max
      split at hc
      · rename_i x r'
        simp only [Option.bind_eq_bind, Option.bind_eq_some_iff, Option.some.injEq] at hc
        obtain ⟨y, h1, l, h2, rfl⟩ := hc
        have hl := cxs_rel hx h2
        have := evOp_pure (s := (r'.map ρc).foldlM (if true then Builtin.max2 else Builtin.min2) (ρc x)) hA he (fun r h => by
          obtain ⟨u, u1, u2⟩ := evMinL_sound (P := P) (isMax := true) (r'.map ρc) (l.map ρ) (ρc x) (ρ y) r hl.length (fun i h h' => hl.get i h' h) (hx _ _ h1) h
          exact ⟨u, u1, u2⟩)
        simpa [execOp, resolve, invoke, builtin, Builtin.max_] using this
      · cases hc
    · -- append
      split at hc
      · rename_i t xt s' x
        split at hc
        · rename_i e ht
          simp only [Option.bind_eq_bind, Option.bind_eq_some_iff, Option.ite_none_right_eq_some, Option.some.injEq] at hc
          obtain ⟨i, hi, z, hz, d, hd, ⟨hzs, hdd⟩, y1, h1, y2, h2, rfl⟩ := hc
          have hxt : (∃ e', P.underlying xt = some (.slice e')) ∨ P.underlying xt = some .string := by
            cases d <;> simp at hdd
            · exact .inr hd
            · exact .inl ⟨_, hd⟩
          split at he
          · have := (evAppendN_sound (ty := type) ht hxt hi hz hzs hA (hx _ _ h1) (hx _ _ h2) he).op
            simpa [execOp, resolve, invoke, builtin] using this
          · have := (evAppend_sound (ty := type) ht hxt hi hz hzs hA (hx _ _ h1) (hx _ _ h2) he).op
            simpa [execOp, resolve, invoke, builtin] using this
        · cases hc
      · cases hc
    · -- clear
      split at hc
      · rename_i t x
        split at hc
        · rename_i e ht
          simp only [Option.bind_eq_bind, Option.bind_eq_some_iff, Option.ite_none_right_eq_some, Option.some.injEq] at hc
          obtain ⟨i, hi, z, hz, za, hza, hzs, y1, h1, rfl⟩ := hc
          have := (evClear_sound (ty := type) ht hi hz hzs hA (ofValue_rel hza) (hx _ _ h1) he).op
          simpa [execOp, resolve, invoke, builtin] using this
        · cases hc
      · cases hc
    · -- copy
      split at hc
      · rename_i t xt d s'
        split at hc
        · rename_i e ht
          simp only [Option.bind_eq_bind, Option.bind_eq_some_iff, Option.some.injEq] at hc
          obtain ⟨i, hi, y1, h1, y2, h2, rfl⟩ := hc
          have := (evCopy_sound (ty := type) (t2 := xt) ht hi hA (hx _ _ h1) (hx _ _ h2) he).op
          simpa [execOp, resolve, invoke, builtin] using this
        · cases hc
      · cases hc
    · simp only [Option.bind_eq_bind, Option.bind_eq_some_iff, Option.some.injEq] at hc
      obtain ⟨f', h1, l, h2, rfl⟩ := hc
      cases he
    · cases hc
  | _ => simp [compOp] at hc
end
end Go.Proofs.Ytemklhljjaniaaa
/-
  Regions and code in the form that names no type: evaluation, and that the model agrees. Program-independent.
-/
namespace Go.Proofs.Ytemklhljjaniaaa
open Go

structure MO where
  dst : Option Nat
  op : MOp
  guard : Option (MX × Bool)

inductive MC where
  | skip
  | region (ops : List MO)
  | regionD (pu : List FuncId) (ops : List MO) (pairs : List (Nat × Nat))
  | seq (a b : MC)
  | cond (c : MX) (a b : MC)
  | block (id : Nat) (a : MC)
  | loop (mask : List Nat) (a : MC)
  | rangeFunc (f : MX) (ps : List Nat) (assign body : MC)
  | exit (id : Nat)
  | scope (a : MC)
  | kill (mask : List Nat)
  | ret
  | bad

inductive Out where
  | normal (σ : List AV) (A : Arena)
  | exit (id : Nat) (σ : List AV) (A : Arena)
  | ret (σ : List AV) (A : Arena)

abbrev Handler := AV → List AV → Arena → Option (AV × Arena)

/-- A loop over a function, under way: where its record lies; what its variables hold. -/
structure Yld where
  id : Nat
  l : Nat
  vals : List Value
  σ : List AV

/-- What is known of calls (of a function's value, while yields are handled so), and of package-level variables. -/
structure Env where
  callY : Handler → Handler
  glob : Nat → Option (List AV)
  ys : List Yld
  hand : Handler

def Env.call (E : Env) : Handler := fun fv args A => match fv with
  | .func (.func _) _ _ => E.callY E.hand fv args A
  | _ => match E.hand fv args A with
    | some x => some x
    | none => E.callY E.hand fv args A

def evX (E : Env) (σ T : List AV) : MX → AV
  | .var i => σ.getD i .undef
  | .tmp j => T.getD j .undef
  | .cst a => a
  | .glob gl => match E.glob gl with
    | some cs => .fp cs
    | none => .undef
  | .fn f => .func (.func f) [] []

def evStep (E : Env) (ρ : MX → AV) (A : Arena) : MOp → Option (AV × Arena)
  | .call f args => E.call (ρ f) (args.map ρ) A
  | m => evOp ρ A m

/-- is the operation carried out? -/
def evGuard (ρ : MX → AV) : Option (MX × Bool) → Option Bool
  | none => some true
  | some (x, want) => match ρ x with
    | .bool b => some (b == want)
    | .tup [] => some false
    | _ => none

def setVar (σ : List AV) (d : Option Nat) (a : AV) : List AV :=
  match d with
  | some i => σ.set i a
  | none => σ

def evOps (E : Env) : List MO → List AV → List AV → Arena → Option (List AV × Arena)
  | [], σ, _, A => some (σ, A)
  | o :: rest, σ, T, A =>
    match evGuard (evX E σ T) o.guard with
    | some true => match evStep E (evX E σ T) A o.op with
      | some (v, A') => evOps E rest (setVar σ o.dst v) (T ++ [v]) A'
      | none => none
    | some false => evOps E rest (setVar σ o.dst (.tup [])) (T ++ [.tup []]) A
    | none => none

/-- no reference into the arena -/
def noRefB : Nat → AV → Bool
  | _, .bool _ => true
  | _, .int .. => true
  | _, .str _ => true
  | _, .nilS => true
  | _, .nilP => true
  | _, .nilM => true
  | _, .nilF => true
  | _, .nilI => true
  | _, .undef => true
  | _, .fs .. => true
  | _, .fp _ => true
  | n + 1, .agg cs => cs.all (noRefB n)
  | n + 1, .tup cs => cs.all (noRefB n)
  | n + 1, .func _ c1 c2 => c1.all (noRefB n) && c2.all (noRefB n)
  | n + 1, .iface _ v => noRefB n v
  | _, _ => false

/-- what an operation reads of the arena, what it writes ('none': anything), and whether it makes an entry -/
structure Foot where
  rd : Option (List Nat)
  wr : Option (List Nat)
  al : Bool
  /-- an entry that is as it was -/
  kp : Nat → Bool
def kp0 : Nat → Bool := fun _ => false
def Foot.no : Foot := ⟨some [], some [], false, kp0⟩
noncomputable def keptB (A : Arena) (r : Option (AV × Arena)) (id : Nat) : Bool := match r with
  | some x => @decide (x.2[id]? = A[id]?) (Classical.propDecidable _)
  | none => false
def idsOf : AV → List Nat
  | .sl id _ _ => [id]
  | .csl id _ _ => [id]
  | .ptr id _ _ => [id]
  | .map id => [id]
  | _ => []
/-- 'pu': functions that leave the arena alone -/
noncomputable def footOp (E : Env) (pu : List FuncId) (ρ : MX → AV) (A : Arena) : MOp → Foot
  | .load _ _ p => ⟨some (idsOf (ρ p)), some [], false, kp0⟩
  | .fieldAddr _ p => ⟨some (idsOf (ρ p)), some [], false, kp0⟩
  | .indexSl _ x _ => ⟨some (idsOf (ρ x)), some [], false, kp0⟩
  | .indexArr _ _ x _ => ⟨some (idsOf (ρ x)), some [], false, kp0⟩
  | .lenMap x => ⟨some (idsOf (ρ x)), some [], false, kp0⟩
  | .toStr x => ⟨some (idsOf (ρ x)), some [], false, kp0⟩
  | .sliceSl _ x _ _ => ⟨some (idsOf (ρ x)), some [], false, kp0⟩
  | .sliceM _ x _ _ _ => ⟨some (idsOf (ρ x)), some [], false, kp0⟩
  | .lookup _ _ _ m _ => ⟨some (idsOf (ρ m)), some [], false, kp0⟩
  | .store _ p _ => ⟨some [], some (idsOf (ρ p)), false, kp0⟩
  | .mapUpdate _ m _ _ => ⟨some [], some (idsOf (ρ m)), false, kp0⟩
  | .copy _ d s => ⟨some (idsOf (ρ s)), some (idsOf (ρ d)), false, kp0⟩
  | .append _ _ s x => ⟨some (idsOf (ρ x)), some (A.length :: idsOf (ρ s)), true, kp0⟩
  | .appendN _ _ s x => ⟨some (idsOf (ρ x)), some (A.length :: idsOf (ρ s)), true, kp0⟩
  | .clear _ _ x => ⟨some [], some (idsOf (ρ x)), false, kp0⟩
  | .alloc .. | .allocArr .. | .box _ | .buildSlice .. | .makeSlice .. | .toBytes _ | .makeMap => ⟨some [], some [A.length], true, kp0⟩
  | .call f args => match f with
    | .fn f' => if pu.contains f' then (if (args.map ρ).all (noRefB 4) then .no else ⟨none, some [], false, kp0⟩) else ⟨none, none, true, keptB A (evStep E ρ A (.call f args))⟩
    | _ => ⟨none, none, true, keptB A (evStep E ρ A (.call f args))⟩
  | _ => .no
noncomputable def footAt (E : Env) (pu : List FuncId) (o : MO) (ρ : MX → AV) (A : Arena) : Foot :=
  match evGuard ρ o.guard with
  | some true => footOp E pu ρ A o.op
  | _ => .no
def meetNo : Option (List Nat) → Option (List Nat) → Bool
  | some [], _ => true
  | _, some [] => true
  | some a, some b => a.all fun x => b.all fun y => !(x == y)
  | _, _ => false
/-- two operations that may change places -/
def Foot.apart0 (x y : Foot) : Bool := meetNo x.rd y.wr && meetNo x.wr y.rd && meetNo x.wr y.wr && !(x.al && y.al)
/-- it only reads, and what it reads is as it was -/
def Foot.sees (x y : Foot) : Bool := (match x.wr with | some [] => !x.al | _ => false) && (match x.rd with | some l => l.all y.kp | none => false)
def Foot.apart (x y : Foot) : Bool := x.apart0 y || (x.sees y || y.sees x)
/-- a region's operations, with what each of them touches -/
noncomputable def evOpsF (E : Env) (pu : List FuncId) : List MO → List AV → List AV → Arena → List Foot → Option (List AV × Arena × List Foot)
  | [], σ, _, A, fs => some (σ, A, fs)
  | o :: rest, σ, T, A, fs =>
    match evGuard (evX E σ T) o.guard with
    | some true => match evStep E (evX E σ T) A o.op with
      | some (v, A') => evOpsF E pu rest (setVar σ o.dst v) (T ++ [v]) A' (fs ++ [footOp E pu (evX E σ T) A o.op])
      | none => none
    | some false => evOpsF E pu rest (setVar σ o.dst (.tup [])) (T ++ [.tup []]) A (fs ++ [.no])
    | none => none

def clear (mask : List Nat) (σ : List AV) : List AV := mask.foldl (fun s i => s.set i .undef) σ

def iter (body : List AV → Arena → Option Out) (mask : List Nat) : Nat → List AV → Arena → Option Out
  | 0, _, _ => none
  | n + 1, σ, A => match body (clear mask σ) A with
    | some (.normal σ' A') => iter body mask n σ' A'
    | x => x

open Classical in
/-- the one result that does not hang on what is not known -/
noncomputable def evR {α β : Type} (good : α → Prop) (inner : α → Option β) : Option β :=
  if h : ∃ x, ∀ a, good a → inner a = some x then some h.choose else none

def setAll (σ : List AV) : List Nat → List AV → Option (List AV)
  | [], [] => some σ
  | i :: ps, a :: as' => setAll (σ.set i a) ps as'
  | _, _ => none

open Classical in
/-- the handling of a loop's yields: n0: its record's entry; l: its block -/
noncomputable def yieldH (n0 l : Nat) (r : Loop) (σ : List AV) (ps : List Nat) (assign body : List AV → Arena → Option Out) (h : Handler) : Handler := fun fv args A =>
  match fv with
  | .func (.yield l') [] [] =>
    if l' = l then
      match A[n0]? with
      | some (.loop r' k) =>
        if r' = r ∧ k = 0 then
          match setAll σ ps args with
          | some σ1 => match assign σ1 A with
            | some (.normal σ2 A2) => if A2[n0]? = some (.loop r 0) then match body σ2 (A2.set n0 .dead) with
              | some (.normal _ A3) => some (.bool true, A3.set n0 (.loop r 0))
              | some (.ret _ A3) => some (.bool false, A3.set n0 (.loop r 1))
              | some (.exit id _ A3) => some (.bool false, A3.set n0 (.loop r (id + 2)))
              | none => none
              else none
            | _ => none
          | none => none
        else none
      | _ => none
    else h fv args A
  | _ => h fv args A

/-- how a loop over a function ends -/
def afterR (n0 : Nat) (σ : List AV) (A : Arena) : Option Out :=
  match A[n0]? with
  | some (.loop _ k) => some (if k = 0 then .normal σ (A.set n0 .dead) else if k = 1 then .ret σ (A.set n0 .dead) else .exit (k - 2) σ (A.set n0 .dead))
  | _ => none

noncomputable def evC (E : Env) (fuel : Nat) : MC → List AV → Arena → Option Out
  | .skip, σ, A => some (.normal σ A)
  | .region ops, σ, A => (evOps E ops σ [] A).map fun x => .normal x.1 x.2
  | .regionD pu ops pairs, σ, A => match evOpsF E pu ops σ [] A [] with
    | some (σ', A', fs) => if pairs.all (fun p => (fs.getD p.1 .no).apart (fs.getD p.2 .no)) then some (.normal σ' A') else none
    | none => none
  | .seq a b, σ, A => match evC E fuel a σ A with
    | some (.normal σ' A') => evC E fuel b σ' A'
    | x => x
  | .cond c a b, σ, A => match evX E σ [] c with
    | .bool t => if t then evC E fuel a σ A else evC E fuel b σ A
    | _ => none
  | .block id a, σ, A => match evC E fuel a σ A with
    | some (.exit id' σ' A') => if id' = id then some (.normal σ' A') else some (.exit id' σ' A')
    | x => x
  | .loop mask a, σ, A => iter (evC E fuel a) mask fuel σ A
  | .rangeFunc f ps assign body, σ, A => evR (fun (_ : Nat × Loop) => True) fun x =>
    match E.callY (yieldH A.length x.1 x.2 σ ps (evC E fuel assign) (evC E fuel body) E.hand) (evX E σ [] f) [.func (.yield x.1) [] []] (A ++ [Ent.loop x.2 0]) with
    | some (_, A') => afterR A.length σ A'
    | none => none
  | .exit id, σ, A => some (.exit id σ A)
  | .scope a, σ, A => evC E fuel a σ A
  | .kill mask, σ, A => some (.normal (clear mask σ) A)
  | .ret, σ, A => some (.ret σ A)
  | .bad, _, _ => none

/-! ### from the model's code -/

/-- the operand: a variable's slot, a slot of this region, or a constant -/
def cxOf (vs : List Nat) (ts : List (Option Nat)) : Operand → Option MX
  | .tmp t => match vs.idxOf? t with
    | some i => some (.var i)
    | none => (ts.idxOf? (some t)).map .tmp
  | .const v => (ofValue v).map .cst
  | .global gl => some (.glob gl)
  | .func f => some (.fn f)

def compGuard (vs : List Nat) (ops : Array Oper) (ts : List (Option Nat)) : Option (Nat × Bool) → Option (Option (MX × Bool))
  | none => some none
  | some (j, want) => match (ops[j]?).bind (·.dst) with
    | some t => (cxOf vs ts (.tmp t)).map fun x => some (x, want)
    | none => none

/-- an operation that is never carried out -/
def badOp : MOp := .un .neg (.cst .undef)

/-- is a slice literal used by nothing but calls and as what 'append' adds? -/
def usedFz (t : Nat) (o : Oper) : Bool := match o.op with
  | .call c => (match c.callee with
    | .builtin .append => (match c.args.toList with | [a, _] => (match a with | .tmp u => !(u == t) | _ => true) | _ => false)
    | .value f => (match f with | .tmp u => !(u == t) | _ => true)
    | _ => c.args.toList.all fun x => match x with | .tmp u => !(u == t) | _ => true)
  | op => op.operands.toList.all fun x => match x with | .tmp u => !(u == t) | _ => true
/-- is something appended to what a call has just returned? (Then 'append' makes a new row.) -/
def appCall (vs : List Nat) (ops : Array Oper) (o : Oper) : Bool := match o.op with
  | .call c => (match c.callee, c.args.toList with
    | .builtin .append, [.tmp u, _] => !vs.contains u && ops.toList.any fun q => (match q.dst, q.op with
      | some t, .call d => t == u && (match d.callee with | .value _ => true | _ => false)
      | _, _ => false)
    | _, _ => false)
  | _ => false
/-- is 't' what such an 'append' adds? -/
def addsTo (vs : List Nat) (ops : Array Oper) (t : Nat) : Bool := ops.toList.any fun q => appCall vs ops q && (match q.op with
  | .call c => (match c.args.toList with | [_, .tmp u] => u == t | _ => false)
  | _ => false)
def frzUse (on : Bool) (vs : List Nat) (ops : Array Oper) (o : Oper) : Bool := appCall vs ops o || (match o.op, o.dst with
  | .buildSlice .., some t => (on || addsTo vs ops t) && !vs.contains t && ops.toList.all (usedFz t)
  | _, _ => false)

def compOps (P : Program) (N : Nat) (vs : List Nat) (on : Bool) (ops : Array Oper) : List Oper → List (Option Nat) → List MO
  | [], _ => []
  | o :: rest, ts =>
    match compGuard vs ops ts o.guard with
    | some gd =>
      let m := (compOp P (frzUse on vs ops o) (cxOf vs ts) o.op).getD badOp
      match o.dst with
      | none => ⟨none, m, gd⟩ :: compOps P N vs on ops rest (ts ++ [none])
      | some t =>
        match vs.idxOf? t with
        | some i => ⟨some i, m, gd⟩ :: compOps P N vs on ops rest (ts ++ [none])
        | none => if t < N ∧ ¬ (some t) ∈ ts then ⟨none, m, gd⟩ :: compOps P N vs on ops rest (ts ++ [some t]) else [⟨none, badOp, none⟩]
    | none => [⟨none, badOp, none⟩]

def idxAll (vs : List Nat) : List Nat → Option (List Nat)
  | [] => some []
  | t :: r => match vs.idxOf? t, idxAll vs r with
    | some i, some l => some (i :: l)
    | _, _ => none

/-! ### regions whose order is open -/

/-- the operands -/
def MOp.xs : MOp → List MX
  | .mv x | .un _ x | .convInt _ x | .same x | .toStr x | .toBytes x | .box x | .load _ _ x | .nilCheck x | .fieldAddr _ x | .part _ _ _ x | .extract x _ | .lenStr x | .lenSl x | .lenMap x | .eqNil _ _ x => [x]
  | .pick a b c => [a, b, c]
  | .eqAgg _ _ x y => [x, y]
  | .lookup _ _ _ x y => [x, y]
  | .mapUpdate _ x y z => [x, y, z]
  | .makeMap => []
  | .buildF _ xs => xs
  | .bin _ x y | .eqBool _ x y | .store _ x y | .indexSl _ x y | .indexArr _ _ x y | .indexVal _ _ _ x y | .indexStr x y | .append _ _ x y | .appendN _ _ x y | .copy _ x y | .makeSlice _ _ _ x y => [x, y]
  | .clear _ _ x => [x]
  | .alloc .. | .allocArr .. => []
  | .build _ ps => ps.map (·.2.2)
  | .buildSlice _ xs => xs
  | .sliceStr x lo hi | .sliceSl _ x lo hi => x :: (lo.toList ++ hi.toList)
  | .sliceM _ x lo hi mx => x :: hi :: mx :: lo.toList
  | .makeFunc _ a b => a ++ b
  | .minmax _ x xs => x :: xs
  | .call f args => f :: args

/-- what an operation does to the arena: 0 it does not look at it; 1 it reads; 2 anything -/
def opKind (pu : List FuncId) : MOp → Nat
  | .mv _ | .pick .. | .bin .. | .eqBool .. | .un .. | .convInt .. | .same _ | .build .. | .nilCheck _ | .part .. | .indexVal .. | .indexStr .. | .sliceStr .. | .makeFunc .. | .extract .. | .lenStr _ | .lenSl _ | .minmax .. | .eqNil .. | .eqAgg .. | .buildF .. => 0
  | .toStr _ | .load .. | .fieldAddr .. | .indexSl .. | .indexArr .. | .sliceSl .. | .sliceM .. | .lenMap _ | .lookup .. => 1
  | .call (.fn f) _ => if pu.contains f then 1 else 2
  | _ => 2
def kinds2 (pu : List FuncId) (x y : MO) : Bool := opKind pu x.op == 0 || opKind pu y.op == 0 || (opKind pu x.op == 1 && opKind pu y.op == 1)

def MO.reads (o : MO) : List MX := o.op.xs ++ (match o.guard with | some (x, _) => [x] | none => [])
def readsT (j : Nat) (o : MO) : Bool := o.reads.any fun x => match x with | .tmp i => i == j | _ => false
def readsV (j : Nat) (o : MO) : Bool := o.reads.any fun x => match x with | .var i => i == j | _ => false
/-- two operations, at i and at j, that do not write what the other one looks at -/
def free2 (i j : Nat) (x y : MO) : Bool :=
  !readsT i y && !readsT j x &&
  (match x.dst with | some d => !readsV d y && !(y.dst == some d) | none => true) && (match y.dst with | some d => !readsV d x | none => true)
def afterBits (b : Array Nat) (o : Oper) : Nat := o.after.toList.foldl (fun s e => if Region.binds .any e then s ||| 2 ^ e.on ||| b.getD e.on 0 else s) 0
/-- every order is as good as the text's, as far as slots are concerned -/
def orderFree (ops : Array Oper) (mos : List MO) (b : Array Nat) : Bool :=
  mos.length == ops.size &&
  (List.range ops.size).all fun j => match ops[j]? with
    | none => false
    | some o => (b.getD j 0 == afterBits b o) && o.after.toList.all (fun e => !Region.binds .any e || Nat.blt e.on j) &&
      (List.range j).all fun i => (b.getD j 0).testBit i || (match mos[i]?, mos[j]? with | some x, some y => free2 i j x y | _, _ => false)
/-- the pairs that must be apart when they are carried out -/
def openPairs (pu : List FuncId) (mos : List MO) (b : Array Nat) : List (Nat × Nat) :=
  (List.range mos.length).flatMap fun j => (List.range j).filterMap fun i => if (b.getD j 0).testBit i then none else match mos[i]?, mos[j]? with
    | some x, some y => if kinds2 pu x y then none else some (i, j)
    | _, _ => none

abbrev Hints := List (List Nat) × List (List Nat)

/-- 'inR': within a round of a loop over a function -/
def compC (P : Program) (N : Nat) (vs : List Nat) (pu : List FuncId) (on : Bool) (inR : Bool) : Code → Hints → MC × Hints
  | .skip, h | .label _, h => (.skip, h)
  | .region _ ops draw, h =>
    if draw then (if P.follows .mixedOrders && orderFree ops (compOps P N vs on ops ops.toList []) (Region.before ops) then
        (match openPairs pu (compOps P N vs on ops ops.toList []) (Region.before ops) with
        | [] => .region (compOps P N vs on ops ops.toList [])
        | x :: r => .regionD pu (compOps P N vs on ops ops.toList []) (x :: r)) else .bad, h)
    else (.region (compOps P N vs on ops ops.toList []), h)
  | .seq a b, h =>
    let x := compC P N vs pu on inR a h
    let y := compC P N vs pu on inR b x.2
    (.seq x.1 y.1, y.2)
  | .cond c a b, h => match cxOf vs [] c with
    | some z =>
      let x := compC P N vs pu on inR a h
      let y := compC P N vs pu on inR b x.2
      (.cond z x.1 y.1, y.2)
    | none => (.bad, h)
  | .block id a, h =>
    let x := compC P N vs pu on inR a h
    match x.2.2 with
    | [] => (.block id x.1, x.2)
    | m :: r => (.seq (.block id x.1) (.kill m), (x.2.1, r))
  | .loop a, h => let x := compC P N vs pu on inR a (h.1.tail, h.2); (.loop (h.1.headD []) x.1, x.2)
  | .rangeFunc f ps a b, h => match inR, cxOf vs [] f, idxAll vs ps.toList with
    | false, some z, some is =>
      let x := compC P N vs pu on true a h
      let y := compC P N vs pu on true b x.2
      (.rangeFunc z is x.1 y.1, y.2)
    | _, _, _ => (.bad, h)
  | .exit id, h => (.exit id, h)
  | .scope a, h => let x := compC P N vs pu on inR a h; (.scope x.1, x.2)
  | .ret, h => (.ret, h)
  | _, h => (.bad, h)

end Go.Proofs.Ytemklhljjaniaaa
/-
  The evaluation of regions and code is sound. Program-independent.
-/
namespace Go.Proofs.Ytemklhljjaniaaa
open Go

/-- the fence that lets everything by, in a round or not -/
def FW (rd : Option Nat) : Fence := { Fence.wide with round := rd }

def GRel (G : Nat → Option (List AV)) (w : World) (OK : Nat → Prop) : Prop := ∀ gl cs, G gl = some cs → VRel w OK Ghost.none (.pointer (some ⟨gl, 0, none⟩)) (.fp cs)

/-- what holds of loops under way, and of package-level variables -/
def IRel (G : Nat → Option (List AV)) (ys : List Yld) (w : World) (OK : Nat → Prop) (g : Ghost) : Prop :=
  GRel G w OK ∧ ∀ y ∈ ys, (∃ inc, g y.id = [inc] ∧ inc.b = y.l ∧ inc.esz = 0) ∧ ListRel w OK g y.vals y.σ

def CallOk (P : Program) (w : World) (OK : Nat → Prop) (g : Ghost) (res : Result Next) (r : AV) (A' : Arena) : Prop :=
  (∃ v w' OK' g', res = .ok (.value v) w' ∧ VRel w' OK' g' v r ∧ ARel w' OK' g' A' ∧ Ext w OK g w' OK' g') ∨
  (∃ f args, res = .ok (.enter f args) w ∧ Calls P f args w fun e w' => ∃ v OK' g', e = .returned v ∧ VRel w' OK' g' v r ∧ ARel w' OK' g' A' ∧ Ext w OK g w' OK' g') ∨
  (∃ l f tmps assign body, res = .ok (.round l f tmps assign body) w ∧ ∀ rd n, RoundIn (FW rd) n P l f tmps assign body w fun e w' => ∃ v OK' g', e = .returned v ∧ VRel w' OK' g' v r ∧ ARel w' OK' g' A' ∧ Ext w OK g w' OK' g')

/-- What a handler of calls says is so. -/
def HSound (P : Program) (G : Nat → Option (List AV)) (ys : List Yld) (h : Handler) : Prop :=
  ∀ fv args A r A', h fv args A = some (r, A') → ∀ (w : World) (OK : Nat → Prop) (g : Ghost) (v : Value) (vs : List Value), ARel w OK g A → IRel G ys w OK g → VRel w OK g v fv → ListRel w OK g vs args →
    CallOk P w OK g ((do let d ← Deferred.ofValue v vs.toArray; invoke d.target d.args : Sem Next).run P w) r A'

/-- likewise; a function is entered -/
def HEnters (P : Program) (G : Nat → Option (List AV)) (ys : List Yld) (h : Handler) : Prop :=
  ∀ fv args A r A', h fv args A = some (r, A') → ∀ (w : World) (OK : Nat → Prop) (g : Ghost) (v : Value) (vs : List Value), ARel w OK g A → IRel G ys w OK g → VRel w OK g v fv → ListRel w OK g vs args →
    ∃ (d : Deferred) (f : FuncId) (args' : Array Value), (Deferred.ofValue v vs.toArray).run P w = .ok d w ∧ (invoke d.target d.args).run P w = .ok (.enter f args') w ∧
      Calls P f args' w fun e w' => ∃ v OK' g', e = .returned v ∧ VRel w' OK' g' v r ∧ ARel w' OK' g' A' ∧ Ext w OK g w' OK' g'

theorem HEnters.sound {P : Program} {G : Nat → Option (List AV)} {ys : List Yld} {h : Handler} (hh : HEnters P G ys h) : HSound P G ys h := by
  intro fv args A r A' he w OK g v vs hA hI hv hl
  obtain ⟨d, f, args', e1, e2, e3⟩ := hh fv args A r A' he w OK g v vs hA hI hv hl
  exact .inr (.inl ⟨f, args', by simp only [Sem.run_bind, e1, Result.andThen_ok, e2], e3⟩)

theorem IRel.sub {G : Nat → Option (List AV)} {ys ys' : List Yld} {w : World} {OK : Nat → Prop} {g : Ghost} (h : IRel G ys' w OK g) (hs : ∀ y ∈ ys, y ∈ ys') : IRel G ys w OK g := ⟨h.1, fun y hy => h.2 y (hs y hy)⟩
theorem HSound.sub {P : Program} {G : Nat → Option (List AV)} {ys ys' : List Yld} {h : Handler} (hh : HSound P G ys h) (hs : ∀ y ∈ ys, y ∈ ys') : HSound P G ys' h :=
  fun fv args A r A' he w OK g v vs hA hI hv hl => hh fv args A r A' he w OK g v vs hA (hI.sub hs) hv hl

/-- What is known of calls is so. -/
structure EnvSound (P : Program) (E : Env) : Prop where
  hand : HSound P E.glob E.ys E.hand
  callY : ∀ ys' h, (∀ y ∈ E.ys, y ∈ ys') → HSound P E.glob ys' h → HEnters P E.glob ys' (E.callY h)

theorem EnvSound.call {P : Program} {E : Env} (hE : EnvSound P E) : HSound P E.glob E.ys E.call := by
  intro fv args A r A' he w OK g v vs hA hI hv hl
  unfold Env.call at he
  split at he
  · exact (hE.callY E.ys E.hand (fun _ h => h) hE.hand).sound _ _ _ _ _ he w OK g v vs hA hI hv hl
  · split at he
    · rename_i x hx
      injection he with he; subst he
      exact hE.hand _ _ _ _ _ hx w OK g v vs hA hI hv hl
    · exact (hE.callY E.ys E.hand (fun _ h => h) hE.hand).sound _ _ _ _ _ he w OK g v vs hA hI hv hl

theorem Ext.grel {w w' : World} {OK OK' : Nat → Prop} {g g' : Ghost} {A : Arena} {G : Nat → Option (List AV)} (h : GRel G w OK) (hA : ARel w OK g A) (e : Ext w OK g w' OK' g') : GRel G w' OK' := fun gl cs hg =>
  (h gl cs hg).mono e.okle (e.okblk hA) _ (Ghost.le_refl _)

theorem ListRel.ext {w w' : World} {OK OK' : Nat → Prop} {g g' : Ghost} {A : Arena} {us : List Value} {l : List AV} (h : ListRel w OK g us l) (hA : ARel w OK g A) (e : Ext w OK g w' OK' g') : ListRel w' OK' g' us l :=
  h.mono fun _ _ hv => hv.ext hA e

theorem Ext.irel {w w' : World} {OK OK' : Nat → Prop} {g g' : Ghost} {A : Arena} {G : Nat → Option (List AV)} {ys : List Yld} (h : IRel G ys w OK g) (hA : ARel w OK g A) (e : Ext w OK g w' OK' g') : IRel G ys w' OK' g' :=
  ⟨e.grel h.1 hA, fun y hy => by
    obtain ⟨⟨inc, h1, h2, h3⟩, h4⟩ := h.2 y hy
    exact ⟨⟨inc, (e.fix y.id inc (by rw [h1]; simp) h3).trans h1, h2, h3⟩, h4.ext hA e⟩⟩

/-- The marks of loops over functions: the blocks for the rounds' deferred calls, which stay empty. -/
def Marks (base : Nat) (w : World) (OK : Nat → Prop) (g : Ghost) : List Deferred → Prop
  | [] => True
  | d :: r => (∃ D, d = ⟨.collected D, #[]⟩ ∧ base ≤ D ∧ w.heap[D]? = some (.deferred (some [])) ∧ ¬ OK D ∧ (∀ id inc, inc ∈ g id → inc.b ≠ D) ∧ ∀ d' ∈ r, d' ≠ ⟨.collected D, #[]⟩) ∧ Marks base w OK g r

theorem Marks.ext {base : Nat} {w w' : World} {OK OK' : Nat → Prop} {g g' : Ghost} (e : Ext w OK g w' OK' g') : ∀ {l : List Deferred}, Marks base w OK g l → Marks base w' OK' g' l
  | [], _ => trivial
  | d :: r, ⟨⟨D, h1, h2, h3, h4, h5, h6⟩, hr⟩ => by
    have hlt := (Array.getElem?_eq_some_iff.1 h3).1
    refine ⟨⟨D, h1, h2, (e.blk D hlt h5).trans h3, fun ho => ?_, fun id inc hi eb => ?_, h6⟩, Marks.ext e hr⟩
    · rcases e.okf D ho with h | h
      · exact h4 h
      · omega
    · rcases e.fresh id inc hi with ⟨id0, inc0, k0, k1⟩ | h
      · exact h5 id0 inc0 k0 (k1.trans eb)
      · omega

structure SRel (E : Env) (N : Nat) (vs : List Nat) (base : Nat) (w : World) (OK : Nat → Prop) (g : Ghost) (σ : List AV) (A : Arena) (a : Act) : Prop where
  size : a.tmps.size = N
  defers : Marks base w OK g a.defers
  low : base ≤ w.heap.size
  len : σ.length = vs.length
  vars : ∀ i (h : i < vs.length), VRel w OK g (a.tmps.getD vs[i] undef) (σ.getD i .undef)
  arena : ARel w OK g A
  glob : IRel E.glob E.ys w OK g

section
variable {P : Program} {E : Env} {N : Nat} {vs : List Nat} {base : Nat}

theorem SRel.ext {w w' : World} {OK OK' : Nat → Prop} {g g' : Ghost} {σ : List AV} {A A' : Arena} {a : Act} (h : SRel E N vs base w OK g σ A a) (e : Ext w OK g w' OK' g') (hA : ARel w' OK' g' A') : SRel E N vs base w' OK' g' σ A' a :=
  ⟨h.size, h.defers.ext e, Nat.le_trans h.low e.size, h.len, fun i hi => (h.vars i hi).ext h.arena e, hA, e.irel h.glob h.arena⟩

/-- The state in the midst of a region: the slots that have been written there. -/
structure RRel (E : Env) (N : Nat) (vs : List Nat) (base : Nat) (w : World) (OK : Nat → Prop) (g : Ghost) (σ T : List AV) (ts : List (Option Nat)) (A : Arena) (a : Act) : Prop extends SRel E N vs base w OK g σ A a where
  tlen : T.length = ts.length
  temps : ∀ j t : Nat, ts[j]? = some (some t) → VRel w OK g (a.tmps.getD t undef) (T.getD j .undef)
  tok : ∀ j t : Nat, ts[j]? = some (some t) → t < N ∧ t ∉ vs
  tone : ∀ j j' t : Nat, ts[j]? = some (some t) → ts[j']? = some (some t) → j = j'

theorem RRel.eval {w : World} {OK : Nat → Prop} {g : Ghost} {σ T : List AV} {ts : List (Option Nat)} {A : Arena} {a : Act} (h : RRel E N vs base w OK g σ T ts A a) (x : Operand) (y : MX) (hy : cxOf vs ts x = some y) : VRel w OK g (a.eval x) (evX E σ T y) := by
  unfold cxOf at hy
  split at hy
  · rename_i t
    split at hy
    · rename_i i hi
      injection hy with hy; subst hy
      obtain ⟨hlt, he⟩ := List.idxOf?_eq_some_iff.1 hi |> fun h => (⟨h.1, h.2.1⟩ : ∃ h : i < vs.length, vs[i] = t)
      have := h.vars i hlt
      rw [he] at this
      simpa [Act.eval, evX] using this
    · simp only [Option.map_eq_some_iff] at hy
      obtain ⟨j, hj, rfl⟩ := hy
      obtain ⟨hlt, he⟩ := List.idxOf?_eq_some_iff.1 hj |> fun h => (⟨h.1, h.2.1⟩ : ∃ h : j < ts.length, ts[j] = some t)
      have := h.temps j t (by rw [List.getElem?_eq_getElem hlt, he])
      simpa [Act.eval, evX] using this
  · simp only [Option.map_eq_some_iff] at hy
    obtain ⟨v, hv, rfl⟩ := hy
    exact ofValue_rel hv
  · injection hy with hy; subst hy
    rename_i gl
    simp only [evX, Act.eval]
    split
    · rename_i cs hcs
      exact (h.glob.1 gl cs hcs).none_to
    · exact .undef _ _
  · injection hy with hy; subst hy
    exact .func _ _ _ _ [] [] rfl rfl (fun _ => undef) (fun _ => undef) (fun i hi => by simp at hi) (fun i hi => by simp at hi) (fun i hi => by simp at hi) (fun i hi => by simp at hi)

theorem evStep_cases (m : MOp) : (∃ f args, m = .call f args) ∨ ∀ E ρ A, evStep E ρ A m = evOp ρ A m := by
  cases m with
  | call f args => exact .inl ⟨f, args, rfl⟩
  | _ => exact .inr fun _ _ _ => rfl

theorem getD_set_ne {t u : Nat} (tm : Array Value) (v : Value) (h : t ≠ u) : (tm.setIfInBounds t v).getD u undef = tm.getD u undef := by
  simp [Array.getD_eq_getD_getElem?, Array.getElem?_setIfInBounds_ne h]
theorem getD_set_self {t : Nat} (tm : Array Value) (v : Value) (h : t < tm.size) : (tm.setIfInBounds t v).getD t undef = v := by
  simp [Array.getD_eq_getD_getElem?, Array.getElem?_setIfInBounds_self_of_lt h]

theorem nodup_inj {vs : List Nat} (h : vs.Nodup) {i j : Nat} (hi : i < vs.length) (hj : j < vs.length) (e : vs[i] = vs[j]) : i = j := by
  have hp := List.pairwise_iff_getElem.1 h
  rcases Nat.lt_trichotomy i j with h1 | h1 | h1
  · exact absurd e (hp i j hi hj h1)
  · exact h1
  · exact absurd e.symm (hp j i hj hi h1)

/-- a slot that is a variable's is written -/
theorem RRel.putVar {w : World} {OK : Nat → Prop} {g : Ghost} {σ T : List AV} {ts : List (Option Nat)} {A : Arena} {a : Act} (hvn : vs.Nodup) (hvl : ∀ t ∈ vs, t < N) (h : RRel E N vs base w OK g σ T ts A a) {i t : Nat} (hi : i < vs.length) (ht : vs[i] = t) {v : Value} {x : AV} (hx : VRel w OK g v x) (y : AV) :
    RRel E N vs base w OK g (σ.set i x) (T ++ [y]) (ts ++ [none]) A (a.put (some t) v) where
  size := by simp [Act.put, h.size]
  defers := h.defers
  low := h.low
  len := by simp [h.len]
  vars k hk := by
    have hlt : t < N := hvl t (ht ▸ List.getElem_mem hi)
    by_cases e : i = k
    · subst e
      rw [ht]
      simp only [Act.put, getD_set_self _ _ (by rw [h.size]; exact hlt)]
      simp [List.getD_eq_getElem?_getD, List.getElem?_set_self (show i < σ.length by rw [h.len]; exact hi), hx]
    · have hne : t ≠ vs[k] := fun e2 => e (nodup_inj hvn hi hk (by rw [ht, e2]))
      simp only [Act.put, getD_set_ne _ _ hne]
      have := h.vars k hk
      simpa [List.getD_eq_getElem?_getD, List.getElem?_set_ne e] using this
  arena := h.arena
  glob := h.glob
  tlen := by simp [h.tlen]
  temps j u hj := by
    have hj' : ts[j]? = some (some u) := by
      rw [List.getElem?_append] at hj
      split at hj
      · exact hj
      · rename_i hge
        have : j - ts.length = 0 ∨ j - ts.length ≠ 0 := by omega
        rcases this with h0 | h0
        · rw [h0] at hj; simp at hj
        · rw [List.getElem?_eq_none (by simp; omega)] at hj; cases hj
    have hlt : j < ts.length := (List.getElem?_eq_some_iff.1 hj').1
    have hne : t ≠ u := fun e => (h.tok j u hj').2 (e ▸ ht ▸ List.getElem_mem hi)
    simp only [Act.put, getD_set_ne _ _ hne]
    have := h.temps j u hj'
    rw [List.getD_eq_getElem?_getD, List.getElem?_append_left (by rw [h.tlen]; exact hlt), ← List.getD_eq_getElem?_getD]
    exact this
  tok j u hj := by
    have hj' : ts[j]? = some (some u) := by
      rw [List.getElem?_append] at hj
      split at hj
      · exact hj
      · rename_i hge
        have : j - ts.length = 0 ∨ j - ts.length ≠ 0 := by omega
        rcases this with h0 | h0
        · rw [h0] at hj; simp at hj
        · rw [List.getElem?_eq_none (by simp; omega)] at hj; cases hj
    exact h.tok j u hj'
  tone j j' u hj hj' := by
    have key : ∀ j, (ts ++ [none])[j]? = some (some u) → ts[j]? = some (some u) := fun j hj => by
      rw [List.getElem?_append] at hj
      split at hj
      · exact hj
      · rename_i hge
        have : j - ts.length = 0 ∨ j - ts.length ≠ 0 := by omega
        rcases this with h0 | h0
        · rw [h0] at hj; simp at hj
        · rw [List.getElem?_eq_none (by simp; omega)] at hj; cases hj
    exact h.tone j j' u (key j hj) (key j' hj')

/-- an operation that writes no slot -/
theorem RRel.putNone {w : World} {OK : Nat → Prop} {g : Ghost} {σ T : List AV} {ts : List (Option Nat)} {A : Arena} {a : Act} (h : RRel E N vs base w OK g σ T ts A a) (v : Value) (y : AV) :
    RRel E N vs base w OK g σ (T ++ [y]) (ts ++ [none]) A (a.put none v) := by
  have key : ∀ u j, (ts ++ [none])[j]? = some (some u) → ts[j]? = some (some u) := fun u j hj => by
    rw [List.getElem?_append] at hj
    split at hj
    · exact hj
    · rename_i hge
      have : j - ts.length = 0 ∨ j - ts.length ≠ 0 := by omega
      rcases this with h0 | h0
      · rw [h0] at hj; simp at hj
      · rw [List.getElem?_eq_none (by simp; omega)] at hj; cases hj
  exact { size := h.size, defers := h.defers, low := h.low, len := h.len, vars := h.vars, arena := h.arena, glob := h.glob, tlen := by simp [h.tlen],
          temps := fun j u hj => by
            have hj' := key u j hj
            have hlt : j < ts.length := (List.getElem?_eq_some_iff.1 hj').1
            rw [List.getD_eq_getElem?_getD, List.getElem?_append_left (by rw [h.tlen]; exact hlt), ← List.getD_eq_getElem?_getD]
            exact h.temps j u hj'
          tok := fun j u hj => h.tok j u (key u j hj), tone := fun j j' u hj hj' => h.tone j j' u (key u j hj) (key u j' hj') }

/-- a slot of the region is written -/
theorem RRel.putTmp {w : World} {OK : Nat → Prop} {g : Ghost} {σ T : List AV} {ts : List (Option Nat)} {A : Arena} {a : Act} (h : RRel E N vs base w OK g σ T ts A a) {t : Nat} (htN : t < N) (htv : t ∉ vs) (htt : some t ∉ ts) {v : Value} {x : AV} (hx : VRel w OK g v x) :
    RRel E N vs base w OK g σ (T ++ [x]) (ts ++ [some t]) A (a.put (some t) v) := by
  have key : ∀ u j, (ts ++ [some t])[j]? = some (some u) → (ts[j]? = some (some u) ∧ j < ts.length) ∨ (j = ts.length ∧ u = t) := fun u j hj => by
    rw [List.getElem?_append] at hj
    split at hj
    · rename_i hlt; exact .inl ⟨hj, hlt⟩
    · rename_i hge
      have : j - ts.length = 0 ∨ j - ts.length ≠ 0 := by omega
      rcases this with h0 | h0
      · rw [h0] at hj; simp at hj; exact .inr ⟨by omega, hj.symm⟩
      · rw [List.getElem?_eq_none (by simp; omega)] at hj; cases hj
  have hmem : ∀ u j, ts[j]? = some (some u) → u ≠ t := fun u j hj e => htt (e ▸ List.mem_of_getElem? hj)
  exact { size := by simp [Act.put, h.size], defers := h.defers, low := h.low, len := h.len, arena := h.arena, glob := h.glob, tlen := by simp [h.tlen],
          vars := fun k hk => by
            have hne : t ≠ vs[k] := fun e => htv (e ▸ List.getElem_mem hk)
            simp only [Act.put, getD_set_ne _ _ hne]
            exact h.vars k hk
          temps := fun j u hj => by
            rcases key u j hj with ⟨hj', hlt⟩ | ⟨rfl, rfl⟩
            · simp only [Act.put, getD_set_ne _ _ (Ne.symm (hmem u j hj'))]
              rw [List.getD_eq_getElem?_getD, List.getElem?_append_left (by rw [h.tlen]; exact hlt), ← List.getD_eq_getElem?_getD]
              exact h.temps j u hj'
            · simp only [Act.put, getD_set_self _ _ (show u < a.tmps.size by rw [h.size]; exact htN)]
              rw [List.getD_eq_getElem?_getD, List.getElem?_append_right (by rw [h.tlen]; exact Nat.le_refl _)]
              simpa [h.tlen] using hx
          tok := fun j u hj => by
            rcases key u j hj with ⟨hj', hlt⟩ | ⟨rfl, rfl⟩
            · exact h.tok j u hj'
            · exact ⟨htN, htv⟩
          tone := fun j j' u hj hj' => by
            rcases key u j hj with ⟨h1, hlt⟩ | ⟨rfl, rfl⟩ <;> rcases key u j' hj' with ⟨h1', hlt'⟩ | ⟨h2, h3⟩
            · exact h.tone j j' u h1 h1'
            · exact absurd h3 (hmem u j h1)
            · exact absurd rfl (hmem u j' h1')
            · exact h2.symm }

theorem RRel.ext {w w' : World} {OK OK' : Nat → Prop} {g g' : Ghost} {σ T : List AV} {ts : List (Option Nat)} {A A' : Arena} {a : Act} (h : RRel E N vs base w OK g σ T ts A a) (e : Ext w OK g w' OK' g') (hA : ARel w' OK' g' A') : RRel E N vs base w' OK' g' σ T ts A' a :=
  { h.toSRel.ext e hA with tlen := h.tlen, temps := fun j t hj => (h.temps j t hj).ext h.arena e, tok := h.tok, tone := h.tone }

/-- whether an operation is carried out -/
theorem RRel.guard {w : World} {OK : Nat → Prop} {g : Ghost} {σ T : List AV} {ts : List (Option Nat)} {A : Arena} {a : Act} (hvl : ∀ t ∈ vs, t < N) (h : RRel E N vs base w OK g σ T ts A a) {ops : Array Oper} {o : Oper} {gd : Option (MX × Bool)} {b : Bool}
    (hc : compGuard vs ops ts o.guard = some gd) (he : evGuard (evX E σ T) gd = some b) : Region.wanted o (yielded ops a.tmps) = b := by
  unfold compGuard at hc
  split at hc
  · rename_i hg
    injection hc with hc; subst hc
    simp only [evGuard, Option.some.injEq] at he
    subst he
    simp [Region.wanted, hg]
  · rename_i j want hg
    split at hc
    · rename_i t ht
      simp only [Option.map_eq_some_iff] at hc
      obtain ⟨x, hx, rfl⟩ := hc
      have hv := h.eval (.tmp t) x hx
      have htN : t < a.tmps.size := by
        rw [h.size]
        unfold cxOf at hx
        simp only at hx
        split at hx
        · rename_i i hi
          exact hvl t (List.mem_of_getElem? (List.getElem?_eq_some_iff.2 (List.idxOf?_eq_some_iff.1 hi |> fun h => (⟨h.1, h.2.1⟩ : ∃ h : i < vs.length, vs[i] = t))))
        · simp only [Option.map_eq_some_iff] at hx
          obtain ⟨k, hk, _⟩ := hx
          obtain ⟨hlt, he⟩ := List.idxOf?_eq_some_iff.1 hk |> fun h => (⟨h.1, h.2.1⟩ : ∃ h : k < ts.length, ts[k] = some t)
          exact (h.tok k t (by rw [List.getElem?_eq_getElem hlt, he])).1
      have hy : yielded ops a.tmps j = match a.tmps[t]? with | some (.bool b) => some b | _ => none := by
        simp only [yielded, ht, Option.bind_some]
        rfl
      have hgt : a.tmps[t]? = some (a.tmps.getD t undef) := by
        rw [Array.getElem?_eq_getElem htN]; simp [Array.getD_eq_getD_getElem?, htN]
      simp only [Act.eval] at hv
      simp only [evGuard] at he
      split at he
      · rename_i c hcv
        rw [hcv] at hv
        injection he with he; subst he
        have := hv.inv_bool
        rw [this] at hgt
        simp [Region.wanted, hg, hy, hgt]
      · rename_i hcv
        rw [hcv] at hv
        injection he with he; subst he
        obtain ⟨us, vals, e, hl, _⟩ := hv.inv_tup
        rw [e] at hgt
        simp [Region.wanted, hg, hy, hgt]
      · cases he
    · cases hc
end
end Go.Proofs.Ytemklhljjaniaaa
/-
  The evaluation of regions and code is sound. Program-independent.
-/
namespace Go.Proofs.Ytemklhljjaniaaa
open Go
section
variable {P : Program} {E : Env} {N : Nat} {vs : List Nat} {base : Nat} {rd : Option Nat} {n : Nat}

theorem semAt_call (rd : Option Nat) (ρ : Operand → Value) (o : Oper) (h : ∀ c, o.op ≠ .defer c) : o.semAt rd ρ = execOp ρ o := by
  cases rd with
  | none => rfl
  | some l =>
    obtain ⟨dst, op, type, pos, after, guard⟩ := o
    cases op <;> first | rfl | exact absurd rfl (h _)

theorem compOp_noDefer {fz : Bool} {cx : Operand → Option MX} {o : Op} {m : MOp} (h : compOp P fz cx o = some m) : ∀ c, o ≠ .defer c := by
  rintro c rfl
  simp [compOp] at h

theorem compOp_call {fz : Bool} {cx : Operand → Option MX} {o : Op} {f : MX} {args : List MX} (h : compOp P fz cx o = some (.call f args)) : ∃ c fo, o = .call c ∧ c.callee = .value fo ∧ cx fo = some f ∧ cxs cx c.args.toList = some args := by
  cases o with
  | call c =>
    obtain ⟨callee, as', ts⟩ := c
    simp only [compOp] at h
    split at h
    · split at h
      · split at h <;> simp [Option.bind_eq_some_iff] at h
      · cases h
    · split at h
      · simp [Option.bind_eq_some_iff] at h
      · cases h
    · split at h
      · simp [Option.bind_eq_some_iff] at h
      · cases h
    · split at h
      · split at h
        · simp only [Option.bind_eq_bind, Option.bind_eq_some_iff, Option.ite_none_right_eq_some, Option.some.injEq] at h
          obtain ⟨_, _, _, _, _, _, _, _, _, _, _, h⟩ := h
          split at h <;> cases h
        · cases h
      · cases h
    · split at h
      · split at h
        · simp [Option.bind_eq_some_iff] at h
        · cases h
      · cases h
    · split at h
      · split at h
        · simp [Option.bind_eq_some_iff] at h
        · cases h
      · cases h
    · simp only [Option.bind_eq_bind, Option.bind_eq_some_iff, Option.some.injEq, MOp.call.injEq] at h
      obtain ⟨f', h1, l, h2, rfl, rfl⟩ := h
      exact ⟨_, _, rfl, rfl, h1, h2⟩
    · cases h
  | slice t x lo hi mx =>
    cases mx with
    | some m' =>
      cases hi with
      | none => simp [compOp] at h
      | some hh =>
        simp only [compOp] at h
        split at h <;> simp [Option.bind_eq_some_iff] at h
    | none =>
      simp only [compOp] at h
      split at h <;> simp [Option.bind_eq_some_iff] at h
  | makeMap t r => cases r <;> simp [compOp] at h
  | buildSlice t n ps =>
    simp only [compOp] at h
    split at h
    · cases fz <;> simp [Option.bind_eq_some_iff] at h
    · cases h
  | _ =>
    simp only [compOp] at h
    first
      | (simp [Option.bind_eq_some_iff] at h; done)
      | ((repeat' split at h) <;> simp [Option.bind_eq_some_iff] at h; done)

theorem fw_fn (rd : Option Nat) (f : FuncId) : (FW rd).fn f := trivial
theorem fw_depth (rd : Option Nat) : (FW rd).depth = none := rfl
theorem calls_fw {f : FuncId} {args : Array Value} {w : World} {R : Ending → World → Prop} (h : Calls P f args w R) (rd : Option Nat) (n : Nat) : CallsIn (FW rd) n P f args w R := by
  have h1 : CallsIn Fence.wide n P f args w R := callsIn_wide.2 h
  cases rd with
  | none => exact h1
  | some l => exact h1.inRound l

/-- One operation. -/
theorem step_soundG {fz : Bool} (hE : EnvSound P E) {w : World} {OK : Nat → Prop} {g : Ghost} {σ T : List AV} {A A' : Arena} {a : Act} {o : Oper} {m : MOp} {r : AV} {Q : Exit → Act → World → Prop} {K : Act → World → Prop} {cx : Operand → Option MX}
    (hx : ∀ x y, cx x = some y → VRel w OK g (a.eval x) (evX E σ T y)) (hA : ARel w OK g A) (hI : IRel E.glob E.ys w OK g) (hc : compOp P fz cx o.op = some m) (he : evStep E (evX E σ T) A m = some (r, A'))
    (hK : ∀ v w' OK' g', VRel w' OK' g' v r → ARel w' OK' g' A' → Ext w OK g w' OK' g' → K (a.put o.dst v) w') : o.wpIn (FW rd) n P a w K Q := by
  refine ⟨fun f _ => fw_fn rd f, ?_⟩
  rw [show o.semAt (FW rd).round a.eval = execOp a.eval o from semAt_call _ _ _ (compOp_noDefer hc)]
  rcases evStep_cases m with ⟨f, args, rfl⟩ | hm
  · obtain ⟨c, fo, hop, hcal, hf, hargs⟩ := compOp_call hc
    have hfv := hx fo f hf
    have hlr := cxs_rel (ρc := a.eval) (ρ := evX E σ T) hx hargs
    have hcall := hE.call _ _ _ _ _ he w OK g _ _ hA hI hfv hlr
    have hex : execOp a.eval o = (do let d ← Deferred.ofValue (a.eval fo) (c.args.toList.map a.eval).toArray; invoke d.target d.args : Sem Next) := by
      unfold execOp
      rw [hop]
      simp only [resolve, hcal]
      congr 1
      congr 1
      apply Array.ext'
      simp
    rw [hex]
    rcases hcall with ⟨v, w', OK', g', e1, e2, e3, e4⟩ | ⟨fid, as', e1, e2⟩ | ⟨l, fid, tmps, assign, body, e1, e2⟩
    · rw [e1]
      exact hK v w' OK' g' e2 e3 e4
    · rw [e1]
      refine ⟨fun hd => by simp [fw_depth] at hd, ?_⟩
      refine (calls_fw e2 rd (n - 1)).mono ?_
      rintro e w' ⟨v, OK', g', rfl, k2, k3, k4⟩
      exact hK v w' OK' g' k2 k3 k4
    · rw [e1]
      refine ⟨fun hd => by simp [fw_depth] at hd, ?_⟩
      refine (e2 rd (n - 1)).mono ?_
      rintro e w' ⟨v, OK', g', rfl, k2, k3, k4⟩
      exact hK v w' OK' g' k2 k3 k4
  · rw [hm] at he
    obtain ⟨v, w', OK', g', e1, e2, e3, e4⟩ := evOp_sound (ρc := a.eval) (ρ := evX E σ T) (fun _ => rfl) (fun _ => rfl) hx hA hc he
    rcases e1 with e1 | ⟨e1, rfl⟩
    · rw [e1]; exact hK v w' OK' g' e2 e3 e4
    · rw [e1]; exact hK _ w' OK' g' e2 e3 e4

theorem step_sound {fz : Bool} (hE : EnvSound P E) {w : World} {OK : Nat → Prop} {g : Ghost} {σ T : List AV} {ts : List (Option Nat)} {A A' : Arena} {a : Act} {o : Oper} {m : MOp} {r : AV} {Q : Exit → Act → World → Prop} {K : Act → World → Prop}
    (h : RRel E N vs base w OK g σ T ts A a) (hc : compOp P fz (cxOf vs ts) o.op = some m) (he : evStep E (evX E σ T) A m = some (r, A'))
    (hK : ∀ v w' OK' g', VRel w' OK' g' v r → ARel w' OK' g' A' → Ext w OK g w' OK' g' → K (a.put o.dst v) w') : o.wpIn (FW rd) n P a w K Q :=
  step_soundG hE (fun x y hy => h.eval x y hy) h.arena h.glob hc he hK

theorem evStep_bad (ρ : MX → AV) (A : Arena) : evStep E ρ A badOp = none ∨ ∃ x, evStep E ρ A badOp = some x ∧ ρ (.cst .undef) ≠ .undef := by
  cases h : evStep E ρ A badOp with
  | none => exact .inl rfl
  | some x =>
    refine .inr ⟨x, rfl, fun e => ?_⟩
    simp [evStep, badOp, evOp, e, evUn] at h

theorem evOps_sound {on : Bool} (hE : EnvSound P E) (hvn : vs.Nodup) (hvl : ∀ t ∈ vs, t < N) {ops : Array Oper} {Q : Exit → Act → World → Prop} {w0 : World} {OK0 : Nat → Prop} {g0 : Ghost} {σ' : List AV} {A' : Arena}
    (hQ : ∀ a w OK g, SRel E N vs base w OK g σ' A' a → Ext w0 OK0 g0 w OK g → Q .normal a w) :
    ∀ (rest : List Oper) (k : Nat) (ts : List (Option Nat)) (σ T : List AV) (A : Arena) (a : Act) (w : World) (OK : Nat → Prop) (g : Ghost), ops.toList.drop k = rest →
      RRel E N vs base w OK g σ T ts A a → Ext w0 OK0 g0 w OK g → evOps E (compOps P N vs on ops rest ts) σ T A = some (σ', A') → wpOpsIn (FW rd) n P ops Q (List.range' k rest.length) a w
  | [], k, ts, σ, T, A, a, w, OK, g, _, h, hx, he => by
    simp only [compOps, evOps, Option.some.injEq, Prod.mk.injEq] at he
    obtain ⟨rfl, rfl⟩ := he
    exact hQ a w OK g h.toSRel hx
  | o :: rest, k, ts, σ, T, A, a, w, OK, g, hd, h, hx, he => by
    have hlt : k < ops.toList.length := by
      rcases Nat.lt_or_ge k ops.toList.length with h1 | h1
      · exact h1
      · rw [List.drop_eq_nil_of_le h1] at hd; cases hd
    have hok : ops[k]? = some o := by
      have := congrArg (fun l => l[0]?) hd
      simpa [List.getElem?_drop] using this
    have hd' : ops.toList.drop (k + 1) = rest := by
      have := congrArg List.tail hd
      simpa [List.tail_drop] using this
    have ih := fun ts σ T A a w OK g => evOps_sound (on := on) hE hvn hvl hQ rest (k + 1) ts σ T A a w OK g hd'
    rw [List.length_cons, List.range'_succ]
    simp only [wpOpsIn, hok]
    have hbad : ∀ σ T A, evOps E [⟨none, badOp, none⟩] σ T A = none := fun σ T A => by simp [evOps, evGuard, evStep, badOp, evOp, evX, evUn]
    unfold compOps at he
    split at he
    · rename_i gd hgd
      -- what follows, by the slot that is written
      have fin : ∀ (mo : MO) (mos' : List MO), mo.op = (compOp P (frzUse on vs ops o) (cxOf vs ts) o.op).getD badOp → mo.guard = gd → evOps E (mo :: mos') σ T A = some (σ', A') →
          (∀ v w' OK' g' x A2, VRel w' OK' g' v x → ARel w' OK' g' A2 → Ext w OK g w' OK' g' → evOps E mos' (setVar σ mo.dst x) (T ++ [x]) A2 = some (σ', A') → wpOpsIn (FW rd) n P ops Q (List.range' (k + 1) rest.length) (a.put o.dst v) w') →
          (if Region.wanted o (yielded ops a.tmps) then o.wpIn (FW rd) n P a w (wpOpsIn (FW rd) n P ops Q (List.range' (k + 1) rest.length)) Q
            else (∀ f, o.about P w a.eval = some f → (FW rd).fn f) ∧ wpOpsIn (FW rd) n P ops Q (List.range' (k + 1) rest.length) (a.put o.dst undef) w) := by
        rintro ⟨mdst, mop, mg⟩ mos' hm' hg' he2 hnext
        simp only at hm' hg'
        subst hg'
        simp only [evOps] at he2
        split at he2
        · rename_i hgt
          rw [h.guard hvl hgd hgt, if_pos rfl]
          split at he2
          · rename_i x A2 hst
            cases hm : compOp P (frzUse on vs ops o) (cxOf vs ts) o.op with
            | none =>
              rw [hm] at hm'
              simp only [Option.getD_none] at hm'
              subst hm'
              rcases evStep_bad (E := E) (evX E σ T) A with h0 | ⟨x0, _, h0⟩
              · rw [h0] at hst; cases hst
              · exact absurd rfl h0
            | some m =>
              rw [hm] at hm'
              simp only [Option.getD_some] at hm'
              subst hm'
              exact step_sound hE h hm hst (fun v w' OK' g' k1 k2 k3 => hnext v w' OK' g' x A2 k1 k2 k3 he2)
          · cases he2
        · rename_i hgt
          rw [h.guard hvl hgd hgt]
          refine ⟨fun f _ => fw_fn rd f, hnext undef w OK g (.tup []) A ?_ h.arena (Ext.refl _ _ _) he2⟩
          exact .tup _ _ [] rfl (fun _ => undef) (fun i hi => by simp at hi) (fun i hi => by simp at hi)
        · cases he2
      simp only at he
      split at he
      · rename_i hdst
        refine fin _ _ rfl rfl he (fun v w' OK' g' x A2 k1 k2 k3 k4 => ?_)
        rw [hdst]
        exact ih _ _ _ A2 _ w' OK' g' ((h.ext k3 k2).putNone v x) (hx.trans k3) k4
      · rename_i t hdst
        split at he
        · rename_i i hi
          obtain ⟨hlt, het⟩ := List.idxOf?_eq_some_iff.1 hi |> fun h => (⟨h.1, h.2.1⟩ : ∃ h : i < vs.length, vs[i] = t)
          refine fin _ _ rfl rfl he (fun v w' OK' g' x A2 k1 k2 k3 k4 => ?_)
          rw [hdst]
          exact ih _ _ _ A2 _ w' OK' g' ((h.ext k3 k2).putVar hvn hvl hlt het k1 x) (hx.trans k3) k4
        · rename_i hni
          split at he
          · rename_i hc
            refine fin _ _ rfl rfl he (fun v w' OK' g' x A2 k1 k2 k3 k4 => ?_)
            rw [hdst]
            exact ih _ _ _ A2 _ w' OK' g' ((h.ext k3 k2).putTmp hc.1 (by simpa using hni) hc.2 k1) (hx.trans k3) k4
          · rw [hbad] at he; cases he
    · rw [hbad] at he; cases he
end
end Go.Proofs.Ytemklhljjaniaaa
/-
  Regions whose order is open: operations that may change places; any order leaves what the text's order leaves. Program-independent.
-/
namespace Go.Proofs.Ytemklhljjaniaaa
open Go
section
variable {P : Program} {E : Env} {N : Nat} {vs : List Nat} {base : Nat} {rd : Option Nat} {n : Nat}

theorem evStep_congr {ρ ρ' : MX → AV} (m : MOp) (h : ∀ x ∈ m.xs, ρ x = ρ' x) (A : Arena) : evStep E ρ A m = evStep E ρ' A m := by
  cases m with
  | call f args => simp only [evStep, h f (by simp [MOp.xs]), List.map_congr_left (l := args) (fun x hx => h x (by simp [MOp.xs, hx]))]
  | build zs ps =>
    simp only [evStep, evOp]
    rw [List.map_congr_left (g := fun x : Nat × Nat × MX => (x.1, x.2.1, ρ' x.2.2)) (fun x hx => by rw [h x.2.2 (by simp only [MOp.xs, List.mem_map]; exact ⟨x, hx, rfl⟩)])]
  | buildF e xs => simp only [evStep, evOp, List.map_congr_left (l := xs) (fun x hx => h x (by simp [MOp.xs, hx]))]
  | buildSlice e xs => simp only [evStep, evOp, List.map_congr_left (l := xs) (fun x hx => h x (by simp [MOp.xs, hx]))]
  | makeFunc fn a b => simp only [evStep, evOp, List.map_congr_left (l := a) (fun x hx => h x (by simp [MOp.xs, hx])), List.map_congr_left (l := b) (fun x hx => h x (by simp [MOp.xs, hx]))]
  | minmax b x xs => simp only [evStep, evOp, h x (by simp [MOp.xs]), List.map_congr_left (l := xs) (fun x hx => h x (by simp [MOp.xs, hx]))]
  | sliceStr x lo hi => cases lo <;> cases hi <;> simp_all [evStep, evOp, MOp.xs]
  | sliceSl e x lo hi => cases lo <;> cases hi <;> simp_all [evStep, evOp, MOp.xs]
  | sliceM e x lo hi mx => cases lo <;> simp_all [evStep, evOp, MOp.xs]
  | _ => simp_all [evStep, evOp, MOp.xs]

/-- what one operation yields -/
def evRes1 (E : Env) (o : MO) (ρ : MX → AV) (A : Arena) : Option (AV × Arena) :=
  match evGuard ρ o.guard with
  | some true => evStep E ρ A o.op
  | some false => some (.tup [], A)
  | none => none

theorem evRes1_congr {ρ ρ' : MX → AV} (o : MO) (h : ∀ x ∈ o.reads, ρ x = ρ' x) (A : Arena) : evRes1 E o ρ A = evRes1 E o ρ' A := by
  unfold evRes1
  rw [evStep_congr o.op (fun x hx => h x (by simp [MO.reads, hx])) A]
  cases hg : o.guard with
  | none => rfl
  | some p =>
    obtain ⟨x, want⟩ := p
    simp only [evGuard, h x (by simp [MO.reads, hg])]

abbrev St := List AV × List AV × Arena
def evAt (E : Env) (mos : List MO) (i : Nat) (s : St) : Option St :=
  match mos[i]? with
  | none => none
  | some o => (evRes1 E o (evX E s.1 s.2.1) s.2.2).map fun x => (setVar s.1 o.dst x.1, s.2.1.set i x.1, x.2)

theorem kind0 {pu : List FuncId} {m : MOp} (h : opKind pu m = 0) (ρ : MX → AV) (A : Arena) : footOp E pu ρ A m = .no := by
  cases m with
  | call f args => cases f <;> simp [opKind] at h <;> (split at h <;> simp at h)
  | _ => first | rfl | (simp [opKind] at h; done)
theorem kind1 {pu : List FuncId} {m : MOp} (h : opKind pu m = 1) (ρ : MX → AV) (A : Arena) : (footOp E pu ρ A m).wr = some [] ∧ (footOp E pu ρ A m).al = false := by
  cases m with
  | call f args =>
    cases f with
    | fn f =>
      simp only [opKind] at h
      split at h
      · rename_i hc
        simp only [footOp, hc, if_true]
        split <;> exact ⟨rfl, rfl⟩
      · cases h
    | _ => simp [opKind] at h
  | _ => first | exact ⟨rfl, rfl⟩ | (simp [opKind] at h; done)

/-! ### what an operation touches -/

def updO (u : Option (Nat × Ent)) (A : Arena) : Arena := match u with
  | some (i, e) => A.set i e
  | none => A
theorem updO_length (u : Option (Nat × Ent)) (A : Arena) : (updO u A).length = A.length := by cases u <;> simp [updO]
theorem updO_get {u : Option (Nat × Ent)} {A : Arena} {k : Nat} (h : ∀ x, u = some x → x.1 ≠ k) : (updO u A)[k]? = A[k]? := by
  cases u with
  | none => rfl
  | some x => exact List.getElem?_set_ne (h x rfl)
theorem updO_append {u : Option (Nat × Ent)} {A p : Arena} (h : ∀ x, u = some x → x.1 < A.length) : updO u (A ++ p) = updO u A ++ p := by
  cases u with
  | none => rfl
  | some x => simp only [updO]; rw [List.set_append_left _ _ (h x rfl)]
theorem updO_comm {u u' : Option (Nat × Ent)} {A : Arena} (h : ∀ x y, u = some x → u' = some y → x.1 ≠ y.1) : updO u (updO u' A) = updO u' (updO u A) := by
  cases u with
  | none => rfl
  | some x =>
    cases u' with
    | none => rfl
    | some y => exact List.set_comm _ _ (Ne.symm (h x y rfl rfl))

/-- two arenas that agree on what is touched -/
structure Agree (F : Foot) (W : List Nat) (A B : Arena) : Prop where
  all : F.rd = none → B = A
  rd : ∀ l, F.rd = some l → ∀ id ∈ l, B[id]? = A[id]?
  wr : ∀ id ∈ W, B[id]? = A[id]?
  len : F.al = true → B.length = A.length

theorem evLoad_congr {agg : Bool} {size : Nat} {A B : Arena} {a : AV} (h : ∀ id ∈ idsOf a, B[id]? = A[id]?) : evLoad agg size B a = evLoad agg size A a := by
  cases a <;> simp only [evLoad]
  rw [h _ (by simp [idsOf])]
theorem srcElems_congr {esz : Nat} {A B : Arena} {a : AV} (h : ∀ id ∈ idsOf a, B[id]? = A[id]?) : srcElems esz B a = srcElems esz A a := by
  cases a <;> simp only [srcElems]
  rw [h _ (by simp [idsOf])]
theorem evIndexSl_congr {esz : Nat} {A B : Arena} {a b : AV} (h : ∀ id ∈ idsOf a, B[id]? = A[id]?) : evIndexSl esz B a b = evIndexSl esz A a b := by
  cases a <;> cases b <;> simp only [evIndexSl]
  rw [h _ (by simp [idsOf])]
theorem evIndexArr_congr {n s : Nat} {A B : Arena} {a b : AV} (h : ∀ id ∈ idsOf a, B[id]? = A[id]?) : evIndexArr n s B a b = evIndexArr n s A a b := by
  cases a <;> cases b <;> simp only [evIndexArr]
  rw [h _ (by simp [idsOf])]
theorem evFieldAddr_congr {n : Nat} {A B : Arena} {a : AV} (h : ∀ id ∈ idsOf a, B[id]? = A[id]?) : evFieldAddr n B a = evFieldAddr n A a := by
  cases a <;> simp only [evFieldAddr]
  rw [h _ (by simp [idsOf])]
theorem evSliceSl_congr {n : Nat} {lo hi : Option AV} {A B : Arena} {a : AV} (h : ∀ id ∈ idsOf a, B[id]? = A[id]?) : evSliceSl n B lo hi a = evSliceSl n A lo hi a := by
  cases a <;> simp only [evSliceSl]
  rw [h _ (by simp [idsOf])]
theorem evSliceM_congr {n : Nat} {lo : Option AV} {hi mx : AV} {A B : Arena} {a : AV} (h : ∀ id ∈ idsOf a, B[id]? = A[id]?) : evSliceM n B lo hi mx a = evSliceM n A lo hi mx a := by
  unfold evSliceM
  split
  · rw [evSliceSl_congr h]
  · rfl
theorem evLenMap_congr {A B : Arena} {a : AV} (h : ∀ id ∈ idsOf a, B[id]? = A[id]?) : evLenMap B a = evLenMap A a := by
  cases a <;> simp only [evLenMap]
  rw [h _ (by simp [idsOf])]
theorem evToStr_congr {A B : Arena} {a : AV} (h : ∀ id ∈ idsOf a, B[id]? = A[id]?) : evToStr B a = evToStr A a := by
  cases a <;> simp only [evToStr, srcElems_congr h]
theorem evLookup_congr {ok : Bool} {z : AV} {A B : Arena} {a b : AV} (h : ∀ id ∈ idsOf a, B[id]? = A[id]?) : evLookup ok z B a b = evLookup ok z A a b := by
  cases a <;> cases b <;> simp only [evLookup]
  all_goals rw [h _ (by simp [idsOf])]

theorem evStore_frame {size : Nat} {A A1 : Arena} {a b : AV} (h1 : evStore size A a b = some A1) : ∃ id e, idsOf a = [id] ∧ id < A.length ∧ A1 = A.set id e ∧ ∀ B : Arena, B[id]? = A[id]? → evStore size B a b = some (B.set id e) := by
  cases a <;> simp only [evStore, reduceCtorEq] at h1
  rename_i id i o
  split at h1
  · rename_i esz gr es hid
    have hlt := (List.getElem?_eq_some_iff.1 hid).1
    split at h1
    · rename_i e0 hi
      split at h1
      · rename_i hc
        split at h1
        · rename_i e' hse
          injection h1 with h1
          exact ⟨id, _, rfl, hlt, h1.symm, fun B hB => by simp only [evStore, hB, hid, hi, if_pos hc, hse]⟩
        · cases h1
      · cases h1
    · cases h1
  · cases h1
theorem evMapUpdate_frame {A A1 : Arena} {a k x : AV} (h1 : evMapUpdate A a k x = some A1) : ∃ id e, idsOf a = [id] ∧ id < A.length ∧ A1 = A.set id e ∧ ∀ B : Arena, B[id]? = A[id]? → evMapUpdate B a k x = some (B.set id e) := by
  cases a <;> simp only [evMapUpdate, reduceCtorEq] at h1
  rename_i id
  split at h1
  · rename_i kvs hid
    have hlt := (List.getElem?_eq_some_iff.1 hid).1
    split at h1
    · rename_i i0 v0 hf
      injection h1 with h1
      exact ⟨id, _, rfl, hlt, h1.symm, fun B hB => by simp only [evMapUpdate, hB, hid, hf]⟩
    · rename_i hf
      refine ⟨id, .map (kvs ++ [(k, x)]), rfl, hlt, ?_, fun B hB => ?_⟩
      · cases k <;> simp only [reduceCtorEq, Option.some.injEq] at h1 <;> exact h1.symm
      · cases k <;> simp only [reduceCtorEq, Option.some.injEq] at h1 <;> simp only [evMapUpdate, hB, hid, hf]
    · cases h1
  · cases h1

/-- what a step leaves, and that it leaves the same of an arena that agrees -/
def Framed (E : Env) (pu : List FuncId) (ρ : MX → AV) (m : MOp) (A : Arena) (v : AV) (A' : Arena) : Prop :=
  ∀ W, (footOp E pu ρ A m).wr = some W → ∃ (u : Option (Nat × Ent)) (p : Option Ent), (∀ x, u = some x → x.1 ∈ W ∧ x.1 < A.length) ∧ ((footOp E pu ρ A m).al = false → p = none) ∧ ((footOp E pu ρ A m).al = true → A.length ∈ W) ∧ A' = updO u A ++ p.toList ∧
    ∀ B, Agree (footOp E pu ρ A m) W A B → evStep E ρ B m = some (v, updO u B ++ p.toList) ∧ footOp E pu ρ B m = footOp E pu ρ A m

theorem framed_read {pu : List FuncId} {ρ : MX → AV} {m : MOp} {A A' : Arena} {v : AV} (hf : (footOp E pu ρ A m).wr = some [] ∧ (footOp E pu ρ A m).al = false) (h1 : A' = A) (hc : ∀ B, Agree (footOp E pu ρ A m) [] A B → evStep E ρ B m = some (v, B) ∧ footOp E pu ρ B m = footOp E pu ρ A m) : Framed E pu ρ m A v A' := by
  intro W hW
  rw [hf.1] at hW
  injection hW with hW; subst hW
  exact ⟨none, none, (fun x h => by cases h), fun _ => rfl, (fun h => by rw [hf.2] at h; cases h), by simp [updO, h1], fun B hB => by simpa [updO] using hc B hB⟩
theorem framed_al {pu : List FuncId} {ρ : MX → AV} {m : MOp} {A A' : Arena} {v : AV} {e : Ent} (hf : ∀ B, footOp E pu ρ B m = ⟨some [], some [B.length], true, kp0⟩) (h1 : A' = A ++ [e]) (hc : ∀ B : Arena, B.length = A.length → evStep E ρ B m = some (v, B ++ [e])) : Framed E pu ρ m A v A' := by
  intro W hW
  rw [hf A] at hW
  injection hW with hW; subst hW
  refine ⟨none, some e, (fun x h => by cases h), fun h => ?_, (fun _ => by simp), by simp [updO, h1], fun B hB => ?_⟩
  · rw [hf A] at h; cases h
  · have hl := hB.len (by rw [hf A])
    exact ⟨by simpa [updO] using hc B hl, by rw [hf A, hf B, hl]⟩

/-- functions that leave the arena alone; without references they do not look at it -/
def PureIn (E : Env) (pu : List FuncId) : Prop := ∀ f ∈ pu, ∀ h args A r A', E.callY h (.func (.func f) [] []) args A = some (r, A') → A' = A ∧ (args.all (noRefB 4) = true → ∀ B, E.callY h (.func (.func f) [] []) args B = some (r, B))
theorem PureIn.nil {E : Env} : PureIn E [] := fun _ h => by cases h

theorem frame {pu : List FuncId} (hpu : PureIn E pu) {ρ : MX → AV} (hfn : ∀ f, ρ (.fn f) = .func (.func f) [] []) {m : MOp} {A : Arena} {v : AV} {A' : Arena} (he : evStep E ρ A m = some (v, A')) : Framed E pu ρ m A v A' := by
  have rd1 : ∀ (x : AV) (f : Arena → Option AV) , (∀ B, footOp E pu ρ B m = ⟨some (idsOf x), some [], false, kp0⟩) → (∀ B, evStep E ρ B m = (f B).map (·, B)) → (∀ B, (∀ id ∈ idsOf x, B[id]? = A[id]?) → f B = f A) → Framed E pu ρ m A v A' := by
    intro x f hF hS hcg
    rw [hS] at he
    simp only [Option.map_eq_some_iff, Prod.mk.injEq] at he
    obtain ⟨y, h1, h2, h3⟩ := he
    refine framed_read (by rw [hF A]; exact ⟨rfl, rfl⟩) h3.symm (fun B hB => ⟨?_, by rw [hF A, hF B]⟩)
    rw [hS, hcg B (hB.rd _ (by rw [hF A])), h1, ← h2]
    rfl
  have rd0 : ∀ (r : Option AV), (∀ B, footOp E pu ρ B m = .no) → (∀ B, evStep E ρ B m = r.map (·, B)) → Framed E pu ρ m A v A' := by
    intro r hF hS
    rw [hS] at he
    simp only [Option.map_eq_some_iff, Prod.mk.injEq] at he
    obtain ⟨y, h1, h2, h3⟩ := he
    refine framed_read (by rw [hF A]; exact ⟨rfl, rfl⟩) h3.symm (fun B hB => ⟨?_, by rw [hF A, hF B]⟩)
    rw [hS, h1, ← h2]
    rfl
  cases m with
  | load agg size p => exact rd1 (ρ p) (fun B => evLoad agg size B (ρ p)) (fun _ => rfl) (fun _ => rfl) (fun B h => evLoad_congr h)
  | fieldAddr off p => exact rd1 (ρ p) (fun B => evFieldAddr off B (ρ p)) (fun _ => rfl) (fun _ => rfl) (fun B h => evFieldAddr_congr h)
  | indexSl esz x i => exact rd1 (ρ x) (fun B => evIndexSl esz B (ρ x) (ρ i)) (fun _ => rfl) (fun _ => rfl) (fun B h => evIndexSl_congr h)
  | indexArr n s x i => exact rd1 (ρ x) (fun B => evIndexArr n s B (ρ x) (ρ i)) (fun _ => rfl) (fun _ => rfl) (fun B h => evIndexArr_congr h)
  | sliceSl esz x lo hi => exact rd1 (ρ x) (fun B => evSliceSl esz B (lo.map ρ) (hi.map ρ) (ρ x)) (fun _ => rfl) (fun _ => rfl) (fun B h => evSliceSl_congr h)
  | sliceM esz x lo hi mx => exact rd1 (ρ x) (fun B => evSliceM esz B (lo.map ρ) (ρ hi) (ρ mx) (ρ x)) (fun _ => rfl) (fun _ => rfl) (fun B h => evSliceM_congr h)
  | lenMap x => exact rd1 (ρ x) (fun B => evLenMap B (ρ x)) (fun _ => rfl) (fun _ => rfl) (fun B h => evLenMap_congr h)
  | toStr x => exact rd1 (ρ x) (fun B => evToStr B (ρ x)) (fun _ => rfl) (fun _ => rfl) (fun B h => evToStr_congr h)
  | lookup kd ok z x k => exact rd1 (ρ x) (fun B => if isKey kd (ρ k) then evLookup ok z B (ρ x) (ρ k) else none) (fun _ => rfl) (fun B => by simp only [evStep, evOp]; split <;> rfl) (fun B h => by simp only [evLookup_congr h])
  | store size p x =>
    intro W hW
    injection hW with hW; subst hW
    simp only [evStep, evOp, Option.map_eq_some_iff, Prod.mk.injEq] at he
    obtain ⟨A1, h1, rfl, rfl⟩ := he
    have key := evStore_frame h1
    obtain ⟨id, e, hid, hlt, rfl, hB⟩ := key
    refine ⟨some (id, e), none, fun x h => ?_, fun _ => rfl, fun h => (by cases h), by simp [updO], fun B hA => ⟨?_, rfl⟩⟩
    · injection h with h; subst h; exact ⟨by rw [hid]; simp, hlt⟩
    · simp only [evStep, evOp, hB B (hA.wr id (by rw [hid]; simp))]
      simp [updO]
  | mapUpdate kd mm k x =>
    intro W hW
    injection hW with hW; subst hW
    simp only [evStep, evOp, Option.ite_none_right_eq_some, Option.map_eq_some_iff, Prod.mk.injEq] at he
    obtain ⟨hk, A1, h1, rfl, rfl⟩ := he
    have key := evMapUpdate_frame h1
    obtain ⟨id, e, hid, hlt, rfl, hB⟩ := key
    refine ⟨some (id, e), none, fun x h => ?_, fun _ => rfl, fun h => (by cases h), by simp [updO], fun B hA => ⟨?_, rfl⟩⟩
    · injection h with h; subst h; exact ⟨by rw [hid]; simp, hlt⟩
    · simp only [evStep, evOp, hk, if_true, hB B (hA.wr id (by rw [hid]; simp))]
      simp [updO]
  | copy esz d x =>
    intro W hW
    injection hW with hW; subst hW
    simp only [evStep, evOp] at he
    unfold evCopy at he
    split at he
    · cases he
    · rename_i xs hsrc
      have hs : ∀ B, Agree (footOp E pu ρ A (.copy esz d x)) (idsOf (ρ d)) A B → srcElems esz B (ρ x) = some xs := fun B hB => by rw [srcElems_congr (hB.rd _ rfl)]; exact hsrc
      split at he
      · rename_i hd
        simp only [Option.some.injEq, Prod.mk.injEq] at he
        obtain ⟨rfl, rfl⟩ := he
        refine ⟨none, none, fun x h => (by cases h), fun _ => rfl, fun h => (by cases h), by simp [updO], fun B hB => ⟨?_, rfl⟩⟩
        simp [evStep, evOp, evCopy, hs B hB, hd, updO]
      · rename_i id off len hd
        split at he
        · rename_i s' gr es hid
          simp only [Option.ite_none_right_eq_some, Option.some.injEq, Prod.mk.injEq] at he
          obtain ⟨hc, rfl, rfl⟩ := he
          have hlt := (List.getElem?_eq_some_iff.1 hid).1
          refine ⟨some (id, _), none, fun x h => ?_, fun _ => rfl, fun h => (by cases h), by simp [updO]; rfl, fun B hB => ⟨?_, rfl⟩⟩
          · injection h with h; subst h; exact ⟨by rw [hd]; simp [idsOf], hlt⟩
          · have := hB.wr id (by rw [hd]; simp [idsOf])
            simp only [evStep, evOp, evCopy, hs B hB, hd, this, hid, if_pos hc, updO]
            simp
        · cases he
      · cases he
  | append esz bytes sx x =>
    intro W hW
    injection hW with hW; subst hW
    simp only [evStep, evOp] at he
    unfold evAppend at he
    split at he
    · cases he
    · rename_i xs hsrc
      have hs : ∀ B, Agree (footOp E pu ρ A (.append esz bytes sx x)) (A.length :: idsOf (ρ sx)) A B → srcElems esz B (ρ x) = some xs := fun B hB => by rw [srcElems_congr (hB.rd _ rfl)]; exact hsrc
      have hft : ∀ B, Agree (footOp E pu ρ A (.append esz bytes sx x)) (A.length :: idsOf (ρ sx)) A B → footOp E pu ρ B (.append esz bytes sx x) = footOp E pu ρ A (.append esz bytes sx x) := fun B hB => by
        simp only [footOp, hB.len rfl]
      have hal : ∀ {p : Prop}, (footOp E pu ρ A (.append esz bytes sx x)).al = false → p := fun h => by cases h
      split at he
      · rename_i hd
        split at he
        · rename_i h0
          simp only [Option.some.injEq, Prod.mk.injEq] at he
          obtain ⟨rfl, rfl⟩ := he
          refine ⟨none, none, fun x h => (by cases h), fun h => hal h, fun _ => (by simp), by simp [updO], fun B hB => ⟨?_, hft B hB⟩⟩
          simp [evStep, evOp, evAppend, hs B hB, hd, h0, updO]
        · rename_i h0
          simp only [Option.ite_none_right_eq_some, Option.some.injEq, Prod.mk.injEq] at he
          obtain ⟨hc, rfl, rfl⟩ := he
          refine ⟨none, some _, fun x h => (by cases h), fun h => hal h, fun _ => (by simp), by simp [updO]; rfl, fun B hB => ⟨?_, hft B hB⟩⟩
          have hl := hB.len rfl
          simp only [evStep, evOp, evAppend, hs B hB, hd, if_neg h0, if_pos hc, updO, hl]
          simp
      · rename_i id off len hd
        split at he
        · rename_i s' gr es hid
          simp only [Option.ite_none_right_eq_some] at he
          obtain ⟨hc, he⟩ := he
          have hlt := (List.getElem?_eq_some_iff.1 hid).1
          split at he
          · rename_i hc2
            simp only [Option.some.injEq, Prod.mk.injEq] at he
            obtain ⟨rfl, rfl⟩ := he
            refine ⟨some (id, _), none, fun x h => ?_, fun h => hal h, fun _ => (by simp), by simp [updO]; rfl, fun B hB => ⟨?_, hft B hB⟩⟩
            · injection h with h; subst h; exact ⟨by rw [hd]; simp [idsOf], hlt⟩
            · have := hB.wr id (by rw [hd]; simp [idsOf])
              simp only [evStep, evOp, evAppend, hs B hB, hd, this, hid, if_pos hc, if_pos hc2, updO]
              simp
          · rename_i hc2
            simp only [Option.some.injEq, Prod.mk.injEq] at he
            obtain ⟨rfl, rfl⟩ := he
            refine ⟨some (id, .dead), some _, fun x h => ?_, fun h => hal h, fun _ => (by simp), by simp [updO]; rfl, fun B hB => ⟨?_, hft B hB⟩⟩
            · injection h with h; subst h; exact ⟨by rw [hd]; simp [idsOf], hlt⟩
            · have := hB.wr id (by rw [hd]; simp [idsOf])
              have hl := hB.len rfl
              simp only [evStep, evOp, evAppend, hs B hB, hd, this, hid, if_pos hc, if_neg hc2, updO, hl]
              simp
        · cases he
      · cases he
  | appendN esz bytes sx x =>
    intro W hW
    injection hW with hW; subst hW
    simp only [evStep, evOp] at he
    unfold evAppendN at he
    split at he
    · cases he
    · rename_i xs hsrc
      have hs : ∀ B, Agree (footOp E pu ρ A (.appendN esz bytes sx x)) (A.length :: idsOf (ρ sx)) A B → srcElems esz B (ρ x) = some xs := fun B hB => by rw [srcElems_congr (hB.rd _ rfl)]; exact hsrc
      have hft : ∀ B, Agree (footOp E pu ρ A (.appendN esz bytes sx x)) (A.length :: idsOf (ρ sx)) A B → footOp E pu ρ B (.appendN esz bytes sx x) = footOp E pu ρ A (.appendN esz bytes sx x) := fun B hB => by
        simp only [footOp, hB.len rfl]
      have hal : ∀ {p : Prop}, (footOp E pu ρ A (.appendN esz bytes sx x)).al = false → p := fun h => by cases h
      split at he
      · rename_i hd
        split at he
        · rename_i h0
          simp only [Option.some.injEq, Prod.mk.injEq] at he
          obtain ⟨rfl, rfl⟩ := he
          refine ⟨none, none, fun x h => (by cases h), fun h => hal h, fun _ => (by simp), by simp [updO], fun B hB => ⟨?_, hft B hB⟩⟩
          simp [evStep, evOp, evAppendN, hs B hB, hd, h0, updO]
        · rename_i h0
          simp only [Option.ite_none_right_eq_some, Option.some.injEq, Prod.mk.injEq] at he
          obtain ⟨hc, rfl, rfl⟩ := he
          refine ⟨none, some _, fun x h => (by cases h), fun h => hal h, fun _ => (by simp), by simp [updO]; rfl, fun B hB => ⟨?_, hft B hB⟩⟩
          have hl := hB.len rfl
          simp only [evStep, evOp, evAppendN, hs B hB, hd, if_neg h0, if_pos hc, updO, hl]
          simp
      · rename_i id off len hd
        split at he
        · rename_i s' gr es hid
          simp only [Option.ite_none_right_eq_some] at he
          obtain ⟨hc, he⟩ := he
          have hlt := (List.getElem?_eq_some_iff.1 hid).1
          · simp only [Option.some.injEq, Prod.mk.injEq] at he
            obtain ⟨rfl, rfl⟩ := he
            refine ⟨some (id, .dead), some _, fun x h => ?_, fun h => hal h, fun _ => (by simp), by simp [updO]; rfl, fun B hB => ⟨?_, hft B hB⟩⟩
            · injection h with h; subst h; exact ⟨by rw [hd]; simp [idsOf], hlt⟩
            · have := hB.wr id (by rw [hd]; simp [idsOf])
              have hl := hB.len rfl
              simp only [evStep, evOp, evAppendN, hs B hB, hd, this, hid, if_pos hc, updO, hl]
              simp
        · cases he
      · rename_i id off len hd
        split at he
        · rename_i s' gr es hid
          simp only [Option.ite_none_right_eq_some, Option.some.injEq, Prod.mk.injEq] at he
          obtain ⟨hc, rfl, rfl⟩ := he
          refine ⟨none, some _, fun x h => (by cases h), fun h => hal h, fun _ => (by simp), by simp [updO]; rfl, fun B hB => ⟨?_, hft B hB⟩⟩
          have := hB.wr id (by rw [hd]; simp [idsOf])
          have hl := hB.len rfl
          simp only [evStep, evOp, evAppendN, hs B hB, hd, this, hid, if_pos hc, updO, hl]
          simp
        · cases he
      · cases he
  | clear esz z x =>
    intro W hW
    injection hW with hW; subst hW
    simp only [evStep, evOp] at he
    unfold evClear at he
    split at he
    · rename_i hd
      simp only [Option.some.injEq, Prod.mk.injEq] at he
      obtain ⟨rfl, rfl⟩ := he
      refine ⟨none, none, fun x h => (by cases h), fun _ => rfl, fun h => (by cases h), by simp [updO], fun B hB => ⟨?_, rfl⟩⟩
      simp [evStep, evOp, evClear, hd, updO]
    · rename_i id off len hd
      split at he
      · rename_i s' gr es hid
        simp only [Option.ite_none_right_eq_some, Option.some.injEq, Prod.mk.injEq] at he
        obtain ⟨hc, rfl, rfl⟩ := he
        have hlt := (List.getElem?_eq_some_iff.1 hid).1
        refine ⟨some (id, _), none, fun x h => ?_, fun _ => rfl, fun h => (by cases h), by simp [updO]; rfl, fun B hB => ⟨?_, rfl⟩⟩
        · injection h with h; subst h; exact ⟨by rw [hd]; simp [idsOf], hlt⟩
        · have := hB.wr id (by rw [hd]; simp [idsOf])
          simp only [evStep, evOp, evClear, hd, this, hid, if_pos hc, updO]
          simp
      · cases he
    · cases he
  | alloc size z =>
    simp only [evStep, evOp, evBox, Option.ite_none_right_eq_some, Option.some.injEq, Prod.mk.injEq] at he
    obtain ⟨hc, rfl, rfl⟩ := he
    exact framed_al (fun _ => rfl) rfl (fun B hB => by simp only [evStep, evOp, evBox, if_pos hc, hB])
  | allocArr n esz z =>
    simp only [evStep, evOp, evAllocArr, Option.ite_none_right_eq_some, Option.some.injEq, Prod.mk.injEq] at he
    obtain ⟨hc, rfl, rfl⟩ := he
    exact framed_al (fun _ => rfl) rfl (fun B hB => by simp only [evStep, evOp, evAllocArr, if_pos hc, hB])
  | box x =>
    simp only [evStep, evOp, evBox, Option.ite_none_right_eq_some, Option.some.injEq, Prod.mk.injEq] at he
    obtain ⟨hc, rfl, rfl⟩ := he
    exact framed_al (fun _ => rfl) rfl (fun B hB => by simp only [evStep, evOp, evBox, if_pos hc, hB])
  | buildSlice esz xs =>
    simp only [evStep, evOp, evBuildSlice, Option.ite_none_right_eq_some, Option.some.injEq, Prod.mk.injEq] at he
    obtain ⟨hc, rfl, rfl⟩ := he
    exact framed_al (fun _ => rfl) rfl (fun B hB => by simp only [evStep, evOp, evBuildSlice, if_pos hc, hB])
  | makeSlice esz bytes z l c =>
    simp only [evStep, evOp] at he
    unfold evMake at he
    split at he
    · rename_i k1 l' k2 c' hl hc
      simp only [Option.ite_none_right_eq_some, Option.some.injEq, Prod.mk.injEq] at he
      obtain ⟨hcc, rfl, rfl⟩ := he
      exact framed_al (fun _ => rfl) rfl (fun B hB => by simp only [evStep, evOp, hl, hc, evMake, if_pos hcc, hB])
    · cases he
  | toBytes x =>
    simp only [evStep, evOp] at he
    unfold evToBytes at he
    split at he
    · rename_i l hl
      simp only [Option.some.injEq, Prod.mk.injEq] at he
      obtain ⟨rfl, rfl⟩ := he
      exact framed_al (fun _ => rfl) rfl (fun B hB => by simp only [evStep, evOp, hl, evToBytes, hB])
    · cases he
  | makeMap =>
    simp only [evStep, evOp, evMakeMap, Option.some.injEq, Prod.mk.injEq] at he
    obtain ⟨rfl, rfl⟩ := he
    exact framed_al (fun _ => rfl) rfl (fun B hB => by simp only [evStep, evOp, evMakeMap, hB])
  | call f args =>
    intro W hW
    cases f with
    | fn f =>
      by_cases hc : pu.contains f = true
      · simp only [evStep, hfn, Env.call] at he
        obtain ⟨rfl, h2⟩ := hpu f (by simpa using hc) _ _ _ _ _ he
        have hal : (footOp E pu ρ A' (.call (.fn f) args)).al = false := by simp only [footOp, hc, if_true]; split <;> rfl
        have hW0 : W = [] := by
          simp only [footOp, hc, if_true] at hW
          split at hW <;> (injection hW with hW; exact hW.symm)
        subst hW0
        refine ⟨none, none, fun x h => (by cases h), fun _ => rfl, fun h => (by rw [hal] at h; cases h), by simp [updO], fun B hB => ⟨?_, ?_⟩⟩
        · simp only [evStep, hfn, Env.call, updO, Option.toList_none, List.append_nil]
          by_cases hn : (args.map ρ).all (noRefB 4) = true
          · exact h2 hn B
          · have : B = A' := hB.all (by simp only [footOp, hc, if_true]; rw [if_neg hn])
            rw [this]; exact he
        · simp only [footOp]
          rw [if_pos hc, if_pos hc]
      · simp only [footOp] at hW
        rw [if_neg hc] at hW
        cases hW
    | _ => cases hW
  | sliceStr x lo hi => exact rd0 (evSliceStr (lo.map ρ) (hi.map ρ) (ρ x)) (fun _ => rfl) (fun _ => rfl)
  | pick c a b => exact rd0 (match ρ c with | .bool t => some (if t then ρ a else ρ b) | _ => none) (fun _ => rfl) (fun B => by simp only [evStep, evOp]; cases ρ c <;> rfl)
  | same x => exact rd0 (match ρ x with | .str s => some (.str s) | _ => none) (fun _ => rfl) (fun B => by simp only [evStep, evOp]; cases ρ x <;> rfl)
  | mv x => exact rd0 (some (ρ x)) (fun _ => rfl) (fun _ => rfl)
  | makeFunc fn first cap => exact rd0 (some (.func fn (first.map ρ) (cap.map ρ))) (fun _ => rfl) (fun _ => rfl)
  | build zs ps => exact rd0 ((fillA zs (ps.map fun x => (x.1, x.2.1, ρ x.2.2))).map .agg) (fun _ => rfl) (fun B => by simp only [evStep, evOp, Option.map_map]; rfl)
  | eqNil kind neg x => exact rd0 ((isNilA kind (ρ x)).map fun b => .bool (if neg then !b else b)) (fun _ => rfl) (fun B => by simp only [evStep, evOp, Option.map_map]; rfl)
  | bin op x y => exact rd0 (evBin op (ρ x) (ρ y)) (fun _ => rfl) (fun _ => rfl)
  | eqBool neg x y => exact rd0 (evEqBool neg (ρ x) (ρ y)) (fun _ => rfl) (fun _ => rfl)
  | un op x => exact rd0 (evUn op (ρ x)) (fun _ => rfl) (fun _ => rfl)
  | convInt k x => exact rd0 (evConvInt k (ρ x)) (fun _ => rfl) (fun _ => rfl)
  | nilCheck x => exact rd0 (evNilCheck (ρ x)) (fun _ => rfl) (fun _ => rfl)
  | part agg off size x => exact rd0 (evPart agg off size (ρ x)) (fun _ => rfl) (fun _ => rfl)
  | indexVal agg n s x i => exact rd0 (evIndexVal agg n s (ρ x) (ρ i)) (fun _ => rfl) (fun _ => rfl)
  | indexStr x i => exact rd0 (evIndexStr (ρ x) (ρ i)) (fun _ => rfl) (fun _ => rfl)
  | extract x k => exact rd0 (evExtract k (ρ x)) (fun _ => rfl) (fun _ => rfl)
  | lenStr x => exact rd0 (evLenStr (ρ x)) (fun _ => rfl) (fun _ => rfl)
  | lenSl x => exact rd0 (evLenSl (ρ x)) (fun _ => rfl) (fun _ => rfl)
  | minmax isMax x xs => exact rd0 (evMinL isMax (ρ x) (xs.map ρ)) (fun _ => rfl) (fun _ => rfl)
  | eqAgg neg l x y => exact rd0 (evEqAgg neg l (ρ x) (ρ y)) (fun _ => rfl) (fun _ => rfl)
  | buildF esz xs => exact rd0 (evBuildF esz (xs.map ρ)) (fun _ => rfl) (fun _ => rfl)

theorem evX_setVar {σ T : List AV} {d : Option Nat} {v : AV} {x : MX} (h : ∀ k, d = some k → x ≠ .var k) : evX E (setVar σ d v) T x = evX E σ T x := by
  cases d with
  | none => rfl
  | some k =>
    cases x with
    | var i =>
      have hne : k ≠ i := fun e => h k rfl (by rw [e])
      simp [evX, setVar, List.getD_eq_getElem?_getD, List.getElem?_set_ne hne]
    | _ => rfl
theorem evX_setT {σ T : List AV} {i : Nat} {v : AV} {x : MX} (h : x ≠ .tmp i) : evX E σ (T.set i v) x = evX E σ T x := by
  cases x with
  | tmp j =>
    have hne : i ≠ j := fun e => h (by rw [e])
    simp [evX, List.getD_eq_getElem?_getD, List.getElem?_set_ne hne]
  | _ => rfl
theorem not_readsT {j : Nat} {o : MO} (h : readsT j o = false) : ∀ x ∈ o.reads, x ≠ .tmp j := by
  intro x hx e
  subst e
  unfold readsT at h
  rw [List.any_eq_false] at h
  exact absurd (h _ hx) (by simp)
theorem not_readsV {j : Nat} {o : MO} (h : readsV j o = false) : ∀ x ∈ o.reads, x ≠ .var j := by
  intro x hx e
  subst e
  unfold readsV at h
  rw [List.any_eq_false] at h
  exact absurd (h _ hx) (by simp)

/-- an operation, carried out or not -/
theorem frame1 {pu : List FuncId} (hpu : PureIn E pu) {o : MO} {ρ : MX → AV} (hfn : ∀ f, ρ (.fn f) = .func (.func f) [] []) {A : Arena} {v : AV} {A' : Arena} (he : evRes1 E o ρ A = some (v, A')) :
    ((footAt E pu o ρ A).wr = none → (footAt E pu o ρ A).al = true) ∧ ∀ W, (footAt E pu o ρ A).wr = some W → ∃ (u : Option (Nat × Ent)) (p : Option Ent), (∀ x, u = some x → x.1 ∈ W ∧ x.1 < A.length) ∧ ((footAt E pu o ρ A).al = false → p = none) ∧ ((footAt E pu o ρ A).al = true → A.length ∈ W) ∧ A' = updO u A ++ p.toList ∧
      ∀ B, Agree (footAt E pu o ρ A) W A B → evRes1 E o ρ B = some (v, updO u B ++ p.toList) ∧ footAt E pu o ρ B = footAt E pu o ρ A := by
  unfold evRes1 at he
  unfold footAt
  split at he
  · rename_i hg
    simp only [hg]
    refine ⟨fun h => ?_, fun W hW => ?_⟩
    · cases hm : o.op <;> rw [hm] at h <;> simp only [footOp, Foot.no, reduceCtorEq] at h ⊢
      split at h
      · split at h
        · rename_i hc
          split at h <;> simp at h
        · rename_i hc
          rw [if_neg hc]
      · rfl
    · obtain ⟨u, p, h1, h2, h3, h4, h5⟩ := frame hpu hfn he W hW
      exact ⟨u, p, h1, h2, h3, h4, fun B hB => by
        have := h5 B hB
        exact ⟨by simp only [evRes1, hg]; exact this.1, this.2⟩⟩
  · rename_i hg
    simp only [Option.some.injEq, Prod.mk.injEq] at he
    obtain ⟨rfl, rfl⟩ := he
    simp only [hg]
    refine ⟨(fun h => by cases h), fun W hW => ⟨none, none, fun x h => (by cases h), fun _ => rfl, fun h => (by cases h), by simp [updO], fun B _ => ⟨by simp [evRes1, hg, updO], trivial⟩⟩⟩
  · cases he

theorem footAt_congr {pu : List FuncId} {ρ ρ' : MX → AV} (o : MO) (h : ∀ x ∈ o.reads, ρ x = ρ' x) (A : Arena) : footAt E pu o ρ A = footAt E pu o ρ' A := by
  have hg : evGuard ρ o.guard = evGuard ρ' o.guard := by
    cases hg : o.guard with
    | none => rfl
    | some p =>
      obtain ⟨x, want⟩ := p
      simp only [evGuard, h x (by simp [MO.reads, hg])]
  have hx : ∀ x ∈ o.op.xs, ρ x = ρ' x := fun x hx => h x (by simp [MO.reads, hx])
  unfold footAt
  rw [hg]
  split
  · cases hm : o.op <;> rw [hm] at hx <;> simp only [footOp]
    case call f args =>
      have : args.map ρ = args.map ρ' := List.map_congr_left fun x hx' => hx x (by simp [MOp.xs, hx'])
      rw [this, evStep_congr (.call f args) hx A]
    all_goals (simp only [MOp.xs, List.mem_cons, List.not_mem_nil, or_false, forall_eq_or_imp, forall_eq] at hx; simp only [hx])
  · rfl

theorem meetNo_none {l : Option (List Nat)} (h : meetNo none l = true) : l = some [] := by
  cases l with
  | none => cases h
  | some l => cases l with
    | nil => rfl
    | cons a r => cases h
theorem meetNo_none' {l : Option (List Nat)} (h : meetNo l none = true) : l = some [] := by
  cases l with
  | none => cases h
  | some l => cases l with
    | nil => rfl
    | cons a r => cases h
theorem meetNo_some {a b : List Nat} (h : meetNo (some a) (some b) = true) : ∀ x, x ∈ a → x ∉ b := by
  intro x hx hy
  cases a with
  | nil => cases hx
  | cons p q =>
    cases b with
    | nil => cases hy
    | cons c d =>
      simp only [meetNo, List.all_eq_true, Bool.not_eq_true', beq_eq_false_iff_ne] at h
      exact h x hx x hy rfl

/-- two results of operations that are apart -/
theorem res_swap0 {pu : List FuncId} (hpu : PureIn E pu) {x y : MO} {ρx ρy : MX → AV} (hfx : ∀ f, ρx (.fn f) = .func (.func f) [] []) (hfy : ∀ f, ρy (.fn f) = .func (.func f) [] []) {A A1 A2 : Arena} {v u : AV}
    (e1 : evRes1 E x ρx A = some (v, A1)) (e2 : evRes1 E y ρy A1 = some (u, A2)) (hap : (footAt E pu x ρx A).apart0 (footAt E pu y ρy A1) = true) :
    ∃ B, evRes1 E y ρy A = some (u, B) ∧ footAt E pu y ρy A = footAt E pu y ρy A1 ∧ evRes1 E x ρx B = some (v, A2) ∧ footAt E pu x ρx B = footAt E pu x ρx A := by
  obtain ⟨hx0, hx1⟩ := frame1 hpu hfx e1
  obtain ⟨hy0, hy1⟩ := frame1 hpu hfy e2
  obtain ⟨Fx, hFx⟩ : ∃ F, F = footAt E pu x ρx A := ⟨_, rfl⟩
  obtain ⟨Fy, hFy⟩ : ∃ F, F = footAt E pu y ρy A1 := ⟨_, rfl⟩
  simp only [← hFx] at hx0 hx1 hap ⊢
  simp only [← hFy] at hy0 hy1 hap ⊢
  simp only [Foot.apart0, Bool.and_eq_true, Bool.not_eq_true', Bool.and_eq_false_iff] at hap
  obtain ⟨⟨⟨m1, m2⟩, m3⟩, m4⟩ := hap
  cases hwx : Fx.wr with
  | none =>
    rw [hwx] at m2 m3
    have hyr := meetNo_none m2
    have hyw := meetNo_none m3
    have hya : Fy.al = false := by
      rcases m4 with h | h
      · rw [hx0 hwx] at h; cases h
      · exact h
    obtain ⟨uo, p, k1, k2, _, k4, k5⟩ := hy1 [] hyw
    have hu : uo = none := by
      cases uo with
      | none => rfl
      | some z => have := (k1 z rfl).1; cases this
    have hp := k2 hya
    subst hu; subst hp
    have hA2 : A2 = A1 := by simpa [updO] using k4
    obtain ⟨k6, k7⟩ := k5 A ⟨fun h => (by rw [hyr] at h; cases h), fun l hl id hid => (by rw [hyr] at hl; injection hl with hl; subst hl; cases hid), (fun id hid => by cases hid), fun h => by rw [hya] at h; cases h⟩
    refine ⟨A, by simpa [updO] using k6, k7, by rw [hA2]; exact e1, hFx.symm⟩
  | some Wx =>
    obtain ⟨ux, px, k1, k2, k3, k4, k5⟩ := hx1 Wx hwx
    cases hwy : Fy.wr with
    | none =>
      rw [hwy] at m1 m3
      have hxr := meetNo_none' m1
      have hxw := meetNo_none' m3
      rw [hwx] at hxw
      injection hxw with hxw; subst hxw
      have hxa : Fx.al = false := by
        rcases m4 with h | h
        · exact h
        · rw [hy0 hwy] at h; cases h
      have hu : ux = none := by
        cases ux with
        | none => rfl
        | some z => have := (k1 z rfl).1; cases this
      have hp := k2 hxa
      subst hu; subst hp
      have hA1 : A1 = A := by simpa [updO] using k4
      subst hA1
      obtain ⟨k6, k7⟩ := k5 A2 ⟨fun h => (by rw [hxr] at h; cases h), fun l hl id hid => (by rw [hxr] at hl; injection hl with hl; subst hl; cases hid), (fun id hid => by cases hid), fun h => by rw [hxa] at h; cases h⟩
      exact ⟨A2, e2, hFy.symm, by simpa [updO] using k6, k7⟩
    | some Wy =>
      obtain ⟨uy, py, l1, l2, l3, l4, l5⟩ := hy1 Wy hwy
      rw [hwx, hwy] at m3
      rw [hwy] at m1
      rw [hwx] at m2
      have d3 := meetNo_some m3
      -- the first one's entry
      have hpx : px ≠ none → Fx.al = true := fun h => by
        cases ha : Fx.al with
        | true => rfl
        | false => exact absurd (k2 ha) h
      have hpy : py ≠ none → Fy.al = true := fun h => by
        cases ha : Fy.al with
        | true => rfl
        | false => exact absurd (l2 ha) h
      have hnot : px = none ∨ py = none := by
        rcases m4 with h | h
        · exact .inl (k2 h)
        · exact .inr (l2 h)
      have len1 : A1.length = A.length + px.toList.length := by rw [k4]; simp [updO_length]
      have uxne : ∀ k, k ∉ Wx → ∀ z, ux = some z → z.1 ≠ k := fun k hk z hz e => hk (e ▸ (k1 z hz).1)
      have get1 : ∀ k, k ∉ Wx → A[k]? = A1[k]? := fun k hk => by
        rw [k4]
        by_cases hlt : k < A.length
        · rw [List.getElem?_append_left (by rw [updO_length]; exact hlt), updO_get (uxne k hk)]
        · rw [List.getElem?_eq_none (by omega), List.getElem?_append_right (by rw [updO_length]; omega), updO_length]
          cases px with
          | none => simp
          | some e =>
            have hne : A.length ≠ k := fun h => hk (h ▸ k3 (hpx (by simp)))
            rw [List.getElem?_eq_none (by simp; omega)]
      have agy : Agree Fy Wy A1 A := by
        refine ⟨fun h => ?_, fun l hl id hid => ?_, fun id hid => get1 id (fun h => d3 id h hid), fun h => ?_⟩
        · rw [h] at m2
          have := meetNo_none' m2
          injection this with this
          subst this
          have hux : ux = none := by
            cases ux with
            | none => rfl
            | some z => have := (k1 z rfl).1; cases this
          have hpn : px = none := by
            cases px with
            | none => rfl
            | some e => have := k3 (hpx (by simp)); cases this
          subst hux; subst hpn
          simpa [updO] using k4.symm
        · rw [hl] at m2
          exact get1 id (fun h => meetNo_some m2 id h hid)
        · have : px = none := by
            rcases m4 with h' | h'
            · exact k2 h'
            · rw [h] at h'; cases h'
          rw [len1, this]; simp
      obtain ⟨k6, k7⟩ := l5 A agy
      -- the second one's writes lie ahead of the first one's entry
      have uylt : ∀ z, uy = some z → z.1 < A.length := fun z hz => by
        have h1 := (l1 z hz).2
        rw [len1] at h1
        cases px with
        | none => simpa using h1
        | some e =>
          have hne : A.length ≠ z.1 := fun h => d3 A.length (k3 (hpx (by simp))) (h ▸ (l1 z hz).1)
          simp at h1; omega
      have uyne : ∀ k, k ∉ Wy → ∀ z, uy = some z → z.1 ≠ k := fun k hk z hz e => hk (e ▸ (l1 z hz).1)
      have getB : ∀ k, k ∉ Wy → (updO uy A ++ py.toList)[k]? = A[k]? := fun k hk => by
        by_cases hlt : k < A.length
        · rw [List.getElem?_append_left (by rw [updO_length]; exact hlt), updO_get (uyne k hk)]
        · rw [List.getElem?_eq_none (l := A) (by omega), List.getElem?_append_right (by rw [updO_length]; omega), updO_length]
          cases py with
          | none => simp
          | some e =>
            have hpn : px = none := by
              rcases hnot with h | h
              · exact h
              · cases h
            have hle : A1.length = A.length := by rw [len1, hpn]; simp
            have hne : A.length ≠ k := fun h => hk (h ▸ hle ▸ l3 (hpy (by simp)))
            rw [List.getElem?_eq_none (by simp; omega)]
      have agx : Agree Fx Wx A (updO uy A ++ py.toList) := by
        refine ⟨fun h => ?_, fun l hl id hid => ?_, fun id hid => getB id (fun h => d3 id hid h), fun h => ?_⟩
        · rw [h] at m1
          have := meetNo_none m1
          injection this with this
          subst this
          have huy : uy = none := by
            cases uy with
            | none => rfl
            | some z => have := (l1 z rfl).1; cases this
          have hpn : py = none := by
            cases py with
            | none => rfl
            | some e => have := l3 (hpy (by simp)); cases this
          subst huy; subst hpn
          simp [updO]
        · rw [hl] at m1
          exact getB id (meetNo_some m1 id hid)
        · have : py = none := by
            rcases m4 with h' | h'
            · rw [h] at h'; cases h'
            · exact l2 h'
          rw [this]; simp [updO_length]
      obtain ⟨k8, k9⟩ := k5 _ agx
      refine ⟨_, k6, k7, ?_, k9⟩
      rw [k8]
      congr 2
      have hcomm : updO ux (updO uy A) = updO uy (updO ux A) := updO_comm fun a b ha hb e => d3 a.1 (k1 a ha).1 (e ▸ (l1 b hb).1)
      rw [l4, k4, updO_append (fun z hz => by rw [updO_length]; exact (k1 z hz).2), updO_append (fun z hz => by rw [updO_length]; exact uylt z hz), hcomm]
      rcases hnot with rfl | rfl <;> simp

/-- what is said to be as it was is as it was -/
theorem kept_sound {pu : List FuncId} {o : MO} {ρ : MX → AV} {A A' : Arena} {v : AV} (he : evRes1 E o ρ A = some (v, A')) {id : Nat} (h : (footAt E pu o ρ A).kp id = true) : A'[id]? = A[id]? := by
  unfold evRes1 at he
  unfold footAt at h
  split at he
  · rename_i hg
    simp only [hg] at h
    have h0 : ∀ {f : Foot}, f.kp = kp0 → f.kp id = true → False := fun h1 h2 => by rw [h1] at h2; cases h2
    cases hm : o.op <;> rw [hm] at h he <;> simp only [footOp] at h
    case call f args =>
      have hk : keptB A (evStep E ρ A (.call f args)) id = true → A'[id]? = A[id]? := fun hk => by
        rw [he] at hk
        simp only [keptB] at hk
        exact @of_decide_eq_true _ (Classical.propDecidable _) hk
      cases f with
      | fn f =>
        simp only at h
        split at h
        · split at h
          · exact (h0 (f := .no) rfl h).elim
          · cases h
        · exact hk h
      | _ => exact hk h
    all_goals first | (exact (h0 (f := .no) rfl h).elim) | (cases h; done)
  · rename_i hg
    simp only [hg] at h
    cases h
  · cases he
theorem sees_cases {x y : Foot} (h : x.sees y = true) : x.wr = some [] ∧ x.al = false ∧ ∃ l, x.rd = some l ∧ ∀ id ∈ l, y.kp id = true := by
  simp only [Foot.sees, Bool.and_eq_true] at h
  obtain ⟨h1, h2⟩ := h
  split at h1
  · rename_i hw
    split at h2
    · rename_i l hl
      exact ⟨hw, by simpa using h1, l, hl, by simpa using h2⟩
    · cases h2
  · cases h1
/-- an operation that only reads -/
theorem read_frame {pu : List FuncId} (hpu : PureIn E pu) {o : MO} {ρ : MX → AV} (hfn : ∀ f, ρ (.fn f) = .func (.func f) [] []) {A A' : Arena} {v : AV} (he : evRes1 E o ρ A = some (v, A')) (hw : (footAt E pu o ρ A).wr = some []) (ha : (footAt E pu o ρ A).al = false) {l : List Nat} (hr : (footAt E pu o ρ A).rd = some l) :
    A' = A ∧ ∀ B : Arena, (∀ id ∈ l, B[id]? = A[id]?) → evRes1 E o ρ B = some (v, B) ∧ footAt E pu o ρ B = footAt E pu o ρ A := by
  obtain ⟨_, h1⟩ := frame1 hpu hfn he
  obtain ⟨u, p, k1, k2, _, k4, k5⟩ := h1 [] hw
  have hu : u = none := by
    cases u with
    | none => rfl
    | some z => have := (k1 z rfl).1; cases this
  have hp := k2 ha
  subst hu; subst hp
  refine ⟨by simpa [updO] using k4, fun B hB => ?_⟩
  obtain ⟨k6, k7⟩ := k5 B ⟨fun h => (by rw [hr] at h; cases h), fun l' hl id hid => (by rw [hr] at hl; injection hl with hl; subst hl; exact hB id hid), (fun id hid => by cases hid), fun h => by rw [ha] at h; cases h⟩
  exact ⟨by simpa [updO] using k6, k7⟩
/-- two results of operations that are apart -/
theorem res_swap {pu : List FuncId} (hpu : PureIn E pu) {x y : MO} {ρx ρy : MX → AV} (hfx : ∀ f, ρx (.fn f) = .func (.func f) [] []) (hfy : ∀ f, ρy (.fn f) = .func (.func f) [] []) {A A1 A2 : Arena} {v u : AV}
    (e1 : evRes1 E x ρx A = some (v, A1)) (e2 : evRes1 E y ρy A1 = some (u, A2)) (hap : (footAt E pu x ρx A).apart (footAt E pu y ρy A1) = true) :
    ∃ B, evRes1 E y ρy A = some (u, B) ∧ footAt E pu y ρy A = footAt E pu y ρy A1 ∧ evRes1 E x ρx B = some (v, A2) ∧ footAt E pu x ρx B = footAt E pu x ρx A := by
  simp only [Foot.apart, Bool.or_eq_true] at hap
  rcases hap with hap | hap | hap
  · exact res_swap0 hpu hfx hfy e1 e2 hap
  · obtain ⟨hw, ha, l, hr, hk⟩ := sees_cases hap
    obtain ⟨rfl, h2⟩ := read_frame hpu hfx e1 hw ha hr
    obtain ⟨h3, h4⟩ := h2 A2 fun id hid => kept_sound e2 (hk id hid)
    exact ⟨A2, e2, rfl, h3, h4⟩
  · obtain ⟨hw, ha, l, hr, hk⟩ := sees_cases hap
    obtain ⟨rfl, h2⟩ := read_frame hpu hfy e2 hw ha hr
    obtain ⟨h3, h4⟩ := h2 A fun id hid => (kept_sound e1 (hk id hid)).symm
    exact ⟨A, h3, h4, e1, rfl⟩

/-- a run of some of a region's operations, each of which touches what is said -/
def RunF (E : Env) (pu : List FuncId) (mos : List MO) (Fm : Nat → Foot) : List Nat → St → St → Prop
  | [], s, s' => s = s'
  | i :: r, s, s' => ∃ s1 o, mos[i]? = some o ∧ evAt E mos i s = some s1 ∧ footAt E pu o (evX E s.1 s.2.1) s.2.2 = Fm i ∧ RunF E pu mos Fm r s1 s'

/-- two operations change places -/
theorem swap2 {pu : List FuncId} (hpu : PureIn E pu) {mos : List MO} {Fm : Nat → Foot} {i j : Nat} {x y : MO} (hx : mos[i]? = some x) (hy : mos[j]? = some y) (hij : i ≠ j) (hf : free2 i j x y = true) (hap : (Fm i).apart (Fm j) = true) {s s1 s2 : St}
    (h1 : evAt E mos i s = some s1) (f1 : footAt E pu x (evX E s.1 s.2.1) s.2.2 = Fm i) (h2 : evAt E mos j s1 = some s2) (f2 : footAt E pu y (evX E s1.1 s1.2.1) s1.2.2 = Fm j) :
    ∃ s3, evAt E mos j s = some s3 ∧ footAt E pu y (evX E s.1 s.2.1) s.2.2 = Fm j ∧ evAt E mos i s3 = some s2 ∧ footAt E pu x (evX E s3.1 s3.2.1) s3.2.2 = Fm i := by
  obtain ⟨σ, T, A⟩ := s
  simp only [evAt, hx, hy, Option.map_eq_some_iff] at h1 h2 ⊢
  obtain ⟨⟨v, A1⟩, e1, rfl⟩ := h1
  obtain ⟨⟨u, A2⟩, e2, rfl⟩ := h2
  simp only at e1 e2 f1 f2 ⊢
  simp only [free2, Bool.and_eq_true, Bool.not_eq_true'] at hf
  obtain ⟨⟨⟨r1, r2⟩, r3⟩, r4⟩ := hf
  have dne : ∀ d, x.dst = some d → y.dst ≠ some d := fun d hd => by
    rw [hd] at r3
    simp only [Bool.and_eq_true, Bool.not_eq_true', beq_eq_false_iff_ne] at r3
    exact r3.2
  have ry : ∀ z ∈ y.reads, evX E (setVar σ x.dst v) (T.set i v) z = evX E σ T z := fun z hz => by
    rw [evX_setVar, evX_setT (not_readsT r1 z hz)]
    intro k hk
    rw [hk] at r3
    simp only [Bool.and_eq_true, Bool.not_eq_true'] at r3
    exact not_readsV r3.1 z hz
  have rx : ∀ z ∈ x.reads, evX E (setVar σ y.dst u) (T.set j u) z = evX E σ T z := fun z hz => by
    rw [evX_setVar, evX_setT (not_readsT r2 z hz)]
    intro k hk
    rw [hk] at r4
    simp only [Bool.not_eq_true'] at r4
    exact not_readsV r4 z hz
  rw [evRes1_congr y ry] at e2
  rw [footAt_congr y ry] at f2
  have hfn : ∀ σ T f, evX E σ T (.fn f) = .func (.func f) [] [] := fun _ _ _ => rfl
  obtain ⟨B, b1, b2, b3, b4⟩ := res_swap (pu := pu) hpu (hfn σ T) (hfn σ T) e1 e2 (by rw [f1, f2]; exact hap)
  refine ⟨_, ⟨_, b1, rfl⟩, by rw [b2, f2], ⟨(v, A2), by rw [evRes1_congr x rx]; exact b3, ?_⟩, by rw [footAt_congr x rx]; simp only; rw [b4, f1]⟩
  simp only [Prod.mk.injEq, and_true]
  refine ⟨?_, List.set_comm _ _ (Ne.symm hij)⟩
  cases hxd : x.dst with
  | none => rfl
  | some d =>
    cases hyd : y.dst with
    | none => rfl
    | some d' =>
      have := dne d hxd
      rw [hyd] at this
      exact List.set_comm _ _ (fun e => this (by rw [e]))

/-- one of several goes first -/
theorem toFront {pu : List FuncId} (hpu : PureIn E pu) {mos : List MO} {Fm : Nat → Foot} {i : Nat} {r2 : List Nat} : ∀ (r1 : List Nat) (s s' : St), (∀ j ∈ r1, j ≠ i ∧ (Fm j).apart (Fm i) = true ∧ ∃ x y, mos[j]? = some x ∧ mos[i]? = some y ∧ free2 j i x y = true) →
    RunF E pu mos Fm (r1 ++ i :: r2) s s' → RunF E pu mos Fm (i :: (r1 ++ r2)) s s'
  | [], s, s', _, h => h
  | j :: r1, s, s', hc, h => by
    obtain ⟨s1, o, ho, h1, h2, h3⟩ := h
    obtain ⟨s2, o', ho', h4, h5, h6⟩ := toFront hpu r1 s1 s' (fun k hk => hc k (by simp [hk])) h3
    obtain ⟨hne, hap, x, y, hx, hy, hf⟩ := hc j (by simp)
    obtain rfl : o = x := Option.some.inj (ho.symm.trans hx)
    obtain rfl : o' = y := Option.some.inj (ho'.symm.trans hy)
    obtain ⟨s3, k1, k2, k3, k4⟩ := swap2 hpu hx hy hne hf hap h1 h2 h4 h5
    exact ⟨s3, o', hy, k1, k2, s2, o, hx, k3, k4, h6⟩
end
end Go.Proofs.Ytemklhljjaniaaa
/-
  Regions whose order is open: the evaluation is sound for every order. Program-independent.
-/
namespace Go.Proofs.Ytemklhljjaniaaa
open Go
section
variable {P : Program} {E : Env} {N : Nat} {vs : List Nat} {base : Nat} {rd : Option Nat} {n : Nat}

/-- how an operation has been compiled -/
def CompAt (P : Program) (N : Nat) (vs : List Nat) (on : Bool) (ops : Array Oper) (ts : List (Option Nat)) (i : Nat) (o : Oper) (mo : MO) : Prop :=
  compGuard vs ops (ts.take i) o.guard = some mo.guard ∧ mo.op = (compOp P (frzUse on vs ops o) (cxOf vs (ts.take i)) o.op).getD badOp ∧
  ((o.dst = none ∧ mo.dst = none ∧ ts[i]? = some none) ∨ (∃ t k, o.dst = some t ∧ vs.idxOf? t = some k ∧ mo.dst = some k ∧ ts[i]? = some none) ∨
    (∃ t, o.dst = some t ∧ vs.idxOf? t = none ∧ t < N ∧ mo.dst = none ∧ ts[i]? = some (some t)))

theorem idxOf?_some {α : Type} [BEq α] [LawfulBEq α] {l : List α} {a : α} {i : Nat} (h : l.idxOf? a = some i) : ∃ h : i < l.length, l[i] = a :=
  List.idxOf?_eq_some_iff.1 h |> fun h => ⟨h.1, h.2.1⟩

theorem cxOf_take {ts : List (Option Nat)} {i : Nat} (hone : ∀ j j' t : Nat, ts[j]? = some (some t) → ts[j']? = some (some t) → j = j') {x : Operand} {y : MX} (h : cxOf vs (ts.take i) x = some y) : cxOf vs ts x = some y := by
  cases x with
  | tmp t =>
    simp only [cxOf] at h ⊢
    cases hv : vs.idxOf? t with
    | some k => rw [hv] at h; exact h
    | none =>
      rw [hv] at h
      simp only [Option.map_eq_some_iff] at h ⊢
      obtain ⟨j, hj, rfl⟩ := h
      obtain ⟨hlt, he⟩ := idxOf?_some hj
      have hlt' : j < ts.length := by simp at hlt; omega
      have he' : ts[j]? = some (some t) := by rw [List.getElem?_eq_getElem hlt']; simpa using he
      cases hx : ts.idxOf? (some t) with
      | none =>
        rw [List.idxOf?_eq_none_iff] at hx
        exact absurd (List.mem_of_getElem? he') hx
      | some j' =>
        obtain ⟨h1, h2⟩ := idxOf?_some hx
        have : j' = j := hone j' j t (by rw [List.getElem?_eq_getElem h1, h2]) he'
        subst this
        exact ⟨_, rfl, rfl⟩
  | _ => exact h
theorem compGuard_take {ts : List (Option Nat)} {i : Nat} (hone : ∀ j j' t : Nat, ts[j]? = some (some t) → ts[j']? = some (some t) → j = j') {ops : Array Oper} {gd : Option (Nat × Bool)} {g : Option (MX × Bool)} (h : compGuard vs ops (ts.take i) gd = some g) : compGuard vs ops ts gd = some g := by
  unfold compGuard at h ⊢
  split at h
  · exact h
  · split at h
    · rename_i t ht
      simp only [Option.map_eq_some_iff] at h ⊢
      obtain ⟨x, hx, h2⟩ := h
      exact ⟨x, cxOf_take hone hx, h2⟩
    · cases h

/-- the list that the region's operations leave of slots; or its evaluation comes to nothing -/
theorem compOps_spec {on : Bool} {ops : Array Oper} : ∀ (rest : List Oper) (ts : List (Option Nat)), (∀ j j' t : Nat, ts[j]? = some (some t) → ts[j']? = some (some t) → j = j') → (∀ j t : Nat, ts[j]? = some (some t) → t < N ∧ t ∉ vs) →
    (∃ tf, tf.take ts.length = ts ∧ tf.length = ts.length + rest.length ∧ (∀ j j' t : Nat, tf[j]? = some (some t) → tf[j']? = some (some t) → j = j') ∧ (∀ j t : Nat, tf[j]? = some (some t) → t < N ∧ t ∉ vs) ∧
      (compOps P N vs on ops rest ts).length = rest.length ∧ ∀ (k : Nat) (o : Oper), rest[k]? = some o → ∃ mo, (compOps P N vs on ops rest ts)[k]? = some mo ∧ CompAt P N vs on ops tf (ts.length + k) o mo) ∨
    ∀ σ T A, evOps E (compOps P N vs on ops rest ts) σ T A = none
  | [], ts, h1, h2 => .inl ⟨ts, by simp, by simp, h1, h2, rfl, fun k o h => by simp at h⟩
  | o :: rest, ts, h1, h2 => by
    have hbad : ∀ σ T A, evOps E [⟨none, badOp, none⟩] σ T A = none := fun σ T A => by simp [evOps, evGuard, evStep, badOp, evOp, evX, evUn]
    have step : ∀ (d : Option Nat) (m : MOp) (gd : Option (MX × Bool)) (x : Option Nat), compGuard vs ops ts o.guard = some gd → m = (compOp P (frzUse on vs ops o) (cxOf vs ts) o.op).getD badOp →
        compOps P N vs on ops (o :: rest) ts = ⟨d, m, gd⟩ :: compOps P N vs on ops rest (ts ++ [x]) →
        ((o.dst = none ∧ d = none ∧ x = none) ∨ (∃ t k, o.dst = some t ∧ vs.idxOf? t = some k ∧ d = some k ∧ x = none) ∨ (∃ t, o.dst = some t ∧ vs.idxOf? t = none ∧ t < N ∧ d = none ∧ x = some t)) → (∀ t, x = some t → some t ∉ ts ∧ t < N ∧ t ∉ vs) →
        ((∃ tf, tf.take ts.length = ts ∧ tf.length = ts.length + (o :: rest).length ∧ (∀ j j' t : Nat, tf[j]? = some (some t) → tf[j']? = some (some t) → j = j') ∧ (∀ j t : Nat, tf[j]? = some (some t) → t < N ∧ t ∉ vs) ∧
          (compOps P N vs on ops (o :: rest) ts).length = (o :: rest).length ∧ ∀ (k : Nat) (o' : Oper), (o :: rest)[k]? = some o' → ∃ mo, (compOps P N vs on ops (o :: rest) ts)[k]? = some mo ∧ CompAt P N vs on ops tf (ts.length + k) o' mo) ∨
          ∀ σ T A, evOps E (compOps P N vs on ops (o :: rest) ts) σ T A = none) := by
      intro d m gd x hgd hm heq hdst hx
      have key : ∀ (j : Nat) (u : Nat), (ts ++ [x])[j]? = some (some u) → (ts[j]? = some (some u) ∧ j < ts.length) ∨ (j = ts.length ∧ x = some u) := fun j u hj => by
        rw [List.getElem?_append] at hj
        split at hj
        · rename_i hlt; exact .inl ⟨hj, hlt⟩
        · have : j - ts.length = 0 ∨ j - ts.length ≠ 0 := by omega
          rcases this with h0 | h0
          · rw [h0] at hj; simp at hj; exact .inr ⟨by omega, hj⟩
          · rw [List.getElem?_eq_none (by simp; omega)] at hj; cases hj
      have h1' : ∀ j j' t : Nat, (ts ++ [x])[j]? = some (some t) → (ts ++ [x])[j']? = some (some t) → j = j' := fun j j' t hj hj' => by
        rcases key j t hj with ⟨a1, a2⟩ | ⟨a1, a2⟩ <;> rcases key j' t hj' with ⟨b1, b2⟩ | ⟨b1, b2⟩
        · exact h1 j j' t a1 b1
        · exact absurd (List.mem_of_getElem? a1) (hx t b2).1
        · exact absurd (List.mem_of_getElem? b1) (hx t a2).1
        · omega
      have h2' : ∀ j t : Nat, (ts ++ [x])[j]? = some (some t) → t < N ∧ t ∉ vs := fun j t hj => by
        rcases key j t hj with ⟨a1, a2⟩ | ⟨a1, a2⟩
        · exact h2 j t a1
        · exact (hx t a2).2
      rcases compOps_spec (on := on) (ops := ops) rest (ts ++ [x]) h1' h2' with ⟨tf, k1, k2, k3, k4, k5, k6⟩ | hn
      · refine .inl ⟨tf, ?_, by rw [k2]; simp; omega, k3, k4, by rw [heq]; simp [k5], fun k o' hk => ?_⟩
        · have := congrArg (List.take ts.length) k1
          simpa [List.take_take] using this
        · rw [heq]
          cases k with
          | zero =>
            simp only [List.getElem?_cons_zero, Option.some.injEq] at hk
            subst hk
            have hx0 : tf[ts.length]? = some x := by
              have := congrArg (fun l => l[ts.length]?) k1
              simp only [List.length_append, List.length_cons, List.length_nil, List.getElem?_take_of_lt (Nat.lt_succ_self _)] at this
              simpa using this
            have htk : tf.take ts.length = ts := by
              have := congrArg (List.take ts.length) k1
              rw [List.take_take, Nat.min_eq_left (by simp)] at this
              simpa using this
            refine ⟨_, rfl, ?_, ?_, ?_⟩
            · rw [Nat.add_zero, htk]; exact hgd
            · rw [Nat.add_zero, htk]; exact hm
            · rw [Nat.add_zero, hx0]
              rcases hdst with ⟨a, b, rfl⟩ | ⟨t, k, a, b, c, rfl⟩ | ⟨t, a, b, c, d, rfl⟩
              · exact .inl ⟨a, b, rfl⟩
              · exact .inr (.inl ⟨t, k, a, b, c, rfl⟩)
              · exact .inr (.inr ⟨t, a, b, c, d, rfl⟩)
          | succ k =>
            obtain ⟨mo, l1, l2⟩ := k6 k o' (by simpa using hk)
            refine ⟨mo, by simpa using l1, ?_⟩
            have e : (ts ++ [x]).length + k = ts.length + (k + 1) := by simp; omega
            rw [e] at l2
            exact l2
      · refine .inr fun σ T A => ?_
        rw [heq]
        simp only [evOps, hn]
        repeat' split
        all_goals rfl
    cases hgd : compGuard vs ops ts o.guard with
    | none => exact .inr fun σ T A => by simp only [compOps, hgd]; exact hbad σ T A
    | some gd =>
      cases hd : o.dst with
      | none => exact step none _ gd none hgd rfl (by simp only [compOps, hgd, hd]) (.inl ⟨hd, rfl, rfl⟩) (fun t h => by cases h)
      | some t =>
        cases hv : vs.idxOf? t with
        | some i => exact step (some i) _ gd none hgd rfl (by simp only [compOps, hgd, hd, hv]) (.inr (.inl ⟨t, i, hd, hv, rfl, rfl⟩)) (fun t h => by cases h)
        | none =>
          by_cases hc : t < N ∧ ¬ (some t) ∈ ts
          · refine step none _ gd (some t) hgd rfl (by simp only [compOps, hgd, hd, hv]; rw [if_pos hc]) (.inr (.inr ⟨t, hd, hv, hc.1, rfl, rfl⟩)) (fun t' h => ?_)
            injection h with h; subst h
            exact ⟨hc.2, hc.1, by simpa [List.idxOf?_eq_none_iff] using hv⟩
          · refine .inr fun σ T A => ?_
            simp only [compOps, hgd, hd, hv]
            rw [if_neg hc]
            exact hbad σ T A

/-! ### slots written in any order -/

theorem getD_setL {α : Type} {l : List α} {i j : Nat} {x d : α} (h : i ≠ j) : (l.set i x).getD j d = l.getD j d := by
  simp [List.getD_eq_getElem?_getD, List.getElem?_set_ne h]
theorem getD_setL_self {α : Type} {l : List α} {i : Nat} {x d : α} (h : i < l.length) : (l.set i x).getD i d = x := by
  simp [List.getD_eq_getElem?_getD, List.getElem?_set_self h]

theorem RRel.setVarS {w : World} {OK : Nat → Prop} {g : Ghost} {σ T : List AV} {ts : List (Option Nat)} {A : Arena} {a : Act} (hvn : vs.Nodup) (hvl : ∀ t ∈ vs, t < N) (h : RRel E N vs base w OK g σ T ts A a) {k t i : Nat} (hk : k < vs.length) (ht : vs[k] = t) (hi : ts[i]? = some none)
    {v : Value} {x : AV} (hx : VRel w OK g v x) (y : AV) : RRel E N vs base w OK g (σ.set k x) (T.set i y) ts A (a.put (some t) v) where
  size := by simp [Act.put, h.size]
  defers := h.defers
  low := h.low
  len := by simp [h.len]
  vars m hm := by
    have hlt : t < N := hvl t (ht ▸ List.getElem_mem hk)
    by_cases e : k = m
    · subst e
      rw [ht]
      simp only [Act.put, getD_set_self _ _ (by rw [h.size]; exact hlt), getD_setL_self (show k < σ.length by rw [h.len]; exact hk), hx]
    · have hne : t ≠ vs[m] := fun e2 => e (nodup_inj hvn hk hm (by rw [ht, e2]))
      simp only [Act.put, getD_set_ne _ _ hne, getD_setL e]
      exact h.vars m hm
  arena := h.arena
  glob := h.glob
  tlen := by simp [h.tlen]
  temps j u hj := by
    have hne : t ≠ u := fun e => (h.tok j u hj).2 (e ▸ ht ▸ List.getElem_mem hk)
    have hij : i ≠ j := fun e => by subst e; rw [hi] at hj; cases hj
    simp only [Act.put, getD_set_ne _ _ hne, getD_setL hij]
    exact h.temps j u hj
  tok := h.tok
  tone := h.tone
theorem RRel.setNoneS {w : World} {OK : Nat → Prop} {g : Ghost} {σ T : List AV} {ts : List (Option Nat)} {A : Arena} {a : Act} (h : RRel E N vs base w OK g σ T ts A a) {i : Nat} (hi : ts[i]? = some none) (v : Value) (y : AV) :
    RRel E N vs base w OK g σ (T.set i y) ts A (a.put none v) :=
  { size := h.size, defers := h.defers, low := h.low, len := h.len, vars := h.vars, arena := h.arena, glob := h.glob, tlen := by simp [h.tlen],
    temps := fun j u hj => by
      have hij : i ≠ j := fun e => by subst e; rw [hi] at hj; cases hj
      rw [getD_setL hij]
      exact h.temps j u hj
    tok := h.tok, tone := h.tone }
theorem RRel.setTmpS {w : World} {OK : Nat → Prop} {g : Ghost} {σ T : List AV} {ts : List (Option Nat)} {A : Arena} {a : Act} (h : RRel E N vs base w OK g σ T ts A a) {i t : Nat} (hi : ts[i]? = some (some t)) {v : Value} {x : AV} (hx : VRel w OK g v x) :
    RRel E N vs base w OK g σ (T.set i x) ts A (a.put (some t) v) := by
  obtain ⟨htN, htv⟩ := h.tok i t hi
  have hv : ∀ k (hk : k < vs.length), VRel w OK g ((a.put (some t) v).tmps.getD vs[k] undef) (σ.getD k .undef) := fun k hk => by
    have hne : t ≠ vs[k] := fun e => htv (e ▸ List.getElem_mem hk)
    simp only [Act.put, getD_set_ne _ _ hne]
    exact h.vars k hk
  have ht : ∀ j u : Nat, ts[j]? = some (some u) → VRel w OK g ((a.put (some t) v).tmps.getD u undef) ((T.set i x).getD j .undef) := fun j u hj => by
    by_cases e : i = j
    · subst e
      rw [hi] at hj
      injection hj with hj; injection hj with hj; subst hj
      simp only [Act.put, getD_set_self _ _ (show t < a.tmps.size by rw [h.size]; exact htN)]
      rw [getD_setL_self (by rw [h.tlen]; exact (List.getElem?_eq_some_iff.1 hi).1)]
      exact hx
    · have hne : t ≠ u := fun e2 => e (h.tone i j t hi (e2 ▸ hj))
      simp only [Act.put, getD_set_ne _ _ hne, getD_setL e]
      exact h.temps j u hj
  exact { size := by simp [Act.put, h.size], defers := h.defers, low := h.low, len := h.len, arena := h.arena, glob := h.glob, tlen := by simp [h.tlen], vars := hv, temps := ht, tok := h.tok, tone := h.tone }

/-- one operation, whenever -/
theorem opAt_sound {on : Bool} (hE : EnvSound P E) (hvn : vs.Nodup) (hvl : ∀ t ∈ vs, t < N) {ops : Array Oper} {ts : List (Option Nat)} {mos : List MO} {i : Nat} {o : Oper} {mo : MO} (ho : ops[i]? = some o) (hmo : mos[i]? = some mo) (hc : CompAt P N vs on ops ts i o mo)
    {w : World} {OK : Nat → Prop} {g : Ghost} {σ T : List AV} {A : Arena} {a : Act} {s1 : St} {Q : Exit → Act → World → Prop} {K : Act → World → Prop} (h : RRel E N vs base w OK g σ T ts A a) (he : evAt E mos i (σ, T, A) = some s1)
    (hK : ∀ a1 w1 OK1 g1, RRel E N vs base w1 OK1 g1 s1.1 s1.2.1 ts s1.2.2 a1 → Ext w OK g w1 OK1 g1 → K a1 w1) : wpOpIn (FW rd) n P ops Q i K a w := by
  obtain ⟨c1, c2, c3⟩ := hc
  have hgd := compGuard_take h.tone c1
  simp only [evAt, hmo, Option.map_eq_some_iff] at he
  obtain ⟨⟨x, A1⟩, he, rfl⟩ := he
  have put : ∀ (v : Value) w1 OK1 g1, VRel w1 OK1 g1 v x → RRel E N vs base w1 OK1 g1 σ T ts A1 a → RRel E N vs base w1 OK1 g1 (setVar σ mo.dst x) (T.set i x) ts A1 (a.put o.dst v) := by
    intro v w1 OK1 g1 hv hr
    rcases c3 with ⟨d1, d2, d3⟩ | ⟨t, k, d1, d2, d3, d4⟩ | ⟨t, d1, d2, d3, d4, d5⟩
    · rw [d1, d2]; exact hr.setNoneS d3 v x
    · rw [d1, d3]
      obtain ⟨hlt, het⟩ := idxOf?_some d2
      exact hr.setVarS hvn hvl hlt het d4 hv x
    · rw [d1, d4]; exact hr.setTmpS d5 hv
  unfold wpOpIn
  simp only [ho]
  unfold evRes1 at he
  split at he
  · rename_i hgt
    rw [h.guard hvl hgd hgt, if_pos rfl]
    cases hm : compOp P (frzUse on vs ops o) (cxOf vs (ts.take i)) o.op with
    | none =>
      rw [hm] at c2
      simp only [Option.getD_none] at c2
      rw [c2] at he
      rcases evStep_bad (E := E) (evX E σ T) A with h0 | ⟨x0, _, h0⟩
      · rw [h0] at he; cases he
      · exact absurd rfl h0
    | some m =>
      rw [hm] at c2
      simp only [Option.getD_some] at c2
      rw [c2] at he
      exact step_soundG hE (fun x y hy => h.eval x y (cxOf_take h.tone hy)) h.arena h.glob hm he (fun v w' OK' g' k1 k2 k3 => hK _ _ _ _ (put v w' OK' g' k1 (h.ext k3 k2)) k3)
  · rename_i hgt
    rw [h.guard hvl hgd hgt]
    simp only [Option.some.injEq, Prod.mk.injEq] at he
    obtain ⟨rfl, rfl⟩ := he
    refine ⟨fun f _ => fw_fn rd f, hK _ _ _ _ (put undef w OK g ?_ h) (Ext.refl _ _ _)⟩
    exact .tup _ _ [] rfl (fun _ => undef) (fun i hi => by simp at hi) (fun i hi => by simp at hi)
  · cases he

/-! ### the text's order, and any other -/

theorem foldl_bits (b : Array Nat) (x : Nat) : ∀ (l : List Edge) (s : Nat), (l.foldl (fun s e => if Region.binds .any e then s ||| 2 ^ e.on ||| b.getD e.on 0 else s) s).testBit x = true →
    s.testBit x = true ∨ ∃ e ∈ l, Region.binds .any e = true ∧ (e.on = x ∨ (b.getD e.on 0).testBit x = true)
  | [], s, h => .inl h
  | e :: l, s, h => by
    rcases foldl_bits b x l _ h with h1 | ⟨e', h1, h2⟩
    · simp only at h1
      cases hb : Region.binds .any e with
      | true =>
        rw [hb, if_pos rfl] at h1
        simp only [Nat.testBit_or, Bool.or_eq_true] at h1
        rcases h1 with (h1 | h1) | h1
        · exact .inl h1
        · rw [Nat.testBit_two_pow] at h1
          exact .inr ⟨e, by simp, hb, .inl (by simpa using h1)⟩
        · exact .inr ⟨e, by simp, hb, .inr h1⟩
      | false =>
        rw [hb] at h1
        exact .inl h1
    · exact .inr ⟨e', by simp [h1], h2⟩

/-- what is still to be done, in the text's order -/
def remain (m : Nat) (listed : Array Bool) : List Nat := (List.range m).filter fun i => !listed.getD i true

theorem range_split : ∀ (m i : Nat), i < m → ∃ r2, List.range m = List.range i ++ i :: r2 ∧ ∀ k ∈ r2, i < k
  | m + 1, i, h => by
    rw [List.range_succ]
    rcases Nat.lt_or_ge i m with h1 | h1
    · obtain ⟨r2, e, h2⟩ := range_split m i h1
      refine ⟨r2 ++ [m], by rw [e]; simp, fun k hk => ?_⟩
      rcases List.mem_append.1 hk with h3 | h3
      · exact h2 k h3
      · simp at h3; omega
    · obtain rfl : i = m := by omega
      exact ⟨[], rfl, fun k hk => by cases hk⟩

theorem remain_split {m i : Nat} {listed : Array Bool} (hs : listed.size = m) (hi : i < m) (hu : listed.getD i true = false) :
    ∃ r1 r2, remain m listed = r1 ++ i :: r2 ∧ remain m (listed.setIfInBounds i true) = r1 ++ r2 ∧ (∀ k ∈ r1, k < i ∧ listed.getD k true = false) := by
  obtain ⟨r2, e, h2⟩ := range_split m i hi
  have hne : ∀ k, k ≠ i → (listed.setIfInBounds i true).getD k true = listed.getD k true := fun k hk => by
    simp [Array.getD_eq_getD_getElem?, Array.getElem?_setIfInBounds_ne (Ne.symm hk)]
  have hself : (listed.setIfInBounds i true).getD i true = true := by
    simp [Array.getD_eq_getD_getElem?, Array.getElem?_setIfInBounds_self_of_lt (show i < listed.size by omega)]
  refine ⟨(List.range i).filter fun k => !listed.getD k true, r2.filter fun k => !listed.getD k true, ?_, ?_, fun k hk => ?_⟩
  · unfold remain
    rw [e, List.filter_append, List.filter_cons_of_pos (by simp [hu])]
  · unfold remain
    rw [e, List.filter_append, List.filter_cons_of_neg (by simp [hself])]
    congr 1
    · exact List.filter_congr fun k hk => by rw [hne k (by simp at hk; omega)]
    · exact List.filter_congr fun k hk => by rw [hne k (by have := h2 k hk; omega)]
  · simp only [List.mem_filter, List.mem_range, Bool.not_eq_true'] at hk
    exact hk

theorem any_sound {on : Bool} (hE : EnvSound P E) (hvn : vs.Nodup) (hvl : ∀ t ∈ vs, t < N) {pu : List FuncId} (hpu : PureIn E pu) {ops : Array Oper} {ts : List (Option Nat)} {mos : List MO} (hof : orderFree ops mos (Region.before ops) = true)
    {Fm : Nat → Foot} (hap : ∀ i j, i < j → j < ops.size → ((Region.before ops).getD j 0).testBit i = true ∨ (Fm i).apart (Fm j) = true)
    (hcomp : ∀ (k : Nat) (o : Oper), ops[k]? = some o → ∃ mo, mos[k]? = some mo ∧ CompAt P N vs on ops ts k o mo) {Q : Exit → Act → World → Prop} {w0 : World} {OK0 : Nat → Prop} {g0 : Ghost} {s' : St}
    (hQ : ∀ a w OK g, SRel E N vs base w OK g s'.1 s'.2.2 a → Ext w0 OK0 g0 w OK g → Q .normal a w) :
    ∀ (fuel : Nat) (listed : Array Bool) (σ T : List AV) (A : Arena) (a : Act) (w : World) (OK : Nat → Prop) (g : Ghost), listed.size = ops.size → (remain ops.size listed).length ≤ fuel →
      (∀ j, listed.getD j false = true → ∀ x, ((Region.before ops).getD j 0).testBit x = true → listed.getD x false = true) →
      RRel E N vs base w OK g σ T ts A a → Ext w0 OK0 g0 w OK g → RunF E pu mos Fm (remain ops.size listed) (σ, T, A) s' → wpAnyIn (FW rd) n P .any ops Q fuel listed a w := by
  obtain ⟨b, hb⟩ : ∃ b, b = Region.before ops := ⟨_, rfl⟩
  rw [← hb] at hof hap
  rw [← hb]
  simp only [orderFree, Bool.and_eq_true, beq_iff_eq, List.all_eq_true, List.mem_range] at hof
  obtain ⟨hlen, hof⟩ := hof
  -- what the check says of one operation
  have chk : ∀ j, j < ops.size → ∃ o, ops[j]? = some o ∧ b.getD j 0 = afterBits b o ∧ (∀ e ∈ o.after.toList, Region.binds .any e = true → e.on < j) ∧
      ∀ i, i < j → (b.getD j 0).testBit i = true ∨ ∃ x y, mos[i]? = some x ∧ mos[j]? = some y ∧ free2 i j x y = true := by
    intro j hj
    have h := hof j hj
    split at h
    · cases h
    · rename_i o ho
      simp only [Bool.and_eq_true, beq_iff_eq, List.all_eq_true, Bool.or_eq_true, Bool.not_eq_true', List.mem_range] at h
      refine ⟨o, ho, h.1.1, fun e he hbd => ?_, fun i hi => ?_⟩
      · rcases h.1.2 e he with h1 | h1
        · rw [hbd] at h1; cases h1
        · exact Nat.blt_eq ▸ h1
      · rcases h.2 i hi with h1 | h1
        · exact .inl h1
        · split at h1
          · rename_i x y hx hy; exact .inr ⟨x, y, hx, hy, h1⟩
          · cases h1
  intro fuel
  induction fuel with
  | zero =>
    intro listed σ T A a w OK g hsz hle hdc h hx he
    have hnil : remain ops.size listed = [] := List.length_eq_zero_iff.1 (by omega)
    have hall : ∀ i, i < ops.size → listed.getD i true = true := fun i hi => by
      cases hl : listed.getD i true with
      | true => rfl
      | false =>
        exfalso
        have : i ∈ remain ops.size listed := by simp only [remain, List.mem_filter, List.mem_range]; exact ⟨hi, by simp [hl]⟩
        rw [hnil] at this; cases this
    rw [hnil] at he
    obtain rfl := he
    refine ⟨?_, hQ a w OK g h.toSRel hx⟩
    unfold Region.ready
    rw [List.filter_eq_nil_iff]
    intro i hi
    simp [hall i (by simpa using hi)]
  | succ fuel ih =>
    intro listed σ T A a w OK g hsz hle hdc h hx he
    refine ⟨fun hr => ?_, fun i hi => ?_⟩
    · -- nothing is ready: nothing is left
      cases hrem : remain ops.size listed with
      | nil =>
        rw [hrem] at he
        obtain rfl := he
        exact hQ a w OK g h.toSRel hx
      | cons i r =>
        exfalso
        have hmem : i ∈ remain ops.size listed := by rw [hrem]; simp
        simp only [remain, List.mem_filter, List.mem_range, Bool.not_eq_true'] at hmem
        obtain ⟨r1, r2, e1, _, e3⟩ := remain_split hsz hmem.1 hmem.2
        have hr1 : r1 = [] := by
          cases r1 with
          | nil => rfl
          | cons k r1 =>
            rw [hrem] at e1
            simp only [List.cons_append, List.cons.injEq] at e1
            have := e3 k (by simp)
            omega
        have hlow : ∀ k, k < i → listed.getD k false = true := fun k hk => by
          cases hl : listed.getD k true with
          | true =>
            have : k < listed.size := by omega
            simp [Array.getD_eq_getD_getElem?, this] at hl ⊢
            exact hl
          | false =>
            exfalso
            have hk' : k ∈ remain ops.size listed := by simp only [remain, List.mem_filter, List.mem_range]; exact ⟨by omega, by simp [hl]⟩
            rw [e1, hr1] at hk'
            obtain ⟨s1, s2, f1, _, f3⟩ := remain_split (i := k) hsz (by omega) hl
            rw [f1] at e1
            cases s1 with
            | nil => rw [hr1] at e1; simp at e1; omega
            | cons z s1 =>
              rw [hr1] at e1
              simp at e1
              have := f3 z (by simp)
              omega
        obtain ⟨o, ho, _, hedge, _⟩ := chk i hmem.1
        have : i ∈ Region.ready .any ops listed := by
          rw [mem_ready]
          refine ⟨hmem.2, o, ho, fun e he hbd => ?_⟩
          exact hlow _ (hedge e (by simpa using he) hbd)
        rw [hr] at this; cases this
    · obtain ⟨hun, o, ho, hall⟩ := mem_ready.1 hi
      have hil : i < ops.size := (Array.getElem?_eq_some_iff.1 ho).1
      obtain ⟨r1, r2, e1, e2, e3⟩ := remain_split hsz hil hun
      obtain ⟨o', ho', hbits, hedge, _⟩ := chk i hil
      obtain rfl : o = o' := Option.some.inj (ho.symm.trans ho')
      -- what comes ahead of it is listed
      have hanc : ∀ x, (b.getD i 0).testBit x = true → listed.getD x false = true := fun x hx => by
        rw [hbits] at hx
        unfold afterBits at hx
        rcases foldl_bits b x _ _ hx with h1 | ⟨e, he, hbd, h1⟩
        · simp at h1
        · have hl := hall e (by simpa using he) hbd
          rcases h1 with rfl | h1
          · exact hl
          · exact hdc _ hl x h1
      have hfree : ∀ k ∈ r1, k ≠ i ∧ (Fm k).apart (Fm i) = true ∧ ∃ x y, mos[k]? = some x ∧ mos[i]? = some y ∧ free2 k i x y = true := fun k hk => by
        obtain ⟨hki, hku⟩ := e3 k hk
        have hno : (b.getD i 0).testBit k ≠ true := fun h5 => by
          have := hanc k h5
          have hkl : k < listed.size := by omega
          simp [Array.getD_eq_getD_getElem?, hkl] at this hku
          rw [this] at hku; cases hku
        refine ⟨by omega, (hap k i hki hil).resolve_left hno, ?_⟩
        obtain ⟨_, _, _, _, h4⟩ := chk i hil
        exact (h4 k hki).resolve_left hno
      rw [e1] at he
      obtain ⟨s1, o1, _, hs1, _, hs2⟩ := toFront hpu r1 _ _ hfree he
      obtain ⟨mo, hmo, hca⟩ := hcomp i o ho
      refine opAt_sound hE hvn hvl ho hmo hca h hs1 (fun a1 w1 OK1 g1 k1 k2 => ?_)
      refine ih _ s1.1 s1.2.1 s1.2.2 a1 w1 OK1 g1 (by simpa using hsz) ?_ ?_ k1 (hx.trans k2) ?_
      · rw [e1] at hle; rw [e2]; simp at hle ⊢; omega
      · intro j hj x hbx
        by_cases hji : j = i
        · subst hji
          have := hanc x hbx
          by_cases hxi : x = j
          · subst hxi
            exact hj
          · simpa [Array.getD_eq_getD_getElem?, Array.getElem?_setIfInBounds_ne (Ne.symm hxi)] using this
        · have hj' : listed.getD j false = true := by simpa [Array.getD_eq_getD_getElem?, Array.getElem?_setIfInBounds_ne (Ne.symm hji)] using hj
          have := hdc j hj' x hbx
          by_cases hxi : x = i
          · subst hxi
            simp [Array.getD_eq_getD_getElem?, Array.getElem?_setIfInBounds_self_of_lt (show x < listed.size by omega)]
          · simpa [Array.getD_eq_getD_getElem?, Array.getElem?_setIfInBounds_ne (Ne.symm hxi)] using this
      · rw [e2]; exact hs2

theorem evX_congrT {σ T T' : List AV} (h : ∀ j, T.getD j .undef = T'.getD j .undef) : evX E σ T = evX E σ T' := by
  funext x
  cases x with
  | tmp j => exact h j
  | _ => rfl

theorem evOpsF_of_evOps {pu : List FuncId} : ∀ (l : List MO) (σ T : List AV) (A : Arena) (fs : List Foot) (σ' : List AV) (A' : Arena), evOps E l σ T A = some (σ', A') → ∃ fs', evOpsF E pu l σ T A fs = some (σ', A', fs')
  | [], σ, T, A, fs, σ', A', h => by
    simp only [evOps, Option.some.injEq, Prod.mk.injEq] at h
    obtain ⟨rfl, rfl⟩ := h
    exact ⟨fs, rfl⟩
  | o :: l, σ, T, A, fs, σ', A', h => by
    simp only [evOps] at h
    simp only [evOpsF]
    split at h
    · split at h
      · exact evOpsF_of_evOps l _ _ _ _ σ' A' h
      · cases h
    · exact evOpsF_of_evOps l _ _ _ _ σ' A' h
    · cases h

/-- the text's order -/
theorem runF_of_evOpsF {pu : List FuncId} (mos : List MO) (Fm : Nat → Foot) : ∀ (rest : List MO) (k : Nat) (σ T : List AV) (A : Arena) (fs : List Foot) (σ' : List AV) (A' : Arena) (fs' : List Foot), mos.drop k = rest → T.length = k → fs.length = k → evOpsF E pu rest σ T A fs = some (σ', A', fs') → (∀ i, Fm i = fs'.getD i .no) →
    (∃ gs, fs' = fs ++ gs) ∧ ∃ T', RunF E pu mos Fm (List.range' k rest.length) (σ, T ++ List.replicate rest.length AV.undef, A) (σ', T', A')
  | [], k, σ, T, A, fs, σ', A', fs', _, _, _, h, _ => by
    simp only [evOpsF, Option.some.injEq, Prod.mk.injEq] at h
    obtain ⟨rfl, rfl, rfl⟩ := h
    exact ⟨⟨[], by simp⟩, _, rfl⟩
  | o :: rest, k, σ, T, A, fs, σ', A', fs', hd, hT, hF, h, hFm => by
    have hk : mos[k]? = some o := by
      have := congrArg (fun l => l[0]?) hd
      simpa [List.getElem?_drop] using this
    have hd' : mos.drop (k + 1) = rest := by
      have := congrArg List.tail hd
      simpa [List.tail_drop] using this
    have hX : evX E σ (T ++ List.replicate (o :: rest).length AV.undef) = evX E σ T := evX_congrT fun j => by
      rw [List.getD_eq_getElem?_getD, List.getD_eq_getElem?_getD, List.getElem?_append]
      split
      · rfl
      · rename_i hge
        rw [List.getElem?_eq_none (l := T) (by omega), List.getElem?_replicate]
        split <;> rfl
    have hset : ∀ v : AV, (T ++ List.replicate (o :: rest).length AV.undef).set k v = (T ++ [v]) ++ List.replicate rest.length AV.undef := fun v => by
      rw [List.set_append, if_neg (by omega), hT, Nat.sub_self, List.length_cons, List.replicate_succ, List.set_cons_zero]
      simp
    have fin : ∀ v A1 F, evRes1 E o (evX E σ T) A = some (v, A1) → F = footAt E pu o (evX E σ T) A → evOpsF E pu rest (setVar σ o.dst v) (T ++ [v]) A1 (fs ++ [F]) = some (σ', A', fs') →
        (∃ gs, fs' = fs ++ gs) ∧ ∃ T', RunF E pu mos Fm (List.range' k (o :: rest).length) (σ, T ++ List.replicate (o :: rest).length AV.undef, A) (σ', T', A') := by
      intro v A1 F h1 hF1 h2
      obtain ⟨⟨gs, hgs⟩, T', h3⟩ := runF_of_evOpsF mos Fm rest (k + 1) _ (T ++ [v]) A1 (fs ++ [F]) σ' A' fs' hd' (by simp [hT]) (by simp [hF]) h2 hFm
      refine ⟨⟨[F] ++ gs, by rw [hgs]; simp⟩, T', ?_⟩
      rw [List.length_cons, List.range'_succ]
      refine ⟨(setVar σ o.dst v, (T ++ List.replicate (o :: rest).length AV.undef).set k v, A1), o, hk, ?_, ?_, ?_⟩
      · simp only [evAt, hk]
        rw [← List.length_cons (a := o), hX, h1]; rfl
      · rw [← List.length_cons (a := o)]
        simp only [hX]
        rw [← hF1, hFm k, hgs, List.append_assoc, List.getD_eq_getElem?_getD, List.getElem?_append_right (by omega), hF, Nat.sub_self]
        rfl
      · rw [hset v]
        exact h3
    simp only [evOpsF] at h
    split at h
    · rename_i hg
      split at h
      · rename_i v A1 hst
        exact fin v A1 _ (by simp only [evRes1, hg, hst]) (by simp only [footAt, hg]) h
      · cases h
    · rename_i hg
      exact fin (.tup []) A _ (by simp only [evRes1, hg]) (by simp only [footAt, hg]) h
    · cases h

theorem RunF.foot {pu : List FuncId} {mos : List MO} {Fm : Nat → Foot} : ∀ {l : List Nat} {s s' : St}, RunF E pu mos Fm l s s' → ∀ i ∈ l, ∃ o ρ A, mos[i]? = some o ∧ Fm i = footAt E pu o ρ A
  | [], _, _, _, i, hi => by cases hi
  | j :: r, s, s', ⟨s1, o, ho, _, hf, hr⟩, i, hi => by
    rcases List.mem_cons.1 hi with rfl | hi
    · exact ⟨o, _, _, ho, hf.symm⟩
    · exact RunF.foot hr i hi

theorem apart_of_kinds {pu : List FuncId} {x y : MO} (h : kinds2 pu x y = true) (ρ ρ' : MX → AV) (A B : Arena) : (footAt E pu x ρ A).apart (footAt E pu y ρ' B) = true := by
  have h0 : ∀ (o : MO) (ρ : MX → AV) (A : Arena), opKind pu o.op = 0 → footAt E pu o ρ A = .no := fun o ρ A h => by
    unfold footAt; split
    · exact kind0 h ρ A
    · rfl
  have h1 : ∀ (o : MO) (ρ : MX → AV) (A : Arena), opKind pu o.op = 1 → (footAt E pu o ρ A).wr = some [] ∧ (footAt E pu o ρ A).al = false := fun o ρ A h => by
    unfold footAt; split
    · exact kind1 h ρ A
    · exact ⟨rfl, rfl⟩
  have m0 : ∀ l, meetNo l (some []) = true := fun l => by
    cases l with
    | none => rfl
    | some l => cases l <;> rfl
  have m0' : ∀ l, meetNo (some []) l = true := fun l => rfl
  simp only [kinds2, Bool.or_eq_true, Bool.and_eq_true, beq_iff_eq] at h
  rcases h with (h | h) | ⟨h, h'⟩
  · rw [h0 x ρ A h]; simp [Foot.apart, Foot.apart0, Foot.no, m0']
  · rw [h0 y ρ' B h]; simp [Foot.apart, Foot.apart0, Foot.no, m0]
  · obtain ⟨a1, a2⟩ := h1 x ρ A h
    obtain ⟨b1, b2⟩ := h1 y ρ' B h'
    simp [Foot.apart, Foot.apart0, a1, a2, b1, m0, m0']

/-- a region whose order is open -/
theorem regionAny_sound {on : Bool} (hE : EnvSound P E) (hvn : vs.Nodup) (hvl : ∀ t ∈ vs, t < N) {pu : List FuncId} (hpu : PureIn E pu) (hm : P.follows .mixedOrders = true) {id : Nat} {ops : Array Oper}
    (hof : orderFree ops (compOps P N vs on ops ops.toList []) (Region.before ops) = true) {σ σ' : List AV} {A A' : Arena} {a : Act} {w : World} {OK : Nat → Prop} {g : Ghost} (h : SRel E N vs base w OK g σ A a) {fs : List Foot}
    (he : evOpsF E pu (compOps P N vs on ops ops.toList []) σ [] A [] = some (σ', A', fs)) (hpr : ∀ p ∈ openPairs pu (compOps P N vs on ops ops.toList []) (Region.before ops), (fs.getD p.1 .no).apart (fs.getD p.2 .no) = true) {Q : Exit → Act → World → Prop}
    (hQ : ∀ a1 w1 OK1 g1, SRel E N vs base w1 OK1 g1 σ' A' a1 → Ext w OK g w1 OK1 g1 → Q .normal a1 w1) : (Code.region id ops true).wpIn (FW rd) n P Q a w := by
  refine wpIn_region_any hm ?_
  have he0 : evOps E (compOps P N vs on ops ops.toList []) σ [] A ≠ none := fun h0 => by
    have : ∀ (l : List MO) (σ T : List AV) (A : Arena) (fs : List Foot), evOps E l σ T A = none → evOpsF E pu l σ T A fs = none := by
      intro l
      induction l with
      | nil => intro σ T A fs h; cases h
      | cons o l ih =>
        intro σ T A fs h
        simp only [evOps] at h
        simp only [evOpsF]
        split at h
        · split at h
          · exact ih _ _ _ _ h
          · rfl
        · exact ih _ _ _ _ h
        · rfl
    rw [this _ _ _ _ _ h0] at he
    cases he
  rcases compOps_spec (P := P) (E := E) (N := N) (vs := vs) (on := on) (ops := ops) ops.toList [] (fun j j' t h => by simp at h) (fun j t h => by simp at h) with ⟨tf, _, k2, k3, k4, k5, k6⟩ | hn
  · obtain ⟨_, T', h1⟩ := runF_of_evOpsF (E := E) (pu := pu) (compOps P N vs on ops ops.toList []) (fun i => fs.getD i .no) (compOps P N vs on ops ops.toList []) 0 σ [] A [] σ' A' fs rfl rfl rfl he (fun _ => rfl)
    have hrem : remain ops.size (Array.replicate ops.size false) = List.range ops.size := by
      unfold remain
      rw [List.filter_eq_self]
      intro i hi
      have : i < ops.size := by simpa using hi
      simp [Array.getD_eq_getD_getElem?, this]
    have hD := h.arena.drew (w.drawn + 1)
    have hX := Ext.drew w OK g (w.drawn + 1)
    have h' := h.ext hX hD
    rw [k5, ← List.range_eq_range', List.nil_append, show ops.toList.length = ops.size by simp] at h1
    have hlen : (compOps P N vs on ops ops.toList []).length = ops.size := by rw [k5]; simp
    refine any_sound (on := on) (base := base) (s' := (σ', T', A')) hE hvn hvl hpu hof (ts := tf) (Fm := fun i => fs.getD i .no) (fun i j hij hj => ?_) (fun k o hk => by
      obtain ⟨mo, l1, l2⟩ := k6 k o (by simpa using hk)
      exact ⟨mo, l1, by simpa using l2⟩) (w0 := w) (OK0 := OK) (g0 := g) (fun a1 w1 OK1 g1 m1 m2 => hQ a1 w1 OK1 g1 m1 m2) ops.size _ σ (List.replicate ops.size .undef) A a _ OK g (by simp) (by rw [hrem]; simp) ?_ ?_ hX ?_
    · by_cases hb : ((Region.before ops).getD j 0).testBit i = true
      · exact .inl hb
      · right
        obtain ⟨x, ρx, Ax, hx, fx⟩ := h1.foot i (by simp; omega)
        obtain ⟨y, ρy, Ay, hy, fy⟩ := h1.foot j (by simp; omega)
        by_cases hk : kinds2 pu x y = true
        · rw [fx, fy]
          exact apart_of_kinds hk _ _ _ _
        · refine hpr (i, j) ?_
          simp only [openPairs, List.mem_flatMap, List.mem_range, List.mem_filterMap]
          exact ⟨j, by omega, i, hij, by rw [if_neg hb]; simp [hx, hy, hk]⟩
    · intro j hj
      exfalso
      by_cases hjs : j < ops.size <;> simp [Array.getD_eq_getD_getElem?, hjs] at hj
    · have hun : ∀ j, (List.replicate ops.size AV.undef).getD j .undef = .undef := fun j => by
        rw [List.getD_eq_getElem?_getD, List.getElem?_replicate]; split <;> rfl
      exact { h' with tlen := (by simp [k2]), temps := (fun j t hj => by rw [hun]; exact .undef _ _), tok := k4, tone := k3 }
    · rw [hrem]; exact h1
  · exact absurd (hn _ _ _) he0
end
end Go.Proofs.Ytemklhljjaniaaa
/-
  Loops over functions: the rounds, the loop. Program-independent.
-/
namespace Go.Proofs.Ytemklhljjaniaaa
open Go
section
variable {P : Program} {E : Env} {N : Nat} {vs : List Nat} {base : Nat} {rd : Option Nat} {n : Nat}

def OutOk (E : Env) (N : Nat) (vs : List Nat) (base : Nat) (w0 : World) (OK0 : Nat → Prop) (g0 : Ghost) : Out → Exit → Act → World → Prop
  | .normal σ A, .normal, a, w => ∃ OK g, SRel E N vs base w OK g σ A a ∧ Ext w0 OK0 g0 w OK g
  | .exit id σ A, .exit id', a, w => id = id' ∧ ∃ OK g, SRel E N vs base w OK g σ A a ∧ Ext w0 OK0 g0 w OK g
  | .ret σ A, .ret, a, w => ∃ OK g, SRel E N vs base w OK g σ A a ∧ Ext w0 OK0 g0 w OK g
  | _, _, _, _ => False

theorem OutOk.pre {w0 w1 : World} {OK0 OK1 : Nat → Prop} {g0 g1 : Ghost} {out : Out} {e : Exit} {a : Act} {w : World} (hx : Ext w0 OK0 g0 w1 OK1 g1) (h : OutOk E N vs base w1 OK1 g1 out e a w) : OutOk E N vs base w0 OK0 g0 out e a w := by
  cases out <;> cases e <;> simp only [OutOk] at h ⊢
  · obtain ⟨OK, g, h1, h2⟩ := h; exact ⟨OK, g, h1, hx.trans h2⟩
  · obtain ⟨h0, OK, g, h1, h2⟩ := h; exact ⟨h0, OK, g, h1, hx.trans h2⟩
  · obtain ⟨OK, g, h1, h2⟩ := h; exact ⟨OK, g, h1, hx.trans h2⟩

theorem wpIn_scope' {F : Fence} {Q : Exit → Act → World → Prop} {a : Act} {w : World} {c : Code} (h : c.wpIn F n P Q a w) (hg : ∀ l a w, ¬ Q (.goto l) a w) : (Code.scope c).wpIn F n P Q a w := by
  intro b k cs hro hb hr
  have s1 : step P (lone (b.atR a (.code (.scope c) :: k)) cs w) = .next (lone (b.atR a (.code c :: .inScope c :: k)) cs w) := step_lone_go (by simp [stepG, stepG.exec, Frame.atR])
  have s2 : ∀ a w, step P (lone (b.atR a (.inScope c :: k)) cs w) = .next (lone (b.atR a k) cs w) := fun a w => step_lone_go (by simp [stepG, stepG.exec, Frame.atR])
  have h0 : (lone (b.atR a (.code (.scope c) :: k)) cs w).fenced P F := fenced_calm hb hr rfl
  obtain ⟨e, a₁, w₁, hq, harr⟩ := h b (.inScope c :: k) cs hro hb hr
  cases e with
  | normal => exact ⟨.normal, a₁, w₁, hq, .head h0 s1 (StepsIn.trans harr (.one (fenced_calm hb hr rfl) (s2 _ _)))⟩
  | exit id => exact ⟨.exit id, a₁, w₁, hq, fun k' hk => .head h0 s1 (harr.1 k' (by simp [exitTo, hk])), fun hr' hk => let ⟨k₁, h1, h2⟩ := harr.2 hr' (by simp [exitTo, hk]); ⟨k₁, h1, .head h0 s1 h2⟩⟩
  | goto l => exact (hg _ _ _ hq).elim
  | ret => exact ⟨_, a₁, w₁, hq, .of_steps (.one h0 s1) harr⟩
  | panic ch => exact ⟨_, a₁, w₁, hq, .of_steps (.one h0 s1) harr⟩
  | outgrown => exact ⟨_, a₁, w₁, hq, .of_steps (.one h0 s1) harr⟩


theorem evR_spec {α β : Type} {good : α → Prop} {inner : α → Option β} {x : β} (h : evR good inner = some x) (a : α) (ha : good a) : inner a = some x := by
  unfold evR at h
  split at h
  · rename_i hx
    injection h with h; subst h
    exact hx.choose_spec a ha
  · cases h

theorem evR_of {α β : Type} {good : α → Prop} {inner : α → Option β} {x : β} (a : α) (ha : good a) (h : ∀ a, good a → inner a = some x) : evR good inner = some x := by
  have hx : ∃ x, ∀ a, good a → inner a = some x := ⟨x, h⟩
  unfold evR
  rw [dif_pos hx]
  have h1 := hx.choose_spec a ha
  rw [h a ha] at h1
  exact h1.symm

/-- A block that nothing names. -/
theorem ARel.alloc {w : World} {OK : Nat → Prop} {g : Ghost} {A : Arena} (h : ARel w OK g A) (o : Obj) : ARel (w.alloc o) OK g A ∧ Ext w OK g (w.alloc o) OK g := by
  have hb : ∀ b, b < w.heap.size → (w.alloc o).heap[b]? = w.heap[b]? := fun b hb => by
    show (w.heap.push o)[b]? = _
    rw [Array.getElem?_push, if_neg (by omega)]
  have hs : w.heap.size ≤ (w.alloc o).heap.size := by simp
  exact ⟨h.keep hs hb OK (fun _ h => h) (fun _ h => .inl h) (fun b hb => Nat.lt_of_lt_of_le (h.ok b hb) hs),
    ⟨rfl, rfl, rfl, hs, fun b hb' _ => hb b hb', g.le_refl, fun _ h => h, fun id inc hi => .inl ⟨id, inc, hi, rfl⟩, fun _ h => .inl h, fun b r hr _ => (hb b (Array.getElem?_eq_some_iff.1 hr).1).trans hr, fun _ _ _ _ => rfl⟩⟩

/-- A loop's record, ready or left by a jump once more. -/
theorem ARel.revive {w : World} {OK : Nat → Prop} {g : Ghost} {A : Arena} (h : ARel w OK g A) {n0 : Nat} {inc : Inc} (hg : g n0 = [inc]) (h0 : inc.esz = 0) {rb : Loop} (hb : w.heap[inc.b]? = some (.loop rb)) (hbusy : rb.state = .busy)
    (r : Loop) (k : Nat) : ARel (w.putObj inc.b (.loop (recOf r k))) OK g (A.set n0 (.loop r k)) := by
  have hlt : inc.b < w.heap.size := (Array.getElem?_eq_some_iff.1 hb).1
  have hn0 : n0 < A.length := by
    rcases Nat.lt_or_ge n0 A.length with h1 | h1
    · exact h1
    · have := h.out n0 h1; rw [hg] at this; cases this
  have hother : ∀ b, b ≠ inc.b → (w.putObj inc.b (.loop (recOf r k))).heap[b]? = w.heap[b]? := fun b hne => World.putObj_heap_other hne
  have hokb : ∀ b, OK b → (w.putObj inc.b (.loop (recOf r k))).heap[b]? = w.heap[b]? := fun b hob => hother b fun e => h.apart n0 inc (by rw [hg]; simp) (e ▸ hob)
  -- no other living entry names the block
  have hapart : ∀ (k' : Nat) (i : Inc), k' ≠ n0 → A[k']? ≠ some .dead → i ∈ g k' → i.b ≠ inc.b := fun k' i hk hd hi eb => by
    have hk' : k' < A.length := by
      rcases Nat.lt_or_ge k' A.length with h1 | h1
      · exact h1
      · have := h.out k' h1; rw [this] at hi; cases hi
    have hent := h.ent k' hk'
    cases he : A[k'] with
    | row s gr es =>
      rw [he] at hent
      obtain ⟨_, _, _, c, T, fz, hh, _⟩ := hent.2 i hi
      rw [eb, hb] at hh; cases hh
    | map kvs =>
      rw [he] at hent
      obtain ⟨i', e1, es, cl, hh, _⟩ := hent
      rw [e1] at hi; simp at hi; subst hi
      rw [eb, hb] at hh; cases hh
    | loop r' k2 =>
      rw [he] at hent
      obtain ⟨i', e1, _, hh⟩ := hent
      rw [e1] at hi; simp at hi; subst hi
      rw [eb, hb] at hh
      injection hh with hh; injection hh with hh
      rw [hh] at hbusy
      unfold recOf at hbusy
      split at hbusy <;> cases hbusy
    | dead => exact hd (by rw [List.getElem?_eq_getElem hk', he])
  refine ⟨fun k' hk => ?_, fun k' hk => ?_, fun k1 k2 i i' hd hd' hi hi' eb => ?_, h.apart, fun k' i hi => ?_, fun b hob => ?_⟩
  · by_cases e : k' = n0
    · subst e
      simp only [List.getElem_set_self]
      exact ⟨inc, hg, h0, World.putObj_heap_same hlt⟩
    · have hk' : k' < A.length := by simpa using hk
      rw [List.getElem_set_ne (Ne.symm e)]
      by_cases hd : A[k']? = some .dead
      · rw [List.getElem?_eq_getElem hk'] at hd
        injection hd with hd
        rw [hd]; trivial
      · exact (h.ent k' hk').mono (fun _ h => h) hokb g.le_refl (fun i hi => hother _ (hapart k' i e hd hi))
  · exact h.out k' (by simpa using hk)
  · have hl : ∀ k' : Nat, k' ≠ n0 → (A.set n0 (.loop r k))[k']? ≠ some Ent.dead → A[k']? ≠ some Ent.dead := fun k' e hd => by rwa [List.getElem?_set_ne (Ne.symm e)] at hd
    by_cases e1 : k1 = n0
    · by_cases e2 : k2 = n0
      · subst e1; subst e2
        rw [hg] at hi hi'
        simp at hi hi'
        exact ⟨rfl, hi.trans hi'.symm⟩
      · subst e1
        rw [hg] at hi
        simp at hi; subst hi
        exact absurd eb.symm (hapart k2 i' e2 (hl k2 e2 hd') hi')
    · by_cases e2 : k2 = n0
      · subst e2
        rw [hg] at hi'
        simp at hi'; subst hi'
        exact absurd eb (hapart k1 i e1 (hl k1 e1 hd) hi)
      · exact h.one k1 k2 i i' (hl k1 e1 hd) (hl k2 e2 hd') hi hi' eb
  · simpa using h.low k' i hi
  · simpa using h.ok b hob

theorem idxAll_get {vs : List Nat} : ∀ {ts is : List Nat}, idxAll vs ts = some is → ts.length = is.length ∧ ∀ k (h1 : k < ts.length) (h2 : k < is.length), ∃ h : is[k] < vs.length, vs[is[k]] = ts[k]
  | [], is, h => by injection h with h; subst h; exact ⟨rfl, fun k h1 => by simp at h1⟩
  | t :: r, is, h => by
    simp only [idxAll] at h
    split at h
    · rename_i i l h1 h2
      injection h with h; subst h
      obtain ⟨k1, k2⟩ := idxAll_get (ts := r) h2
      refine ⟨by simp [k1], fun k h3 h4 => ?_⟩
      cases k with
      | zero => exact List.idxOf?_eq_some_iff.1 h1 |> fun h => (⟨h.1, h.2.1⟩ : ∃ h : i < vs.length, vs[i] = t)
      | succ k => exact k2 k (by simpa using h3) (by simpa using h4)
    · cases h

/-- a round's slots: the loop's, with what was yielded -/
theorem setAll_sound {w : World} {OK : Nat → Prop} {g : Ghost} (hvn : vs.Nodup) (hvl : ∀ t ∈ vs, t < N) : ∀ (ts is : List Nat) (us : List Value) (args σ σ1 : List AV) (tm : Array Value), idxAll vs ts = some is → setAll σ is args = some σ1 → ListRel w OK g us args →
    tm.size = N → σ.length = vs.length → (∀ i (h : i < vs.length), VRel w OK g (tm.getD vs[i] undef) (σ.getD i .undef)) →
    let tm' := (ts.zip us).foldl (fun tmps x => tmps.setIfInBounds x.1 x.2) tm
    us.length = ts.length ∧ tm'.size = N ∧ σ1.length = vs.length ∧ ∀ i (h : i < vs.length), VRel w OK g (tm'.getD vs[i] undef) (σ1.getD i .undef)
  | [], is, us, args, σ, σ1, tm, hi, hs, hl, hN, hlen, hv => by
    injection hi with hi; subst hi
    cases args with
    | nil =>
      simp only [setAll, Option.some.injEq] at hs
      subst hs
      cases us with
      | nil => exact ⟨rfl, hN, hlen, hv⟩
      | cons u us => exact hl.elim
    | cons a args => simp [setAll] at hs
  | t :: ts, is, us, args, σ, σ1, tm, hi, hs, hl, hN, hlen, hv => by
    simp only [idxAll] at hi
    split at hi
    · rename_i i l h1 h2
      injection hi with hi; subst hi
      cases args with
      | nil => simp [setAll] at hs
      | cons a args =>
        cases us with
        | nil => exact hl.elim
        | cons u us =>
          simp only [setAll] at hs
          obtain ⟨hlt, het⟩ := List.idxOf?_eq_some_iff.1 h1 |> fun h => (⟨h.1, h.2.1⟩ : ∃ h : i < vs.length, vs[i] = t)
          have htN : t < N := hvl t (het ▸ List.getElem_mem hlt)
          obtain ⟨k1, k2, k3, k4⟩ := setAll_sound hvn hvl ts l us args (σ.set i a) σ1 (tm.setIfInBounds t u) h2 hs hl.2 (by simpa using hN) (by simpa using hlen) (fun j hj => by
            by_cases e : i = j
            · subst e
              rw [het, getD_set_self _ _ (by rw [hN]; exact htN)]
              simp [List.getD_eq_getElem?_getD, List.getElem?_set_self (show i < σ.length by rw [hlen]; exact hj), hl.1]
            · have hne : t ≠ vs[j] := fun e2 => e (nodup_inj hvn hlt hj (by rw [het, e2]))
              rw [getD_set_ne _ _ hne]
              have := hv j hj
              simpa [List.getD_eq_getElem?_getD, List.getElem?_set_ne e] using this)
          exact ⟨by simp [k1], k2, k3, k4⟩
    · cases hi

end
end Go.Proofs.Ytemklhljjaniaaa
/-
  Loops over functions: what a yield does; the loop itself. Program-independent.
-/
namespace Go.Proofs.Ytemklhljjaniaaa
open Go
section
variable {P : Program} {E : Env} {N : Nat} {vs : List Nat} {base : Nat} {rd : Option Nat} {n : Nat}

/-- the world, and what is related in it, after the record's turn -/
theorem Ext.putLoop {w w3 : World} {OK OK3 : Nat → Prop} {g g3 : Ghost} (h : Ext w OK g w3 OK3 g3) {n0 : Nat} {inc : Inc} (hg : g n0 = [inc]) {r0 : Loop} (hr : w.heap[inc.b]? = some (.loop r0)) (h0 : r0.state ≠ .busy) (o : Obj) :
    Ext w OK g (w3.putObj inc.b o) OK3 g3 where
  os := h.os
  tape := h.tape
  output := h.output
  size := by simpa using h.size
  blk b hb hu := (World.putObj_heap_other (fun e => hu n0 inc (by rw [hg]; simp) e.symm)).trans (h.blk b hb hu)
  gle := h.gle
  okle := h.okle
  fresh := h.fresh
  okf := h.okf
  loops b r hb hbusy := (World.putObj_heap_other (fun e => by
    rw [e, hr] at hb; injection hb with hb; injection hb with hb; rw [hb] at h0; exact h0 hbusy)).trans (h.loops b r hb hbusy)
  fix := h.fix

theorem yieldH_sound (hvn : vs.Nodup) (hvl : ∀ t ∈ vs, t < N) {n0 l : Nat} {r0 : Loop} {σ : List AV} {is : List Nat} {asg bdy : List AV → Arena → Option Out} {tm : Array Value}
    (hr0 : r0.state = .ready ∧ r0.pending = none) (htm : r0.tmps = tm) (hN : tm.size = N) (hlen : σ.length = vs.length) (his : idxAll vs r0.params.toList = some is) (hh : HSound P E.glob E.ys E.hand)
    (ha : ∀ (m : Nat) (σ : List AV) (A : Arena) (out : Out) (a : Act) (w : World) (OK : Nat → Prop) (g : Ghost), SRel E N vs 0 w OK g σ A a → asg σ A = some out → r0.assign.wpIn (FW (some l)) m P (OutOk E N vs 0 w OK g out) a w)
    (hb : ∀ (m : Nat) (σ : List AV) (A : Arena) (out : Out) (a : Act) (w : World) (OK : Nat → Prop) (g : Ghost), SRel E N vs 0 w OK g σ A a → bdy σ A = some out → r0.body.wpIn (FW (some l)) m P (OutOk E N vs 0 w OK g out) a w) :
    HSound P E.glob (⟨n0, l, vs.map (tm.getD · undef), σ⟩ :: E.ys) (yieldH n0 l r0 σ is asg bdy E.hand) := by
  intro fv args A r A' he w OK g v us hA hI hv hl
  have hsub : ∀ y ∈ E.ys, y ∈ (⟨n0, l, vs.map (tm.getD · undef), σ⟩ :: E.ys) := fun y hy => List.mem_cons_of_mem _ hy
  have other : E.hand fv args A = some (r, A') → CallOk P w OK g ((do let d ← Deferred.ofValue v us.toArray; invoke d.target d.args : Sem Next).run P w) r A' := fun he => hh.sub hsub _ _ _ _ _ he w OK g v us hA hI hv hl
  unfold yieldH at he
  split at he
  · rename_i l'
    split at he
    · rename_i hll
      subst hll
      split at he
      · rename_i r' k hAn
        split at he
        · rename_i hrk
          obtain ⟨rfl, rfl⟩ := hrk
          split at he
          · rename_i σ1 hset
            split at he
            · rename_i σ2 A2 hasg
              split at he
              · rename_i hA2
                obtain ⟨⟨inc, hg1, hg2, hg3⟩, hvals⟩ := hI.2 _ (List.mem_cons_self ..)
                simp only at hg1 hg2 hvals
                subst hg2
                have hn0 : n0 < A.length := (List.getElem?_eq_some_iff.1 hAn).1
                have hent := hA.ent n0 hn0
                rw [(List.getElem?_eq_some_iff.1 hAn).2] at hent
                obtain ⟨inc', e1, _, hheap⟩ := hent
                rw [hg1] at e1
                simp at e1; subst e1
                have hrec : recOf r' 0 = r' := by
                  obtain ⟨h1, h2⟩ := hr0
                  cases r'; simp only at h1 h2; subst h1; subst h2; rfl
                rw [hrec] at hheap
                -- the call
                obtain ⟨vs1, vs2, vals1, vals2, rfl, hl1, hl2, -, -, -, -⟩ := hv.inv_func
                simp at hl1 hl2
                subst hl1; subst hl2
                obtain ⟨t1, t2, t3, t4⟩ := setAll_sound hvn hvl r'.params.toList is us args σ σ1 tm his hset hl hN hlen (fun i hi => by
                  have := hvals.get i (by simpa using hi) (by rw [hlen]; exact hi)
                  simpa [List.getD_eq_getElem?_getD, List.getElem?_eq_getElem (show i < σ.length by rw [hlen]; exact hi)] using this)
                have hy := run_yield (P := P) (args := us.toArray) (hheap) (by simpa using t1)
                refine .inr (.inr ⟨inc.b, r'.fn, (r'.params.zip us.toArray).foldl (fun tmps (t, a) => tmps.setIfInBounds t a) r'.tmps, r'.assign, r'.body, ?_, ?_⟩)
                · simp only [Deferred.ofValue, Sem.run_bind, Sem.run_pure, Result.andThen_ok, invoke]
                  simpa using hy
                intro rd m
                have hs0 : SRel E N vs 0 w OK g σ1 A { tmps := (r'.params.zip us.toArray).foldl (fun tmps x => tmps.setIfInBounds x.1 x.2) r'.tmps, defers := [] } := by
                  have hf : (r'.params.zip us.toArray).foldl (fun tmps x => tmps.setIfInBounds x.1 x.2) r'.tmps = (r'.params.toList.zip us).foldl (fun tmps x => tmps.setIfInBounds x.1 x.2) tm := by
                    rw [← Array.foldl_toList, htm]; simp
                  rw [hf]
                  exact ⟨t2, trivial, Nat.zero_le _, t3, t4, hA, hI.sub hsub⟩
                refine roundIn_of_wpIn (F := FW rd) trivial (wpIn_mono (ha m σ1 A _ _ w OK g hs0 hasg) ?_)
                intro e a1 w1 hq
                cases e <;> simp only [OutOk] at hq
                obtain ⟨OK1, g1, hs1, hx1⟩ := hq
                have hg1' : g1 n0 = [inc] := (hx1.fix n0 inc (by rw [hg1]; simp) hg3).trans hg1
                have hn1 : n0 < A2.length := (List.getElem?_eq_some_iff.1 hA2).1
                have hent1 := hs1.arena.ent n0 hn1
                rw [(List.getElem?_eq_some_iff.1 hA2).2] at hent1
                obtain ⟨inc', e1, _, hheap1⟩ := hent1
                rw [hg1'] at e1
                simp at e1; subst e1
                rw [hrec] at hheap1
                have hlt1 : inc.b < w1.heap.size := (Array.getElem?_eq_some_iff.1 hheap1).1
                refine ⟨w1.putObj inc.b (.loop { r' with state := .busy }), run_beginRound hheap1 hr0.1, ?_⟩
                obtain ⟨u1, u2⟩ := hs1.arena.turn (w' := w1.putObj inc.b (.loop { r' with state := .busy })) (g' := g1) n0 hn1 (by rw [hA2]; simp) inc (by rw [hg1']; simp) (by simp) rfl rfl rfl (fun b hne => World.putObj_heap_other hne)
                  (fun r2 hr2 hbusy => by rw [hheap1] at hr2; injection hr2 with hr2; injection hr2 with hr2; rw [← hr2, hr0.1] at hbusy; cases hbusy) g1.le_refl (fun _ _ => rfl) (fun i hi => ⟨i, hi, rfl⟩)
                  (fun i i' hi hi' _ => by rw [hg1'] at hi hi'; simp at hi hi'; rw [hi, hi']) .dead (fun _ => trivial) (fun _ => rfl)
                have hs2 := hs1.ext u2 u1
                have hbusy2 : (w1.putObj inc.b (.loop { r' with state := .busy })).heap[inc.b]? = some (.loop { r' with state := .busy }) := World.putObj_heap_same hlt1
                -- behind the body
                have fin : ∀ (k : Nat) (jump : Option Code) (σ3 : List AV) (A3 : Arena) (a3 : Act) (w3 : World) (OK3 : Nat → Prop) (g3 : Ghost), SRel E N vs 0 w3 OK3 g3 σ3 A3 a3 → Ext (w1.putObj inc.b (.loop { r' with state := .busy })) OK1 g1 w3 OK3 g3 →
                    recOf r' k = { r' with state := if jump.isNone then .ready else .done, pending := jump } →
                    ∃ v w', (Instr.endRound inc.b jump).run P w3 = .ok v w' ∧ ∃ v' OK' g', Ending.returned v = .returned v' ∧ VRel w' OK' g' v' (.bool jump.isNone) ∧ ARel w' OK' g' (A3.set n0 (.loop r' k)) ∧ Ext w OK g w' OK' g' := by
                  intro k jump σ3 A3 a3 w3 OK3 g3 hs3 hx3 hrk
                  have hb3 := hx3.loops _ _ hbusy2 rfl
                  have hg3' : g3 n0 = [inc] := (hx3.fix n0 inc (by rw [hg1']; simp) hg3).trans hg1'
                  have := run_endRound (P := P) jump hb3
                  refine ⟨_, _, this, .bool jump.isNone, OK3, g3, rfl, .bool _ _, ?_, ?_⟩
                  · have hrv := hs3.arena.revive hg3' hg3 hb3 rfl r' k
                    rw [hrk] at hrv
                    exact hrv
                  · exact ((hx1.trans u2).trans hx3).putLoop hg1 hheap (by rw [hr0.1]; simp) _
                split at he
                · rename_i σ3 A3 hbd
                  injection he with he; injection he with he1 he2; subst he1; subst he2
                  refine wpIn_mono (hb m σ2 (A2.set n0 .dead) _ a1 _ OK1 g1 hs2 hbd) ?_
                  intro e a3 w3 hq
                  cases e <;> simp only [OutOk] at hq
                  obtain ⟨OK3, g3, hs3, hx3⟩ := hq
                  exact fin 0 none σ3 A3 a3 w3 OK3 g3 hs3 hx3 rfl
                · rename_i σ3 A3 hbd
                  injection he with he; injection he with he1 he2; subst he1; subst he2
                  refine wpIn_mono (hb m σ2 (A2.set n0 .dead) _ a1 _ OK1 g1 hs2 hbd) ?_
                  intro e a3 w3 hq
                  cases e <;> simp only [OutOk] at hq
                  obtain ⟨OK3, g3, hs3, hx3⟩ := hq
                  exact fin 1 (some .ret) σ3 A3 a3 w3 OK3 g3 hs3 hx3 rfl
                · rename_i id σ3 A3 hbd
                  injection he with he; injection he with he1 he2; subst he1; subst he2
                  refine wpIn_mono (hb m σ2 (A2.set n0 .dead) _ a1 _ OK1 g1 hs2 hbd) ?_
                  intro e a3 w3 hq
                  cases e <;> simp only [OutOk] at hq
                  obtain ⟨hid, OK3, g3, hs3, hx3⟩ := hq
                  subst hid
                  exact fin (id + 2) (some (.exit id)) σ3 A3 a3 w3 OK3 g3 hs3 hx3 (by unfold recOf; rw [if_neg (by omega), if_neg (by omega)]; simp)
                · cases he
              · cases he
            · cases he
          · cases he
        · cases he
      · cases he
    · exact other he
  · exact other he
end
end Go.Proofs.Ytemklhljjaniaaa
