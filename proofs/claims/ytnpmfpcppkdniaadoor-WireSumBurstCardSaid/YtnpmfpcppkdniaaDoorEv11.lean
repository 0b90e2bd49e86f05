/-
  copy; strings and bytes. Program-independent.
-/
import Derived.Test.YtnpmfpcppkdniaaDoorEv10
import Derived.Laws.BytesString
namespace Go.Proofs.YtnpmfpcppkdniaaDoor
open Go
section
variable {P : Program} {w : World} {OK : Nat → Prop} {g : Ghost} {A : Arena}

def u8s : List AV → Option (List Int)
  | [] => some []
  | .int .u8 n :: r => (u8s r).map (n :: ·)
  | _ :: _ => none

theorem u8s_bytes (l : List UInt8) : u8s (l.map fun b => .int .u8 b.toNat) = some (l.map fun b => (b.toNat : Int)) := by
  induction l with
  | nil => rfl
  | cons b l ih => simp [u8s, ih]

theorem u8s_length : ∀ {es : List AV} {ns : List Int}, u8s es = some ns → ns.length = es.length
  | [], ns, h => by injection h with h; subst h; rfl
  | .int .u8 n :: r, ns, h => by
    simp only [u8s, Option.map_eq_some_iff] at h
    obtain ⟨m, h1, rfl⟩ := h
    simp [u8s_length h1]
theorem u8s_get : ∀ {es : List AV} {ns : List Int}, u8s es = some ns → ∀ i (h1 : i < es.length) (h2 : i < ns.length), es[i] = .int .u8 ns[i]
  | .int .u8 n :: r, ns, h, i, h1, h2 => by
    simp only [u8s, Option.map_eq_some_iff] at h
    obtain ⟨m, h3, rfl⟩ := h
    cases i with
    | zero => rfl
    | succ i => exact u8s_get h3 i (by simpa using h1) (by simpa using h2)

/-- 'string(b)' -/
def evToStr (A : Arena) (a : AV) : Option AV :=
  match a with
  | .str _ => none
  | _ => match srcElems 1 A a with
    | some es => (u8s es).map fun ns => .str (ns.map fun n => UInt8.ofNat n.toNat)
    | none => none

theorem foldl_push (ns : List Int) : ∀ (s : ByteArray), (ns.foldl (fun r n => r.push (UInt8.ofNat n.toNat)) s).data.toList = s.data.toList ++ ns.map fun n => UInt8.ofNat n.toNat := by
  induction ns with
  | nil => intro s; simp
  | cons n ns ih => intro s; rw [List.foldl_cons, ih]; simp [ByteArray.push]

theorem evToStr_sound {s t e : TypeId} {v : Value} {a r : AV} (hs : P.underlying s = some (.slice e)) (he' : P.underlying e = some (.int .u8)) (ht : P.underlying t = some .string) (hA : ARel w OK g A) (h : VRel w OK g v a) (he : evToStr A a = some r) :
    Yields' P w OK g (convert s t v) r := by
  unfold evToStr at he
  split at he
  · cases he
  · rename_i hns
    split at he
    · rename_i es hsrc
      simp only [Option.map_eq_some_iff] at he
      obtain ⟨ns, hu, rfl⟩ := he
      obtain ⟨cells, hcells, hrel⟩ := srcElems_sound (P := P) hA h hsrc es.length (Nat.le_refl _)
      rw [List.take_length] at hrel
      have hlen := u8s_length hu
      have hce : cells = (ns.map (Value.int .u8)).toArray := by
        apply Array.ext
        · rw [hrel.1]; simp [hlen]
        · intro i h1 h2
          have hi : i < es.length := by rw [hrel.1] at h1; omega
          obtain ⟨u, u1, u2, u3, u4⟩ := hrel.2 i hi
          rw [u8s_get hu i hi (by omega)] at u1
          have hue := u1.inv_int
          have := u4 0 (by omega)
          rw [hue] at this
          simp only [Nat.mul_one, Nat.add_zero, Value.cells] at this
          rw [Array.getElem?_eq_getElem h1] at this
          simp at this
          simp [this]
      have hc0 := hcells w.drawn
      have key : ∀ (ao : Option Addr) (len cap : Nat), v = .slice ao len cap → len = es.length → Yields' P w OK g (convert s t v) (.str (ns.map fun n => UInt8.ofNat n.toNat)) := by
        rintro ao len cap rfl rfl
        cases ao with
        | none =>
          have : es = [] := by
            simp only [Builtin.firstCells, Sem.run_pure, Result.ok.injEq] at hc0
            have := hrel.1; rw [← hc0.1] at this
            simp at this
            exact List.length_eq_zero_iff.1 this.symm
          subst this
          simp [u8s] at hu
          subst hu
          refine ⟨.string .empty, ?_, .str _ _ _ rfl⟩
          rw [run_convert_bytes_string w s t e _ _ _ hs he' ht]
          rfl
        | some p =>
          refine ⟨_, ?_, .str _ _ _ (foldl_push ns ByteArray.empty)⟩
          rw [run_convert_bytes_string w s t e _ _ _ hs he' ht, run_bytesToString w p es.length cap ns]
          have : (loadCells p (es.length * 1)).run P w = .ok cells w := by simpa [Builtin.firstCells] using hc0
          rw [Nat.mul_one] at this
          rw [this, hce]
      unfold srcElems at hsrc
      split at hsrc
      · simp only [Option.ite_none_right_eq_some, Option.some.injEq] at hsrc
        obtain ⟨_, rfl⟩ := hsrc
        obtain ⟨b, o, cap, T, c, fz, vals, rfl, _⟩ := h.inv_fs
        exact key _ _ _ rfl rfl
      · rename_i id off len
        split at hsrc
        · rename_i s' gr es' hid
          simp only [Option.ite_none_right_eq_some, Option.some.injEq] at hsrc
          obtain ⟨rfl, rfl⟩ := hsrc
          obtain ⟨inc, cap, ao, hinc, rfl, hl, hn, hcap, ha⟩ := h.inv_sl
          obtain ⟨hlt', hrow⟩ := List.getElem?_eq_some_iff.1 hid
          have hent := hA.ent id hlt'
          rw [hrow] at hent
          obtain ⟨_, hne, _⟩ := hent.2 inc hinc
          exact key _ _ _ rfl (by simp; omega)
        · cases hsrc
      · injection hsrc with hsrc; subst hsrc
        obtain ⟨p0, rfl⟩ := h.inv_nilS
        exact key _ _ _ rfl rfl
      · exact absurd rfl (hns _)
      · cases hsrc
    · cases he

/-- '[]byte(s)' -/
def evToBytes (A : Arena) : AV → Option (AV × Arena)
  | .str l => some (.sl A.length 0 l.length, A ++ [.row 1 false (l.map fun b => .int .u8 b.toNat)])
  | _ => none
theorem evToBytes_sound {s t e : TypeId} {d : TypeDesc} {v : Value} {a r : AV} {A' : Arena} (hs : P.underlying s = some d) (ht : P.underlying t = some (.slice e)) (he' : P.underlying e = some (.int .u8)) (hA : ARel w OK g A) (h : VRel w OK g v a) (he : evToBytes A a = some (r, A')) :
    Does P w OK g (convert s t v) r A' := by
  unfold evToBytes at he
  split at he
  · rename_i l
    simp only [Option.some.injEq, Prod.mk.injEq] at he
    obtain ⟨rfl, rfl⟩ := he
    obtain ⟨s', rfl, hsl⟩ := h.inv_str
    have hsz : s'.size = l.length := by rw [← hsl, Array.length_toList]; rfl
    let k := (Question.appendCap s'.size 0 e).cut (w.tape w.drawn (.appendCap s'.size 0 e))
    have hk : s'.size ≤ k := by simp [k, Question.cut]
    let C : Array Value := s'.data.map (fun b => Value.int .u8 b.toNat) ++ Array.replicate (k - s'.size) (.int .u8 0)
    have hds : s'.data.size = s'.size := rfl
    have hCs : C.size = k := by simp [C, hds]; omega
    let W' : World := { { w with drawn := w.drawn + 1 } with heap := w.heap.push (.cells C e (k, k + 1)) }
    obtain ⟨q1, q2⟩ := hA.pushRow (w' := W') C e (k, k + 1) rfl rfl rfl rfl (fun j hj => by simp; omega) 1 k false (l.map fun b => .int .u8 b.toNat) (by simp; omega) (by rw [hCs]; omega)
      (fun i hi => by
        simp only [List.length_map] at hi
        refine ⟨.int .u8 (l[i].toNat), by simpa using VRel.int _ _ _, rfl, by simp [okCells, Value.cells, Value.oneCell'], fun j hj => ?_⟩
        obtain rfl : j = 0 := by omega
        have hlt : i < s'.data.size := by omega
        have : s'.data[i] = l[i] := by subst hsl; simp
        simp only [C, Nat.mul_one, Nat.add_zero, Value.cells]
        rw [Array.getElem?_append_left (by simpa using hlt), Array.getElem?_map, Array.getElem?_eq_getElem hlt, this]
        rfl)
    simp only [List.length_map] at q1 q2
    refine ⟨.slice (some ⟨w.heap.size, 0, none⟩) s'.size k, W', _, ?_, ?_, q1, q2⟩
    · have hfr : ({ { w with drawn := w.drawn + 1 } with heap := w.heap.push (.cells C e (0, 0)) } : World).freeze ⟨w.heap.size, k, none⟩ 1 = W' := by
        simp only [World.freeze, W', Nat.one_ne_zero, if_false]
        congr 1
        apply Array.ext
        · simp
        · intro j h1 h2
          simp only [Array.getElem_modify]
          by_cases hj : w.heap.size = j
          · subst hj; simp
          · have hjl : j < w.heap.size := by simp at h2; omega
            rw [if_neg hj, Array.getElem_push_lt hjl, Array.getElem_push_lt hjl]
      have hsh : ({ { w with drawn := w.drawn + 1 } with heap := w.heap.push (.cells C e (0, 0)) } : World).shape? w.heap.size = some (e, k) := by
        simp [World.shape?, hCs]
      unfold convert
      rw [Sem.run_bind, run_underlying' hs, Result.andThen_ok, Sem.run_bind, run_underlying' ht, Result.andThen_ok]
      have hcore : (Conv.stringToBytes e s').run P w = .ok (.slice (some ⟨w.heap.size, 0, none⟩) s'.size k) W' := by
        unfold Conv.stringToBytes
        rw [Sem.run_bind, run_choose]
        simp only [Question.forced, Bool.false_eq_true, if_false, Result.andThen_ok]
        rw [Sem.run_bind]
        show ((newRow e C).run P { w with drawn := w.drawn + 1 }).andThen _ = _
        simp only [newRow, Sem.run_bind, run_newObj, Result.andThen_ok, Sem.run_pure, markStringish, run_shape]
        rw [hsh]
        simp only [run_freeze, Result.andThen_ok, hfr]
        rfl
      cases d <;> simp only [Sem.run_bind, run_underlying' he', Result.andThen_ok] <;> first | exact hcore | skip
    · rw [hsz]
      exact .sl _ _ 0 _ _ _ _ (Ghost.push_self _ _ _) (by omega) (by simp) (by simp) (fun _ => by simp)
  · cases he

/-- 'copy(dst, src)' -/
def evCopy (esz : Nat) (A : Arena) (d s : AV) : Option (AV × Arena) :=
  match srcElems esz A s with
  | none => none
  | some xs =>
    match d with
    | .nilS => some (.int .i64 0, A)
    | .sl id off len =>
      match A[id]? with
      | some (.row s' gr es) =>
        if s' = esz ∧ 0 < esz ∧ gr = false then
          let n := min xs.length len
          some (.int .i64 n, A.set id (.row esz false (es.take off ++ xs.take n ++ es.drop (off + n))))
        else none
      | _ => none
    | _ => none

theorem evCopy_sound {t ty e : TypeId} {t2 : TypeId} {i : TypeInfo} {v1 v2 : Value} {a1 a2 r : AV} {A' : Arena} (ht : P.underlying t = some (.slice e)) (hi : P.info? e = some i)
    (hA : ARel w OK g A) (h1 : VRel w OK g v1 a1) (h2 : VRel w OK g v2 a2) (he : evCopy i.size A a1 a2 = some (r, A')) : Does P w OK g (Builtin.copy_ #[t, t2] ty #[v1, v2]) r A' := by
  unfold evCopy at he
  split at he
  · cases he
  · rename_i xs hsrc
    have hlen : (Builtin.lenOf v2).run P w = .ok xs.length w := lenOf_sound hA h2 hsrc w.drawn
    split at he
    · obtain ⟨p0, rfl⟩ := h1.inv_nilS
      simp only [Option.some.injEq, Prod.mk.injEq] at he
      obtain ⟨rfl, rfl⟩ := he
      obtain ⟨news, hnews, hrel⟩ := srcElems_sound (P := P) hA h2 hsrc 0 (Nat.zero_le _)
      have h0 : (Builtin.firstCells i.size 0 v2).run P w = .ok news w := hnews w.drawn
      refine ⟨.int .i64 0, w, g, ?_, .int _ _ _, hA, Ext.refl _ _ _⟩
      have hm : Nat.min xs.length 0 = 0 := Nat.min_zero _
      have hnn : news = #[] := Array.eq_empty_of_size_eq_zero (by simpa using hrel.1)
      subst hnn
      simp only [Builtin.copy_, Sem.run_bind, run_underlying' ht, Result.andThen_ok, hlen, run_sizeOf' hi, hm, List.getElem?_toArray, List.getElem?_cons_zero, List.getElem?_cons_succ, h0]
      cases p0 <;> simp [storeCells, goInt]
    · rename_i id off len
      split at he
      · rename_i s' gr es hid
        simp only [Option.ite_none_right_eq_some, Option.some.injEq, Prod.mk.injEq] at he
        obtain ⟨⟨rfl, hpos, rfl⟩, rfl, rfl⟩ := he
        obtain ⟨inc, cap, ao, hinc, rfl, hl, hn, hcap, ha⟩ := h1.inv_sl
        obtain ⟨hlt', hrow⟩ := List.getElem?_eq_some_iff.1 hid
        have hdead : A[id]? ≠ some Ent.dead := by rw [hid]; simp
        have hent := hA.ent id hlt'
        rw [hrow] at hent
        obtain ⟨h0, hinv⟩ := hent
        obtain ⟨hone, hnn⟩ := h0 rfl
        obtain ⟨hesz, hne, hnc, c, T, fz, hh, hu, hcs, hel⟩ := hinv inc hinc
        have hnn' := hnn inc hinc
        obtain ⟨n, hnd⟩ : ∃ n, n = min xs.length len := ⟨_, rfl⟩
        rw [← hnd]
        obtain ⟨news, hnews, hrel⟩ := srcElems_sound (P := P) hA h2 hsrc n (by omega)
        have hnews' : (Builtin.firstCells i.size n v2).run P w = .ok news w := hnews w.drawn
        have honec := hrel.one hpos
        have hxl : (xs.take n).length = n := by simp; omega
        have hnl : news.toList.length = n * i.size := by rw [Array.length_toList, hrel.1, hxl]
        have hfit : inc.o + off * i.size + news.toList.length ≤ c.size := by
          have : (off + n) * i.size ≤ inc.cap * i.size := Nat.mul_le_mul_right _ (by omega)
          rw [Nat.add_mul] at this
          rw [hnl]; omega
        have hst : (storeCells ⟨inc.b, ao, none⟩ news.toList).run P w = .ok () (w.setRow inc.b (splice c (inc.o + off * i.size) news.toList)) := by
          by_cases hc0 : cap = 0
          · have hn0 : n = 0 := by omega
            have : news.toList = [] := List.length_eq_zero_iff.1 (by rw [hnl, hn0, Nat.zero_mul])
            rw [this]
            simp only [splice, List.append_nil, List.length_nil, Nat.add_zero, List.take_append_drop, Array.toArray_toList]
            rw [setRow_self w inc.b c T fz hh]; rfl
          · have hao := ha hc0
            have := run_storeCells_u P inc.b ao T fz news.toList 0 c w hh hu (by rw [hao, hesz, Nat.add_zero]; exact hfit) honec
            rw [this, Nat.add_zero, hao, hesz]
        have hblk : ∀ b, b ≠ inc.b → (w.setRow inc.b (splice c (inc.o + off * i.size) news.toList)).heap[b]? = w.heap[b]? := fun b hb => setRow_other w inc.b b _ hb
        have hxe : ∀ x ∈ g id, x = inc := fun x hx => by
          match hgi : g id, hone, hx, hinc with
          | [], _, hx, _ => cases hx
          | [y], _, hx, hinc => simp at hx hinc; rw [hx, hinc]
          | _ :: _ :: _, ho, _, _ => simp at ho
        have hl2 : (es.take off ++ xs.take n ++ es.drop (off + n)).length = es.length := by simp; omega
        obtain ⟨s1, s2⟩ := hA.turn (w' := w.setRow inc.b (splice c (inc.o + off * i.size) news.toList)) (g' := g) id hlt' hdead inc hinc (by simp) rfl rfl rfl hblk (fun r hr _ => by rw [hh] at hr; cases hr) g.le_refl (fun _ _ => rfl) (fun i hi => ⟨i, hi, rfl⟩)
          (fun i i' hi hi' e => (hA.one id id i i' hdead hdead hi hi' e).2) (.row i.size false (es.take off ++ xs.take n ++ es.drop (off + n))) (fun hokb => by
            refine ⟨fun _ => ⟨hone, fun x hx => by rw [hl2]; exact hnn x hx⟩, fun x hx => ?_⟩
            obtain rfl := hxe x hx
            refine ⟨hesz, by rw [hl2]; exact hne, hnc, _, T, fz, setRow_heap w x.b c _ T fz hh, unfrozen_splice hu _ _ hfit, by rw [splice_size _ _ _ hfit]; exact hcs, fun j hj hjn => ?_⟩
            rw [hl2] at hj
            by_cases c1 : j < off
            · rw [List.getElem_append_left (by simp; omega), List.getElem_append_left (by simp; omega), List.getElem_take]
              refine ElemAt.mono (ElemAt.splice_out (hel j hj hjn) hfit (.inl ?_)) (fun _ h => h) hokb g.le_refl
              have : (j + 1) * i.size ≤ off * i.size := Nat.mul_le_mul_right _ c1
              rw [Nat.add_mul] at this; omega
            · by_cases c2 : j < off + n
              · rw [List.getElem_append_left (by simp; omega), List.getElem_append_right (by simp; omega)]
                have hto : (es.take off).length = off := by simp; omega
                simp only [hto]
                obtain ⟨u, u1, u2, u3, u4⟩ := hrel.2 (j - off) (by omega)
                refine ⟨u, u1.mono (fun _ h => h) hokb g g.le_refl, u2, u3, fun q hq => ?_⟩
                have hjq : (j - off) * i.size + q < news.toList.length := by
                  rw [hnl]
                  have : (j - off + 1) * i.size ≤ n * i.size := Nat.mul_le_mul_right _ (by omega)
                  rw [Nat.add_mul] at this; omega
                have e1 := splice_in c (x.o + off * i.size) news.toList hfit _ hjq
                have e2 : x.o + j * i.size + q = x.o + off * i.size + ((j - off) * i.size + q) := by
                  have : j * i.size = off * i.size + (j - off) * i.size := by rw [← Nat.add_mul]; congr 1; omega
                  omega
                rw [e2, e1]
                simpa using u4 q hq
              · rw [List.getElem_append_right (by simp; omega), List.getElem_drop]
                have hto : (es.take off ++ xs.take n).length = off + n := by simp; omega
                simp only [hto, show off + n + (j - (off + n)) = j by omega]
                refine ElemAt.mono (ElemAt.splice_out (hel j hj hjn) hfit (.inr ?_)) (fun _ h => h) hokb g.le_refl
                have : (off + n) * i.size ≤ j * i.size := Nat.mul_le_mul_right _ (by omega)
                rw [Nat.add_mul] at this
                rw [hnl]; omega) (fun _ => rfl)
        refine ⟨.int .i64 n, _, g, ?_, .int _ _ _, s1, s2⟩
        have hm : Nat.min xs.length len = n := hnd.symm
        simp only [Builtin.copy_, Sem.run_bind, run_underlying' ht, Result.andThen_ok, hlen, run_sizeOf' hi, hm, List.getElem?_toArray, List.getElem?_cons_zero, List.getElem?_cons_succ, hnews', hst]
        rfl
      · cases he
    · cases he
end
end Go.Proofs.YtnpmfpcppkdniaaDoor
