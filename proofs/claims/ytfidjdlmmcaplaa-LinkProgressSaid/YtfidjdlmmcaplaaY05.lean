/-
  What the proof is built on (L3 to L17).
-/
import Derived.Test.YtfidjdlmmcaplaaY04
import Derived.Test.YtfidjdlmmcaplaaChecked
import Derived.KernelRfl
/-
  Link: Valid, due, frame, Waiting, Peer, Epoch, Lost, Send, New.
-/
namespace Go.Proofs.Ytfidjdlmmcaplaa
open Go

theorem evAdd {a b : Int} (h : -9223372036854775808 ≤ a + b ∧ a + b ≤ 9223372036854775807) : evBin .add (.int .i64 a) (.int .i64 b) = some (.int .i64 (a + b)) := by
  simp only [evBin]; rw [if_pos trivial, wrapI (by unfold inI; omega)]
theorem evSub {a b : Int} (h : -9223372036854775808 ≤ a - b ∧ a - b ≤ 9223372036854775807) : evBin .sub (.int .i64 a) (.int .i64 b) = some (.int .i64 (a - b)) := by
  simp only [evBin]; rw [if_pos trivial, wrapI (by unfold inI; omega)]
theorem evGtr (a b : Int) : evBin .gtr (.int .i64 a) (.int .i64 b) = some (.bool (decide (a > b))) := by simp [evBin]
theorem evLss (a b : Int) : evBin .lss (.int .i64 a) (.int .i64 b) = some (.bool (decide (a < b))) := by simp [evBin]
theorem evEql (a b : Int) : evBin .eql (.int .i64 a) (.int .i64 b) = some (.bool (decide (a = b))) := by simp [evBin]
theorem evNeq (a b : Int) : evBin .neq (.int .i64 a) (.int .i64 b) = some (.bool (decide (a ≠ b))) := by simp [evBin]
theorem evLeq (a b : Int) : evBin .leq (.int .i64 a) (.int .i64 b) = some (.bool (decide (a ≤ b))) := by simp [evBin]
theorem evGeq (a b : Int) : evBin .geq (.int .i64 a) (.int .i64 b) = some (.bool (decide (a ≥ b))) := by simp [evBin]
theorem evEqlStr (a b : List UInt8) : evBin .eql (.str a) (.str b) = some (.bool (decide (a = b))) := by
  simp only [evBin]
  congr 2
  rw [Bool.eq_iff_iff]; simp
theorem M42_eq (a l h : Int) : M42 [.int .i64 a, .int .i64 l, .int .i64 h] = some (.bool (decide (l ≤ a ∧ a ≤ h))) := by
  unfold M42
  rw [evP_run _ _ rfl]
  by_cases h1 : l ≤ a <;> by_cases h2 : a ≤ h <;> simp [mf42, h1, h2]
set_option maxRecDepth 100000 in
set_option maxHeartbeats 1000000 in
theorem M34_eq (f : FrS) : M34 [frA f] = some (.bool (decide (okF f))) := by
  obtain ⟨fr, to, seq, ack, body⟩ := f
  have m1 := M42_eq fr 1 1000000
  have m2 := M42_eq to 0 1000000
  have m3 := M42_eq seq 0 4611686018427387903
  have m4 := M42_eq ack 0 4611686018427387903
  have b1 := evEql to 0
  have b2 := evEql seq 0
  have b3 := evLeq (body.length : Int) 1024
  have b4 := evEqlStr body []
  have e : decide (okF ⟨fr, to, seq, ack, body⟩) = (decide (1 ≤ fr ∧ fr ≤ 1000000) && decide (0 ≤ to ∧ to ≤ 1000000) && decide (0 ≤ seq ∧ seq ≤ 4611686018427387903) && decide (0 ≤ ack ∧ ack ≤ 4611686018427387903) && (if to = 0 then decide (seq = 0) && decide (ack = 0) && decide (body = []) else if seq = 0 then decide (body = []) else decide ((body.length : Int) ≤ 1024))) := by
    rw [Bool.eq_iff_iff, decide_eq_true_eq]
    simp only [okF, Bool.and_eq_true, decide_eq_true_eq]
    constructor
    · rintro ⟨h1, h2, h3, h4, h5, h6, h7⟩
      refine ⟨⟨⟨⟨h1, h2⟩, h3⟩, h4⟩, ?_⟩
      split
      · rename_i h
        have : seq = 0 ∧ ack = 0 := by omega
        have hb : body = [] := h6.resolve_left (by omega)
        simp [this, hb]
      · split
        · exact decide_eq_true (h6.resolve_left (by omega))
        · exact decide_eq_true (by omega)
    · rintro ⟨⟨⟨⟨h1, h2⟩, h3⟩, h4⟩, h5⟩
      refine ⟨h1, h2, h3, h4, ?_⟩
      split at h5
      · simp only [Bool.and_eq_true, decide_eq_true_eq] at h5
        obtain ⟨⟨a1, a2⟩, a3⟩ := h5
        exact ⟨by rw [a3]; simp, .inr a3, .inr ⟨a1, a2⟩⟩
      · split at h5
        · have hb : body = [] := of_decide_eq_true h5
          exact ⟨by rw [hb]; simp, .inr hb, .inl (by omega)⟩
        · have := of_decide_eq_true h5
          exact ⟨by omega, .inl (by omega), .inl (by omega)⟩
  rw [e]
  obtain ⟨d1, hd1⟩ : ∃ d, d = decide (1 ≤ fr ∧ fr ≤ 1000000) := ⟨_, rfl⟩
  obtain ⟨d2, hd2⟩ : ∃ d, d = decide (0 ≤ to ∧ to ≤ 1000000) := ⟨_, rfl⟩
  obtain ⟨d3, hd3⟩ : ∃ d, d = decide (0 ≤ seq ∧ seq ≤ 4611686018427387903) := ⟨_, rfl⟩
  obtain ⟨d4, hd4⟩ : ∃ d, d = decide (0 ≤ ack ∧ ack ≤ 4611686018427387903) := ⟨_, rfl⟩
  rw [← hd1] at m1 ⊢
  rw [← hd2] at m2 ⊢
  rw [← hd3] at m3 ⊢
  rw [← hd4] at m4 ⊢
  unfold M34
  rw [evP_run _ _ rfl]
  unfold frA
  by_cases ht : to = 0
  · subst ht
    rw [decide_eq_true rfl] at b1
    rw [if_pos rfl]
    cases d1 <;> cases d2 <;> cases d3 <;> cases d4 <;> simp [mf34, m1, m2, m3, m4, b1, -evBin]
    have hb0 : List.isEmpty body = decide (body = []) := by cases body <;> rfl
    rw [hb0, Bool.and_assoc]
  · rw [decide_eq_false ht] at b1
    rw [if_neg ht]
    by_cases hs : seq = 0
    · subst hs
      rw [decide_eq_true rfl] at b2
      rw [if_pos rfl]
      obtain ⟨d5, hd5⟩ : ∃ d, d = decide (body = []) := ⟨_, rfl⟩
      rw [← hd5] at b4 ⊢
      cases d1 <;> cases d2 <;> cases d3 <;> cases d4 <;> simp [mf34, m1, m2, m3, m4, b1, b2, b4, -evBin]
    · rw [decide_eq_false hs] at b2
      rw [if_neg hs]
      obtain ⟨d5, hd5⟩ : ∃ d, d = decide ((body.length : Int) ≤ 1024) := ⟨_, rfl⟩
      rw [← hd5] at b3 ⊢
      cases d1 <;> cases d2 <;> cases d3 <;> cases d4 <;> simp [mf34, m1, m2, m3, m4, b1, b2, b3, -evBin]
section
variable {A : Arena} {id : Nat} {S : EndS} {qv lv : AV} (hE : EndAt A id S qv lv)
include hE
theorem ev27 (h : Handler) : H27 h [.ptr id 0 0] A = some (.int .i64 (S.queue.length : Int), A) := by
  obtain ⟨h1, h2, _⟩ := hE
  have hl := h2.len
  rw [List.length_map] at hl
  unfold H27
  rw [evFun_run _ _ rfl]
  simp [mf27, h1, hl, -evLenSl]
theorem ev25 (h : Handler) : pureH 4 M25 h [.ptr id 0 0] A = some (.int .i64 S.peer, A) := by
  obtain ⟨h1, _⟩ := hE
  have m : M25 [.fp [.int .i64 S.epoch, .int .i64 S.peer, frz A 3 qv, .int .i64 S.next, .int .i64 S.received, .bool S.owes, .int .i64 S.ticks, .bool S.heard, .int .i64 S.hello, frz A 3 lv]] = some (.int .i64 S.peer) := by
    unfold M25
    rw [evP_run _ _ rfl]
    simp [mf25]
  simp [h1, m]
theorem ev26 (h : Handler) : pureH 4 M26 h [.ptr id 0 0] A = some (.int .i64 S.epoch, A) := by
  obtain ⟨h1, _⟩ := hE
  have m : M26 [.fp [.int .i64 S.epoch, .int .i64 S.peer, frz A 3 qv, .int .i64 S.next, .int .i64 S.received, .bool S.owes, .int .i64 S.ticks, .bool S.heard, .int .i64 S.hello, frz A 3 lv]] = some (.int .i64 S.epoch) := by
    unfold M26
    rw [evP_run _ _ rfl]
    simp [mf26]
  simp [h1, m]
theorem ev45 (h : Handler) {a : Int} (hb : -4611686018427387904 ≤ S.ticks ∧ S.ticks ≤ 4611686018427387903) (ha : -4611686018427387904 ≤ a ∧ a ≤ 4611686018427387903) : H45 h [.ptr id 0 0, .int .i64 a] A = some (.bool (dueS S.ticks a), A) := by
  obtain ⟨h1, _⟩ := hE
  have b1 := evEql a 0
  have b2 := evSub (a := S.ticks) (b := a) (by omega)
  have b3 := evGeq (S.ticks - a) 3
  unfold dueS
  obtain ⟨d1, hd1⟩ : ∃ d, d = decide (a = 0) := ⟨_, rfl⟩
  obtain ⟨d2, hd2⟩ : ∃ d, d = decide (S.ticks - a ≥ 3) := ⟨_, rfl⟩
  rw [← hd1] at b1 ⊢
  rw [← hd2] at b3 ⊢
  obtain ⟨z, hz⟩ : ∃ z, z = S.ticks - a := ⟨_, rfl⟩
  rw [← hz] at b2 b3
  unfold H45
  rw [evFun_run _ _ rfl]
  cases d1 <;> simp [mf45, h1, b1, b2, b3, -evBin]
theorem ev58 (h : Handler) (q : QE) : H58 h [.ptr id 0 0, .agg [.int .i64 q.seq, .str q.body]] A = some (frA (frameS S q), A ++ [.row 2 false [.agg [.int .i64 q.seq, .str q.body]], .row 5 false [frA (frameS S q)]]) := by
  obtain ⟨h1, _⟩ := hE
  unfold H58
  rw [evFun_run _ _ rfl]
  have hid := (List.getElem?_eq_some_iff.1 h1).1
  have e1 : ∀ X, (A ++ X)[id]? = A[id]? := fun X => List.getElem?_append_left hid
  simp [mf58, evBox, e1, h1, frA, frameS]
theorem ev28 (h : Handler) : ∃ B, H28 h [.ptr id 0 0] A = some (lv, B) ∧ EndAt B id { S with lost := [] } qv .nilS ∧ Fr A B [id] := by
  obtain ⟨h1, h2, h3, h4, h5, h6⟩ := hE
  have hid := (List.getElem?_eq_some_iff.1 h1).1
  refine ⟨A.set id (.row 10 false [.agg [.int .i64 S.epoch, .int .i64 S.peer, qv, .int .i64 S.next, .int .i64 S.received, .bool S.owes, .int .i64 S.ticks, .bool S.heard, .int .i64 S.hello, .nilS]]), ?_, ⟨?_, ?_, .inl ⟨rfl, rfl⟩, h4, by simp, fun j _ => by simp⟩, Fr.set _ _ _⟩
  · unfold H28
    rw [evFun_run _ _ rfl]
    simp [mf28, h1]
  · rw [List.getElem?_set_self hid]
  · exact h2.keep fun j hj => by rw [List.getElem?_set_ne (fun e => h4 (by rw [e]; exact hj))]
end
end Go.Proofs.Ytfidjdlmmcaplaa
/-
  Link: Send, New.
-/
namespace Go.Proofs.Ytfidjdlmmcaplaa
open Go

theorem EndAt.row {A : Arena} {id : Nat} {S : EndS} {qv lv : AV} (h : EndAt A id S qv lv) : A[id]? = some (.row 10 false [.agg [.int .i64 S.epoch, .int .i64 S.peer, qv, .int .i64 S.next, .int .i64 S.received, .bool S.owes, .int .i64 S.ticks, .bool S.heard, .int .i64 S.hello, lv]]) := h.1
/-- another state of the same end, in another arena -/
theorem EndAt.turn {A B : Arena} {id : Nat} {S T : EndS} {qv lv qv' lv' : AV} (h : EndAt A id S qv lv) (h1 : B[id]? = some (.row 10 false [.agg [.int .i64 T.epoch, .int .i64 T.peer, qv', .int .i64 T.next, .int .i64 T.received, .bool T.owes, .int .i64 T.ticks, .bool T.heard, .int .i64 T.hello, lv']])) (h2 : SlP 3 B qv' (T.queue.map qA)) (h3 : SlP 1 B lv' (T.lost.map .str))
    (h4 : ∀ j, j ∈ idsOf qv' → j ∈ idsOf qv ∨ A.length ≤ j) (h5 : ∀ j, j ∈ idsOf lv' → j ∈ idsOf lv ∨ A.length ≤ j) (h6 : ∀ j, j ∈ idsOf qv' → j ∉ idsOf lv') : EndAt B id T qv' lv' := by
  have hid := (List.getElem?_eq_some_iff.1 h.1).1
  obtain ⟨_, _, _, k4, k5, _⟩ := h
  exact ⟨h1, h2, h3, fun hj => (h4 _ hj).elim k4 (fun h => by omega), fun hj => (h5 _ hj).elim k5 (fun h => by omega), h6⟩
section
variable {A : Arena} {id : Nat} {S : EndS} {qv lv : AV} (hE : EndAt A id S qv lv)
include hE
theorem ev16_no (h : Handler) {b : Bytes} (hs : ¬ sendOk S b) : H16 h [.ptr id 0 0, .str b] A = some (.int .i64 260, A) := by
  obtain ⟨h1, h2, _⟩ := hE
  have hl := h2.len
  rw [List.length_map] at hl
  have b1 := evGtr (b.length : Int) 1024
  have b2 := evGeq (S.queue.length : Int) 64
  unfold H16
  rw [evFun_run _ _ rfl]
  by_cases hb : (b.length : Int) > 1024
  · rw [decide_eq_true hb] at b1
    simp [mf16, h1, b1, -evBin]
  · rw [decide_eq_false hb] at b1
    rw [decide_eq_true (by unfold sendOk at hs; omega)] at b2
    simp [mf16, h1, b1, b2, hl, -evBin, -evLenSl]
set_option maxRecDepth 100000 in
theorem ev16 (h : Handler) {b : Bytes} (hs : sendOk S b) (hn : -9223372036854775808 ≤ S.next + 1 ∧ S.next + 1 ≤ 9223372036854775807) : ∃ B qv', H16 h [.ptr id 0 0, .str b] A = some (.int .i64 0, B) ∧ EndAt B id (sendS S b) qv' lv ∧ Fr A B (id :: idsOf qv) ∧ ∀ j, j ∈ idsOf qv' → A.length ≤ j := by
  have hE' := hE
  obtain ⟨h1, h2, h3, h4, h5, h6⟩ := hE
  have hid := (List.getElem?_eq_some_iff.1 h1).1
  have hl := h2.len
  rw [List.length_map] at hl
  have b1 := evGtr (b.length : Int) 1024
  have b2 := evGeq (S.queue.length : Int) 64
  unfold sendOk at hs
  rw [decide_eq_false (by omega)] at b1
  rw [decide_eq_false (by omega)] at b2
  have b3 := evAdd hn
  obtain ⟨B, k1, k2, k3, k4, k5⟩ := h2.appendN (bytes := 32) (x := .fs 3 [qA ⟨S.next, b, 0⟩]) (ys := [qA ⟨S.next, b, 0⟩]) rfl (by simp) (by omega) (by omega) (by simp; omega)
  have hB : B[id]? = _ := (k3.2 id hid h4).trans h1
  have hBl : id < B.length := by omega
  have e0 : qA ⟨S.next, b, 0⟩ = .agg [.int .i64 S.next, .str b, .int .i64 0] := rfl
  have hlen : (S.queue.map qA ++ [qA ⟨S.next, b, 0⟩]).length = S.queue.length + 1 := by simp
  rw [hlen] at k1 k2
  rw [e0] at k1
  have hset : ∀ R, (B.set id R)[id]? = some R := fun R => List.getElem?_set_self hBl
  refine ⟨B.set id (.row 10 false [.agg [.int .i64 S.epoch, .int .i64 S.peer, .sl A.length 0 (S.queue.length + 1), .int .i64 (S.next + 1), .int .i64 S.received, .bool S.owes, .int .i64 S.ticks, .bool S.heard, .int .i64 S.hello, lv]]), .sl A.length 0 (S.queue.length + 1), ?_, ?_, ?_, ?_⟩
  · obtain ⟨N, hN⟩ : ∃ N, N = S.queue.length + 1 := ⟨_, rfl⟩
    rw [← hN] at k1 ⊢
    obtain ⟨n1, hn1⟩ : ∃ n1, n1 = S.next + 1 := ⟨_, rfl⟩
    rw [← hn1] at b3 ⊢
    unfold H16
    rw [evFun_run _ _ rfl]
    simp [mf16, h1, hB, hset, b1, b2, b3, hl, k1, -evBin, -evLenSl]
  · refine hE'.turn (hset _) ?_ ?_ (fun j hj => ?_) (fun j hj => .inl hj) (fun j hj hj2 => ?_)
    · have e : (sendS S b).queue.map qA = S.queue.map qA ++ [qA ⟨S.next, b, 0⟩] := by simp [sendS]
      rw [e]
      exact k2.keep fun j hj => by
        simp [idsOf] at hj
        rw [List.getElem?_set_ne (by omega)]
    · exact h3.keep fun j hj => by
        have := h3.low j hj
        rw [List.getElem?_set_ne (fun e => h5 (by rw [e]; exact hj))]
        exact k3.2 j this fun hq => h6 j hq hj
    · simp [idsOf] at hj; exact .inr (by omega)
    · have := h3.low j hj2
      simp [idsOf] at hj; omega
  · refine ⟨by simp; omega, fun j hj hn => ?_⟩
    rw [List.mem_cons, not_or] at hn
    rw [List.getElem?_set_ne (Ne.symm hn.1)]
    exact k3.2 j hj hn.2
  · intro j hj
    simp [idsOf] at hj; omega
end
theorem ev13 (h : Handler) (A : Arena) (e : Int) : (1 ≤ e ∧ e ≤ 1000000 → ∃ B, H13 h [.int .i64 e] A = some (.tup [.ptr A.length 0 0, .int .i64 0], B) ∧ EndAt B A.length (newS e) .nilS .nilS ∧ Fr A B []) ∧ (¬ (1 ≤ e ∧ e ≤ 1000000) → H13 h [.int .i64 e] A = some (.tup [.nilP, .int .i64 260], A)) := by
  have m := M42_eq e 1 1000000
  constructor
  · intro he
    rw [decide_eq_true he] at m
    refine ⟨A ++ [.row 10 false [.agg [.int .i64 e, .int .i64 0, .nilS, .int .i64 1, .int .i64 0, .bool false, .int .i64 0, .bool false, .int .i64 0, .nilS]]], ?_, ⟨by simp [newS], .inl ⟨rfl, rfl⟩, .inl ⟨rfl, rfl⟩, by simp, by simp, by simp⟩, Fr.app _ _ _⟩
    unfold H13
    rw [evFun_run _ _ rfl]
    simp [mf13, m]
  · intro he
    rw [decide_eq_false he] at m
    unfold H13
    rw [evFun_run _ _ rfl]
    simp [mf13, m]
end Go.Proofs.Ytfidjdlmmcaplaa
/-
  Link: frames.
-/
namespace Go.Proofs.Ytfidjdlmmcaplaa
open Go

/-- a queue of which the first i messages have been looked at -/
def qS (t : Int) (h : Bool) (i : Nat) (l : List QE) : List QE := (l.take i).map (sentQ t h) ++ l.drop i
theorem qS_len (t : Int) (h : Bool) (i : Nat) (l : List QE) : (qS t h i l).length = l.length := by
  unfold qS; simp; omega
theorem qS_at (t : Int) (h : Bool) {i : Nat} {l : List QE} (hi : i < l.length) : (qS t h i l)[i]? = some l[i] := by
  unfold qS
  rw [List.getElem?_append_right (by simp; omega)]
  simp [show min i l.length = i by omega, hi]
theorem qS_succ (t : Int) (h : Bool) {i : Nat} {l : List QE} (hi : i < l.length) : qS t h (i + 1) l = (qS t h i l).set i (sentQ t h l[i]) := by
  unfold qS
  rw [List.take_succ_eq_append_getElem hi, List.map_append, List.set_append_right _ _ (by simp; omega)]
  have : (l.drop i).set (i - ((l.take i).map (sentQ t h)).length) (sentQ t h l[i]) = sentQ t h l[i] :: l.drop (i + 1) := by
    rw [List.drop_eq_getElem_cons hi, show i - ((l.take i).map (sentQ t h)).length = 0 by simp; omega]
    rfl
  rw [this]
  simp
theorem qS_same (t : Int) (h : Bool) {i : Nat} {l : List QE} (hi : i < l.length) (hn : sentQ t h l[i] = l[i]) : qS t h (i + 1) l = qS t h i l := by
  rw [qS_succ t h hi, hn]
  apply List.ext_getElem?
  intro j
  by_cases e : i = j
  · subst e
    rw [List.getElem?_set_self (by rw [qS_len]; exact hi), qS_at t h hi]
  · rw [List.getElem?_set_ne e]
theorem SlP.store {esz : Nat} {A : Arena} {r n : Nat} {es xs : List AV} {i : Nat} {x : AV} (h : A[r]? = some (.row esz false es)) (hx : es.take n = xs) (hn : xs.length = n) (hi : i < n) : SlP esz (A.set r (.row esz false (es.set i x))) (.sl r 0 n) (xs.set i x) := by
  have hr := (List.getElem?_eq_some_iff.1 h).1
  refine .inr ⟨r, es.set i x, by simp [hn], by rw [List.getElem?_set_self hr], ?_⟩
  rw [List.length_set, hn, List.take_set, hx]
section
variable {A : Arena} {id : Nat} {S : EndS} {qv lv : AV}
set_option maxRecDepth 100000 in
set_option maxHeartbeats 1000000 in
theorem round44 (fuel : Nat) {t : Int} {i k : Nat} (hik : i < k) (hk8 : k ≤ 8) (hk : k ≤ S.queue.length) (ht : t = S.ticks) (htb : 0 ≤ t ∧ t ≤ 1152921504606846976) (hq : ∀ q ∈ S.queue, 0 ≤ q.at_ ∧ q.at_ ≤ 1152921504606846976)
    (hE : EndAt A id { S with queue := qS t S.heard i S.queue } qv lv) {out : AV} {xs : List FrS} (hO : SlP 5 A out (xs.map frA)) (hx8 : xs.length ≤ 8) (hOi : ∀ j, j ∈ own id qv lv → j ∉ idsOf out) :
    ∃ A' out', run (envOf GW fs44) fuel [.code lp44x0] (st44x0 (.ptr id 0 0) out (.int .i64 (k : Int)) (.int .i64 (i : Int))) A = some (.normal (st44x0 (.ptr id 0 0) out' (.int .i64 (k : Int)) (.int .i64 ((i + 1 : Nat) : Int))) A') ∧
      EndAt A' id { S with queue := qS t S.heard (i + 1) S.queue } qv lv ∧ SlP 5 A' out' ((xs ++ if (S.heard && dueS t (S.queue[i]'(by omega)).at_) = true then [frameS S (S.queue[i]'(by omega))] else []).map frA) ∧ (∀ j, j ∈ idsOf out' → j ∈ idsOf out ∨ A.length ≤ j) ∧ Fr A A' (own id qv lv ++ idsOf out) := by
  subst ht
  have hi : i < S.queue.length := by omega
  obtain ⟨q, hqd⟩ : ∃ q, q = S.queue[i] := ⟨_, rfl⟩
  rw [← hqd]
  have hqb := hq q (by rw [hqd]; exact List.getElem_mem hi)
  have hrow : A[id]? = some (.row 10 false [.agg [.int .i64 S.epoch, .int .i64 S.peer, qv, .int .i64 S.next, .int .i64 S.received, .bool S.owes, .int .i64 S.ticks, .bool S.heard, .int .i64 S.hello, lv]]) := hE.row
  have hid := (List.getElem?_eq_some_iff.1 hrow).1
  obtain ⟨_, h2, h3, h4, h5, h6⟩ := hE
  have hql : ((qS S.ticks S.heard i S.queue).map qA).length = S.queue.length := by rw [List.length_map, qS_len]
  have hxi : ((qS S.ticks S.heard i S.queue).map qA)[i]? = some (qA q) := by rw [List.getElem?_map, qS_at _ _ hi, hqd]; rfl
  obtain ⟨r, es, e1, e2, e3, e4⟩ := h2.index (i := i) (by rw [hql]; exact hi) (by omega) .i64
  rw [show ((qS S.ticks S.heard i S.queue).map qA)[i]'(by rw [hql]; exact hi) = qA q from by
    have := hxi
    rw [List.getElem?_eq_getElem (by rw [hql]; exact hi)] at this
    exact Option.some.inj this] at e3
  have hes : es.take ((qS S.ticks S.heard i S.queue).map qA).length = (qS S.ticks S.heard i S.queue).map qA := by
    rcases h2 with ⟨hh, _⟩ | ⟨r', es', g1, g2, g3⟩
    · rw [e1] at hh; cases hh
    · rw [e1] at g1
      injection g1 with g1
      subst g1
      rw [e2] at g2
      injection g2 with g2
      injection g2 with _ _ g2
      rw [g2]; exact g3
  have b1 := lt_nat i k .i64
  rw [decide_eq_true hik] at b1
  have b3 := add1_nat i (by omega)
  have v45 := fun h => ev45 (A := A) (id := id) (S := { S with queue := qS S.ticks S.heard i S.queue }) (qv := qv) (lv := lv) ⟨hrow, h2, h3, h4, h5, h6⟩ h (a := q.at_) (by simp only; omega) (by omega)
  simp only at v45
  have hne : qA q = .agg [.int .i64 q.seq, .str q.body, .int .i64 q.at_] := rfl
  rw [hne] at e3
  obtain ⟨j1, hj1⟩ : ∃ j1 : Nat, j1 = i + 1 := ⟨_, rfl⟩
  by_cases hdue : (S.heard && dueS S.ticks q.at_) = true
  rotate_left
  · have hsq : sentQ S.ticks S.heard S.queue[i] = S.queue[i] := by unfold sentQ; rw [← hqd, if_neg hdue]
    rw [if_neg hdue, List.append_nil, qS_same _ _ hi hsq]
    refine ⟨A, out, ?_, ⟨hrow, h2, h3, h4, h5, h6⟩, hO, fun j hj => .inl hj, Fr.refl _ _⟩
    rw [← hj1] at b3 ⊢
    rw [Bool.not_eq_true] at hdue
    cases hh : S.heard with
    | false =>
      simp [lp44x0, b1, b3, hrow, hh, e4, -evBin, -evIndexSl]
    | true =>
      rw [hh] at hdue
      rw [Bool.true_and] at hdue
      rw [hdue] at v45
      simp [lp44x0, b1, b3, hrow, e2, e3, hh, e4, v45, -evBin, -evIndexSl]
  · rw [if_pos hdue]
    rw [Bool.and_eq_true] at hdue
    obtain ⟨hh, hdue⟩ := hdue
    have hsq : sentQ S.ticks S.heard S.queue[i] = { q with at_ := S.ticks } := by unfold sentQ; rw [← hqd, if_pos (by rw [hh, hdue]; rfl)]
    have hrid : r ≠ id := fun e => h4 (by rw [e1, e]; simp [idsOf])
    have hrl := (List.getElem?_eq_some_iff.1 e2).1
    -- the store
    obtain ⟨A1, hA1⟩ : ∃ A1, A1 = A.set r (.row 3 false (es.set i (qA { q with at_ := S.ticks }))) := ⟨_, rfl⟩
    have hA1l : A1.length = A.length := by rw [hA1]; simp
    have hA1o : ∀ j, j ≠ r → A1[j]? = A[j]? := fun j hj => by rw [hA1, List.getElem?_set_ne (Ne.symm hj)]
    have hE1 : EndAt A1 id { S with queue := qS S.ticks S.heard (i + 1) S.queue } qv lv := by
      refine ⟨by rw [hA1o id (Ne.symm hrid)]; exact hrow, ?_, h3.keep fun j hj => hA1o j (fun e => h6 r (by rw [e1]; simp [idsOf]) (e ▸ hj)), h4, h5, h6⟩
      have := SlP.store (i := i) (x := qA { q with at_ := S.ticks }) e2 hes rfl (by rw [hql]; exact hi)
      rw [← hA1, ← e1] at this
      rw [qS_succ _ _ hi, hsq, List.map_set]
      exact this
    have v58 := fun h => ev58 hE1 h q
    have efr : frameS { S with queue := qS S.ticks S.heard (i + 1) S.queue } q = frameS S q := rfl
    rw [efr] at v58
    obtain ⟨A2, hA2⟩ : ∃ A2, A2 = A1 ++ [Ent.row 2 false [AV.agg [AV.int IntKind.i64 q.seq, AV.str q.body]], Ent.row 5 false [frA (frameS S q)]] := ⟨_, rfl⟩
    have hA2l : A2.length = A.length + 2 := by rw [hA2]; simp [hA1l]
    have hF2 : Fr A1 A2 [] := by rw [hA2]; exact Fr.app _ _ _
    have hO2 : SlP 5 A2 out (xs.map frA) := hO.keep fun j hj => by
      have hjl := hO.low j hj
      rw [hF2.2 j (by omega) (by simp), hA1o j (fun e => hOi r (mem_own.2 (.inr (.inl (by rw [e1]; simp [idsOf])))) (e ▸ hj))]
    obtain ⟨B, k1, k2, k3, k4, _⟩ := hO2.appendN (bytes := 48) (x := .fs 5 [frA (frameS S q)]) (ys := [frA (frameS S q)]) rfl (by simp) (by omega) (by omega) (by simp; omega)
    have hE2 : EndAt A2 id { S with queue := qS S.ticks S.heard (i + 1) S.queue } qv lv := hE1.keep fun j hj => hF2.2 j (hE1.low j hj) (by simp)
    have hE3 : EndAt B id { S with queue := qS S.ticks S.heard (i + 1) S.queue } qv lv := hE2.keep fun j hj => k3.2 j (hE2.low j hj) (hOi j hj)
    have hxl : (xs.map frA ++ [frA (frameS S q)]) = (xs ++ [frameS S q]).map frA := by simp
    refine ⟨B, .sl A2.length 0 (xs.map frA ++ [frA (frameS S q)]).length, ?_, hE3, by rw [← hxl]; exact k2, fun j hj => ?_, ?_⟩
    · have hlen2 : (xs.map frA ++ [frA (frameS S q)]).length = xs.length + 1 := by simp
      rw [hlen2] at k1 ⊢
      have e3' : es[i]? = some (.agg [.int .i64 q.seq, .str q.body, .int .i64 q.at_]) := e3
      have hil : i < es.length := (List.getElem?_eq_some_iff.1 e3').1
      have hset : A1[r]? = some (.row 3 false (es.set i (.agg [.int .i64 q.seq, .str q.body, .int .i64 S.ticks]))) := by rw [hA1, List.getElem?_set_self hrl]; rfl
      have hset2 : (es.set i (.agg [.int .i64 q.seq, .str q.body, .int .i64 S.ticks]))[i]? = some (.agg [.int .i64 q.seq, .str q.body, .int .i64 S.ticks]) := List.getElem?_set_self hil
      have hA1' : A.set r (.row 3 false (es.set i (.agg [.int .i64 q.seq, .str q.body, .int .i64 S.ticks]))) = A1 := by rw [hA1]; rfl
      have hst : evStore 1 A (.ptr r i 2) (.int .i64 S.ticks) = some A1 := by
        simp [e2, e3', hA1']
      have hrow1 : A1[id]? = some (.row 10 false [.agg [.int .i64 S.epoch, .int .i64 S.peer, qv, .int .i64 S.next, .int .i64 S.received, .bool S.owes, .int .i64 S.ticks, .bool S.heard, .int .i64 S.hello, lv]]) := hE1.row
      rw [← hA2] at v58
      obtain ⟨F, hF⟩ : ∃ F, F = frA (frameS S q) := ⟨_, rfl⟩
      rw [← hF] at v58 k1
      obtain ⟨N, hN⟩ : ∃ N, N = xs.length + 1 := ⟨_, rfl⟩
      rw [← hN] at k1 ⊢
      rw [hdue] at v45
      rw [← hj1] at b3 ⊢
      have hfs : F.solid = true ∧ (cellsOf F).length = 5 := by rw [hF]; exact ⟨rfl, rfl⟩
      have hle : loadElem (.agg [.int .i64 q.seq, .str q.body, .int .i64 S.ticks]) 3 0 true 2 = some (.agg [.int .i64 q.seq, .str q.body]) := rfl
      have hbf : evBuildF 5 [F] = some (.fs 5 [F]) := by rw [hF]; rfl
      simp [lp44x0, b1, b3, hrow, hrow1, e2, e3', e4, hst, hset, hset2, hh, v45, v58, hle, hbf, k1, -evBin, -evIndexSl, -evStore, -evBuildF]
    · simp [idsOf] at hj; exact .inr (by omega)
    · refine ⟨by omega, fun j hj hn => ?_⟩
      rw [List.mem_append, not_or] at hn
      rw [k3.2 j (by omega) hn.2, hF2.2 j (by omega) (by simp), hA1o j (fun e => hn.1 (mem_own.2 (.inr (.inl (by rw [e1, e]; simp [idsOf])))))]
end
end Go.Proofs.Ytfidjdlmmcaplaa
/-
  Link: frames, Tick.
-/
namespace Go.Proofs.Ytfidjdlmmcaplaa
open Go

def outI (S : EndS) (t : Int) (i : Nat) : List FrS := ((S.queue.take i).filter fun q => S.heard && dueS t q.at_).map (frameS S)
theorem outI_succ (S : EndS) (t : Int) {i : Nat} (hi : i < S.queue.length) : outI S t (i + 1) = outI S t i ++ if (S.heard && dueS t S.queue[i].at_) = true then [frameS S S.queue[i]] else [] := by
  unfold outI
  rw [List.take_succ_eq_append_getElem hi, List.filter_append, List.map_append]
  congr 1
  rw [List.filter_cons]
  split <;> rfl
theorem outI_len (S : EndS) (t : Int) (i : Nat) : (outI S t i).length ≤ i := by
  unfold outI
  rw [List.length_map]
  exact Nat.le_trans (List.length_filter_le _ _) (by simp; omega)
/-- what bounds an end's numbers -/
def Bd (S : EndS) : Prop := (0 ≤ S.ticks ∧ S.ticks ≤ 1152921504606846975) ∧ (∀ q ∈ S.queue, 0 ≤ q.at_ ∧ q.at_ ≤ 1152921504606846975) ∧ (0 ≤ S.hello ∧ S.hello ≤ 1152921504606846975)
section
variable {A : Arena} {id : Nat} {S : EndS} {qv lv : AV} (hE : EndAt A id S qv lv)
include hE
theorem loop44 (htb : 0 ≤ S.ticks ∧ S.ticks ≤ 1152921504606846976) (hq : ∀ q ∈ S.queue, 0 ≤ q.at_ ∧ q.at_ ≤ 1152921504606846976) {k : Nat} (hk8 : k ≤ 8) (hk : k ≤ S.queue.length) :
    ∃ B out, iter (evC (envOf GW fs44) 300 lp44x0) mask44x0 300 (st44x0 (.ptr id 0 0) .nilS (.int .i64 (k : Int)) (.int .i64 0)) A = some (.exit 0 ((st44x0 (.ptr id 0 0) out (.int .i64 (k : Int)) (.int .i64 (k : Int))).set 6 (.bool false)) B) ∧
      EndAt B id { S with queue := qS S.ticks S.heard k S.queue } qv lv ∧ SlP 5 B out ((outI S S.ticks k).map frA) ∧ (∀ j, j ∈ idsOf out → A.length ≤ j) ∧ Fr A B (own id qv lv) := by
  obtain ⟨o, h1, B, out, rfl, h2⟩ := iter_inv (E := envOf GW fs44) (fuel := 300) (a := lp44x0) (mask := mask44x0)
    (fun κ σ A' => ∃ i out, i + κ = k ∧ σ = st44x0 (.ptr id 0 0) out (.int .i64 (k : Int)) (.int .i64 (i : Int)) ∧ EndAt A' id { S with queue := qS S.ticks S.heard i S.queue } qv lv ∧ SlP 5 A' out ((outI S S.ticks i).map frA) ∧ (∀ j, j ∈ idsOf out → A.length ≤ j) ∧ Fr A A' (own id qv lv))
    (fun o => ∃ B out, o = .exit 0 ((st44x0 (.ptr id 0 0) out (.int .i64 (k : Int)) (.int .i64 (k : Int))).set 6 (.bool false)) B ∧ EndAt B id { S with queue := qS S.ticks S.heard k S.queue } qv lv ∧ SlP 5 B out ((outI S S.ticks k).map frA) ∧ (∀ j, j ∈ idsOf out → A.length ≤ j) ∧ Fr A B (own id qv lv))
    (by
      rintro κ σ A' ⟨i, out, hik, rfl, g1, g2, g3, g4⟩
      rw [cl44x0]
      by_cases hi : i < k
      · have hO : ∀ j, j ∈ own id qv lv → j ∉ idsOf out := fun j hj hj2 => by
          have := hE.low j hj
          have := g3 j hj2
          omega
        obtain ⟨A2, out2, c1, c2, c3, c4, c5⟩ := round44 300 hi hk8 hk rfl htb hq g1 g2 (Nat.le_trans (outI_len _ _ _) (by omega)) hO
        refine .inl ⟨_, _, c1, κ - 1, by omega, i + 1, out2, by omega, rfl, c2, by rw [outI_succ S S.ticks (by omega)]; exact c3, fun j hj => (c4 j hj).elim (g3 j) (fun h => Nat.le_trans g4.1 h), ?_⟩
        exact g4.trans c5 fun j hj => by
          rw [List.mem_append] at hj
          exact hj.imp (fun h => h) (g3 j)
      · obtain rfl : i = k := by omega
        refine .inr ⟨_, ?_, (fun _ _ h => by cases h), A', out, rfl, g1, g2, g3, g4⟩
        simp [lp44x0])
    300 k (st44x0 (.ptr id 0 0) .nilS (.int .i64 (k : Int)) (.int .i64 0)) A (by omega) ⟨0, .nilS, by omega, rfl, by
      have : qS S.ticks S.heard 0 S.queue = S.queue := by simp [qS]
      rw [this]; exact hE, .inl ⟨rfl, rfl⟩, by simp, Fr.refl _ _⟩
  exact ⟨B, out, h1, h2⟩
set_option maxRecDepth 100000 in
theorem ev44 (h : Handler) (htb : 0 ≤ S.ticks ∧ S.ticks ≤ 1152921504606846976) (hq : ∀ q ∈ S.queue, 0 ≤ q.at_ ∧ q.at_ ≤ 1152921504606846976) :
    ∃ B out, H44 h [.ptr id 0 0] A = some (out, B) ∧ EndAt B id { S with queue := (S.queue.take 8).map (sentQ S.ticks S.heard) ++ S.queue.drop 8 } qv lv ∧ SlP 5 B out ((outO S S.ticks).map frA) ∧ (∀ j, j ∈ idsOf out → A.length ≤ j) ∧ Fr A B (own id qv lv) := by
  have hrow := hE.row
  have hl := hE.2.1.len
  rw [List.length_map] at hl
  obtain ⟨k, hk⟩ : ∃ k, k = min S.queue.length 8 := ⟨_, rfl⟩
  have mn := minL_nat S.queue.length 8
  rw [← hk, show ((8 : Nat) : Int) = 8 from rfl] at mn
  obtain ⟨B, out, lp, k1, k2, k3, k4⟩ := loop44 hE htb hq (k := k) (by omega) (by omega)
  have hqs : qS S.ticks S.heard k S.queue = (S.queue.take 8).map (sentQ S.ticks S.heard) ++ S.queue.drop 8 := by
    unfold qS
    by_cases h8 : S.queue.length ≤ 8
    · have : k = S.queue.length := by omega
      rw [this, List.take_of_length_le h8, List.drop_of_length_le h8, List.take_of_length_le (Nat.le_refl _), List.drop_of_length_le (Nat.le_refl _)]
    · rw [show k = 8 by omega]
  have hos : outI S S.ticks k = outS S S.ticks := by
    unfold outI outS
    by_cases h8 : S.queue.length ≤ 8
    · rw [show k = S.queue.length by omega, List.take_of_length_le h8, List.take_of_length_le (Nat.le_refl _)]
    · rw [show k = 8 by omega]
  rw [hqs] at k1
  rw [hos] at k2
  have hlo := k2.len
  rw [List.length_map] at hlo
  have hrowB : B[id]? = some (.row 10 false [.agg [.int .i64 S.epoch, .int .i64 S.peer, qv, .int .i64 S.next, .int .i64 S.received, .bool S.owes, .int .i64 S.ticks, .bool S.heard, .int .i64 S.hello, lv]]) := k1.row
  have b1 := evEql ((outS S S.ticks).length : Int) 0
  unfold outO
  by_cases h0 : (outS S S.ticks).length = 0 ∧ S.owes = true
  · rw [if_pos h0]
    have hnil : outS S S.ticks = [] := List.length_eq_zero_iff.1 h0.1
    have v58 := fun h => ev58 k1 h ⟨0, [], 0⟩
    have efr : frameS { S with queue := (S.queue.take 8).map (sentQ S.ticks S.heard) ++ S.queue.drop 8 } ⟨0, [], 0⟩ = ⟨S.epoch, S.peer, 0, S.received, []⟩ := rfl
    rw [efr] at v58
    simp only at v58
    obtain ⟨A2, hA2⟩ : ∃ A2, A2 = B ++ [Ent.row 2 false [AV.agg [AV.int IntKind.i64 0, AV.str []]], Ent.row 5 false [frA ⟨S.epoch, S.peer, 0, S.received, []⟩]] := ⟨_, rfl⟩
    rw [← hA2] at v58
    have hF2 : Fr B A2 [] := by rw [hA2]; exact Fr.app _ _ _
    rw [hnil] at k2
    obtain ⟨C, c1, c2, c3, c4, _⟩ := (k2.keep fun j hj => hF2.2 j (k2.low j hj) (by simp)).appendN (bytes := 48) (x := .fs 5 [frA ⟨S.epoch, S.peer, 0, S.received, []⟩]) (ys := [frA ⟨S.epoch, S.peer, 0, S.received, []⟩]) rfl (by simp) (by omega) (by omega) (by simp)
    have hAB : A.length ≤ B.length := k4.1
    have hl2 : B.length ≤ A2.length := hF2.1
    refine ⟨C, .sl A2.length 0 1, ?_, ?_, c2, fun j hj => ?_, ?_⟩
    · rw [h0.1] at b1
      have b1' : evBin .eql (.int .i64 ((outS S S.ticks).length : Int)) (.int .i64 0) = some (.bool true) := by rw [h0.1]; rfl
      obtain ⟨F, hF⟩ : ∃ F, F = frA ⟨S.epoch, S.peer, 0, S.received, []⟩ := ⟨_, rfl⟩
      rw [← hF] at v58 c1
      have hbf : evBuildF 5 [F] = some (.fs 5 [F]) := by rw [hF]; rfl
      have c1' : evAppendN 5 48 A2 out (.fs 5 [F]) = some (.sl A2.length 0 1, C) := c1
      unfold H44
      rw [evFun_run _ _ rfl]
      obtain ⟨L, hL⟩ : ∃ L : Int, L = ((outS S S.ticks).length : Int) := ⟨_, rfl⟩
      rw [← hL] at hlo b1'
      simp [mf44, hrow, hl, mn, go44x0 lp, hlo, b1', hrowB, h0.2, v58, hbf, c1', -evBin, -evLenSl, -evMinL, -evBuildF]
    · exact (k1.keep fun j hj => hF2.2 j (k1.low j hj) (by simp)).keep fun j hj => c3.2 j (by have := k1.low j hj; omega) (fun hj2 => by have := k3 j hj2; have := hE.low j hj; omega)
    · simp [idsOf] at hj; omega
    · exact (k4.trans hF2 fun j hj => by simp at hj).trans c3 fun j hj => .inr (k3 j hj)
  · rw [if_neg h0]
    refine ⟨B, out, ?_, k1, k2, k3, k4⟩
    unfold H44
    rw [evFun_run _ _ rfl]
    by_cases hz : (outS S S.ticks).length = 0
    · have ho : S.owes = false := by
        cases hh : S.owes with
        | false => rfl
        | true => exact absurd ⟨hz, hh⟩ h0
      have b1' : evBin .eql (.int .i64 ((outS S S.ticks).length : Int)) (.int .i64 0) = some (.bool true) := by rw [hz]; rfl
      obtain ⟨L, hL⟩ : ∃ L : Int, L = ((outS S S.ticks).length : Int) := ⟨_, rfl⟩
      rw [← hL] at hlo b1'
      simp [mf44, hrow, hl, mn, go44x0 lp, hlo, b1', hrowB, ho, -evBin, -evLenSl, -evMinL]
    · rw [decide_eq_false (by omega)] at b1
      obtain ⟨L, hL⟩ : ∃ L : Int, L = ((outS S S.ticks).length : Int) := ⟨_, rfl⟩
      rw [← hL] at hlo b1
      simp [mf44, hrow, hl, mn, go44x0 lp, hlo, b1, -evBin, -evLenSl, -evMinL]
end
end Go.Proofs.Ytfidjdlmmcaplaa
/-
  Link: Tick.
-/
namespace Go.Proofs.Ytfidjdlmmcaplaa
open Go

def T19_0 : MC := .region [⟨some 1, .mv (.cst .nilS), none⟩]
def T19_1 : MC := .seq (.region [⟨none, .mv (.var 0), none⟩, ⟨some 2, .eqNil 0 false (.tmp 0), none⟩]) (.cond (.var 2) (.seq (.region [⟨some 1, .mv (.cst .nilS), none⟩]) .ret) .skip)
def T19_2 : MC := .region [⟨none, .mv (.var 0), none⟩, ⟨none, .nilCheck (.tmp 0), none⟩, ⟨none, .fieldAddr 6 (.tmp 1), none⟩, ⟨none, .load false 1 (.tmp 2), none⟩, ⟨none, .bin .add (.tmp 3) (.cst (.int .i64 1)), none⟩, ⟨none, .nilCheck (.tmp 0), none⟩, ⟨none, .fieldAddr 6 (.tmp 5), none⟩, ⟨none, .store 1 (.tmp 6) (.tmp 4), none⟩]
def T19_3 : MC := .seq (.region [⟨none, .mv (.var 0), none⟩, ⟨none, .nilCheck (.tmp 0), none⟩, ⟨none, .fieldAddr 1 (.tmp 1), none⟩, ⟨none, .load false 1 (.tmp 2), none⟩, ⟨some 3, .bin .gtr (.tmp 3) (.cst (.int .i64 0)), none⟩]) (.cond (.var 3) (.seq (.region [⟨none, .mv (.var 0), none⟩, ⟨none, .call (.fn 44) [.tmp 0], none⟩, ⟨some 1, .mv (.tmp 1), none⟩]) (.region [⟨none, .mv (.var 0), none⟩, ⟨none, .mv (.var 0), none⟩, ⟨none, .nilCheck (.tmp 1), none⟩, ⟨none, .fieldAddr 5 (.tmp 2), none⟩, ⟨none, .load false 1 (.tmp 3), none⟩, ⟨none, .mv (.tmp 4), none⟩, ⟨none, .mv (.var 1), some (.tmp 5, true)⟩, ⟨none, .lenSl (.tmp 6), some (.tmp 5, true)⟩, ⟨none, .bin .eql (.tmp 7) (.cst (.int .i64 0)), some (.tmp 5, true)⟩, ⟨none, .pick (.tmp 5) (.tmp 8) (.cst (.bool false)), none⟩, ⟨none, .nilCheck (.tmp 0), none⟩, ⟨none, .fieldAddr 5 (.tmp 10), none⟩, ⟨none, .store 1 (.tmp 11) (.tmp 9), none⟩])) .skip)
def T19_4 : MC := .seq (.region [⟨none, .mv (.var 0), none⟩, ⟨none, .nilCheck (.tmp 0), none⟩, ⟨none, .fieldAddr 7 (.tmp 1), none⟩, ⟨none, .load false 1 (.tmp 2), none⟩, ⟨none, .un .not (.tmp 3), none⟩, ⟨none, .mv (.tmp 4), none⟩, ⟨none, .mv (.var 0), some (.tmp 5, true)⟩, ⟨none, .mv (.var 0), some (.tmp 5, true)⟩, ⟨none, .nilCheck (.tmp 7), some (.tmp 5, true)⟩, ⟨none, .fieldAddr 8 (.tmp 8), some (.tmp 5, true)⟩, ⟨none, .load false 1 (.tmp 9), some (.tmp 5, true)⟩, ⟨none, .call (.fn 45) [.tmp 6, .tmp 10], some (.tmp 5, true)⟩, ⟨some 4, .pick (.tmp 5) (.tmp 11) (.cst (.bool false)), none⟩]) (.cond (.var 4) (.seq (.region [⟨none, .mv (.var 0), none⟩, ⟨none, .mv (.var 0), none⟩, ⟨none, .nilCheck (.tmp 1), none⟩, ⟨none, .fieldAddr 6 (.tmp 2), none⟩, ⟨none, .load false 1 (.tmp 3), none⟩, ⟨none, .nilCheck (.tmp 0), none⟩, ⟨none, .fieldAddr 8 (.tmp 5), none⟩, ⟨none, .store 1 (.tmp 6) (.tmp 4), none⟩]) (.region [⟨none, .mv (.var 1), none⟩, ⟨none, .mv (.var 0), none⟩, ⟨none, .nilCheck (.tmp 1), none⟩, ⟨none, .fieldAddr 0 (.tmp 2), none⟩, ⟨none, .load false 1 (.tmp 3), none⟩, ⟨none, .build [.int .i64 0, .int .i64 0, .int .i64 0, .int .i64 0, .str []] [(0, (1, .tmp 4))], none⟩, ⟨none, .buildF 5 [.tmp 5], none⟩, ⟨none, .appendN 5 48 (.tmp 0) (.tmp 6), none⟩, ⟨some 1, .mv (.tmp 7), none⟩])) .skip)
def T19_5 : MC := .region [⟨none, .mv (.var 1), none⟩, ⟨some 1, .mv (.tmp 0), none⟩]
def T19_6 : MC := .ret
theorem T19__eq : mf19 = ⟨1, 5, .seq T19_0 (.seq T19_1 (.seq T19_2 (.seq T19_3 (.seq T19_4 (.seq T19_5 T19_6))))), [.tmp 1]⟩ := rfl
theorem set_ne {B : Arena} {id j : Nat} {R : Ent} {l : List Nat} (h : id ∉ l) (hj : j ∈ l) : (B.set id R)[j]? = B[j]? := List.getElem?_set_ne (fun e => h (by rw [e]; exact hj))
/-- the part of a tick that needs a peer, of an end whose ticks have been counted -/
def p1 (S : EndS) : EndS × List FrS :=
  if S.peer > 0 then ({ S with queue := (S.queue.take 8).map (sentQ S.ticks S.heard) ++ S.queue.drop 8, owes := S.owes && decide ((outO S S.ticks).length = 0) }, outO S S.ticks) else (S, [])
theorem tick1_eq (S : EndS) : tick1 S = p1 { S with ticks := S.ticks + 1 } := rfl
section
variable {A : Arena} {id : Nat} {S : EndS} {qv lv : AV} (hE : EndAt A id S qv lv)
include hE
set_option maxRecDepth 100000 in
theorem r19_3 {K : List KC} {fuel : Nat} (htb : 0 ≤ S.ticks ∧ S.ticks ≤ 1152921504606846976) (hq : ∀ q ∈ S.queue, 0 ≤ q.at_ ∧ q.at_ ≤ 1152921504606846976) (d2 d3 d4 : AV) :
    ∃ B out, run (envOf GW fs19) fuel (.code T19_3 :: K) [.ptr id 0 0, .nilS, d2, d3, d4] A = run (envOf GW fs19) fuel K [.ptr id 0 0, out, d2, .bool (decide (S.peer > 0)), d4] B ∧
      EndAt B id (p1 S).1 qv lv ∧ SlP 5 B out ((p1 S).2.map frA) ∧ (∀ j, j ∈ idsOf out → A.length ≤ j) ∧ Fr A B (own id qv lv) := by
  have hrow := hE.row
  have b1 := evGtr S.peer 0
  unfold p1
  by_cases hp : S.peer > 0
  rotate_left
  · rw [if_neg hp]
    rw [decide_eq_false hp] at b1 ⊢
    refine ⟨A, .nilS, ?_, hE, .inl ⟨rfl, rfl⟩, by simp, Fr.refl _ _⟩
    simp [T19_3, hrow, b1, -evBin]
  rw [if_pos hp]
  rw [decide_eq_true hp] at b1 ⊢
  obtain ⟨B, out, k1, k2, k3, k4, k5⟩ := ev44 hE (fun _ _ _ => none) htb hq
  have hrowB : B[id]? = some (.row 10 false [.agg [.int .i64 S.epoch, .int .i64 S.peer, qv, .int .i64 S.next, .int .i64 S.received, .bool S.owes, .int .i64 S.ticks, .bool S.heard, .int .i64 S.hello, lv]]) := k2.row
  have hidB := (List.getElem?_eq_some_iff.1 hrowB).1
  have hlo := k3.len
  rw [List.length_map] at hlo
  have b2 := evEql ((outO S S.ticks).length : Int) 0
  rw [show decide (((outO S S.ticks).length : Int) = 0) = decide ((outO S S.ticks).length = 0) by rw [Bool.eq_iff_iff, decide_eq_true_eq, decide_eq_true_eq]; omega] at b2
  obtain ⟨d, hd⟩ : ∃ d, d = decide ((outO S S.ticks).length = 0) := ⟨_, rfl⟩
  rw [← hd] at b2 ⊢
  obtain ⟨L, hL⟩ : ∃ L : Int, L = ((outO S S.ticks).length : Int) := ⟨_, rfl⟩
  rw [← hL] at hlo b2
  have hio : id ∉ idsOf out := fun h => by
    have := k4 id h
    have := (List.getElem?_eq_some_iff.1 hrow).1
    omega
  refine ⟨B.set id (.row 10 false [.agg [.int .i64 S.epoch, .int .i64 S.peer, qv, .int .i64 S.next, .int .i64 S.received, .bool (S.owes && d), .int .i64 S.ticks, .bool S.heard, .int .i64 S.hello, lv]]), out, ?_, ?_, ?_, k4, ?_⟩
  · cases ho : S.owes with
    | false => simp [T19_3, hrow, b1, k1, hrowB, ho, -evBin, -evLenSl]
    | true => simp [T19_3, hrow, b1, k1, hrowB, ho, hlo, b2, -evBin, -evLenSl]
  · refine k2.turn (by rw [List.getElem?_set_self hidB]) ?_ ?_ (fun j hj => .inl hj) (fun j hj => .inl hj) k2.2.2.2.2.2
    · exact k2.2.1.keep fun j hj => set_ne k2.2.2.2.1 hj
    · exact k2.2.2.1.keep fun j hj => set_ne k2.2.2.2.2.1 hj
  · exact k3.keep fun j hj => set_ne hio hj
  · refine k5.trans (Fr.set B id _) fun j hj => .inl ?_
    rw [List.mem_singleton] at hj
    exact mem_own.2 (.inl hj)
set_option maxRecDepth 100000 in
theorem r19_4 {K : List KC} {fuel : Nat} {out : AV} {xs : List FrS} (hO : SlP 5 A out (xs.map frA)) (hOi : ∀ j, j ∈ own id qv lv → j ∉ idsOf out) (hx : xs.length ≤ 100) (htb : 0 ≤ S.ticks ∧ S.ticks ≤ 1152921504606846976) (hh : 0 ≤ S.hello ∧ S.hello ≤ 1152921504606846976) (d2 d3 d4 : AV) :
    ∃ B out' d4', run (envOf GW fs19) fuel (.code T19_4 :: K) [.ptr id 0 0, out, d2, d3, d4] A = run (envOf GW fs19) fuel K [.ptr id 0 0, out', d2, d3, d4'] B ∧
      EndAt B id (if S.heard = false ∧ dueS S.ticks S.hello = true then { S with hello := S.ticks } else S) qv lv ∧ SlP 5 B out' ((if S.heard = false ∧ dueS S.ticks S.hello = true then xs ++ [⟨S.epoch, 0, 0, 0, []⟩] else xs).map frA) ∧ (∀ j, j ∈ idsOf out' → j ∈ idsOf out ∨ A.length ≤ j) ∧ Fr A B (own id qv lv ++ idsOf out) := by
  have hrow := hE.row
  have hid := (List.getElem?_eq_some_iff.1 hrow).1
  have v45 := ev45 hE (fun _ _ _ => none) (a := S.hello) (by omega) (by omega)
  by_cases hc : S.heard = false ∧ dueS S.ticks S.hello = true
  rotate_left
  · rw [if_neg hc, if_neg hc]
    refine ⟨A, out, .bool false, ?_, hE, hO, fun j hj => .inl hj, Fr.refl _ _⟩
    cases ht : S.heard with
    | true => simp [T19_4, hrow, ht, -evBin]
    | false =>
      have hdue : dueS S.ticks S.hello = false := by
        cases h : dueS S.ticks S.hello with
        | false => rfl
        | true => exact absurd ⟨ht, h⟩ hc
      rw [hdue] at v45
      simp [T19_4, hrow, ht, v45, -evBin]
  rw [if_pos hc, if_pos hc]
  obtain ⟨ht, hdue⟩ := hc
  rw [hdue] at v45
  obtain ⟨A1, hA1⟩ : ∃ A1, A1 = A.set id (.row 10 false [.agg [.int .i64 S.epoch, .int .i64 S.peer, qv, .int .i64 S.next, .int .i64 S.received, .bool S.owes, .int .i64 S.ticks, .bool S.heard, .int .i64 S.ticks, lv]]) := ⟨_, rfl⟩
  have hA1l : A1.length = A.length := by rw [hA1]; simp
  have hA1o : ∀ j, j ≠ id → A1[j]? = A[j]? := fun j hj => by rw [hA1, List.getElem?_set_ne (Ne.symm hj)]
  have hrow1 : A1[id]? = some (.row 10 false [.agg [.int .i64 S.epoch, .int .i64 S.peer, qv, .int .i64 S.next, .int .i64 S.received, .bool S.owes, .int .i64 S.ticks, .bool S.heard, .int .i64 S.ticks, lv]]) := by rw [hA1, List.getElem?_set_self hid]
  have hE1 : EndAt A1 id { S with hello := S.ticks } qv lv := by
    refine hE.turn hrow1 ?_ ?_ (fun j hj => .inl hj) (fun j hj => .inl hj) hE.2.2.2.2.2
    · exact hE.2.1.keep fun j hj => hA1o j (fun e => hE.2.2.2.1 (e ▸ hj))
    · exact hE.2.2.1.keep fun j hj => hA1o j (fun e => hE.2.2.2.2.1 (e ▸ hj))
  have hio : id ∉ idsOf out := hOi id (mem_own.2 (.inl rfl))
  obtain ⟨B, k1, k2, k3, k4, _⟩ := (hO.keep fun j hj => hA1o j (fun e => hio (e ▸ hj))).appendN (bytes := 48) (x := .fs 5 [frA ⟨S.epoch, 0, 0, 0, []⟩]) (ys := [frA ⟨S.epoch, 0, 0, 0, []⟩]) rfl (by simp) (by omega) (by omega) (by simp; omega)
  have hxl : (xs.map frA ++ [frA ⟨S.epoch, 0, 0, 0, []⟩]) = (xs ++ [(⟨S.epoch, 0, 0, 0, []⟩ : FrS)]).map frA := by simp
  refine ⟨B, .sl A1.length 0 (xs.map frA ++ [frA ⟨S.epoch, 0, 0, 0, []⟩]).length, .bool true, ?_, ?_, by rw [← hxl]; exact k2, fun j hj => ?_, ?_⟩
  · have hst : evStore 1 A (.ptr id 0 8) (.int .i64 S.ticks) = some A1 := by
      rw [hA1]; simp [hrow]
    have e0 : frA ⟨S.epoch, 0, 0, 0, []⟩ = .agg [.int .i64 S.epoch, .int .i64 0, .int .i64 0, .int .i64 0, .str []] := rfl
    have hlen2 : (xs.map frA ++ [frA ⟨S.epoch, 0, 0, 0, []⟩]).length = xs.length + 1 := by simp
    rw [hlen2] at k1 ⊢
    rw [e0] at k1
    obtain ⟨N, hN⟩ : ∃ N, N = xs.length + 1 := ⟨_, rfl⟩
    rw [← hN] at k1 ⊢
    simp [T19_4, hrow, ht, v45, hst, hrow1, k1, -evBin, -evStore]
  · exact hE1.keep fun j hj => k3.2 j (hE1.low j hj) (hOi j hj)
  · simp [idsOf] at hj; exact .inr (by omega)
  · refine ⟨by omega, fun j hj hn => ?_⟩
    rw [List.mem_append, not_or] at hn
    rw [k3.2 j (by omega) hn.2, hA1o j (fun e => hn.1 (mem_own.2 (.inl e)))]
omit hE in
theorem outO_len (t : Int) : (outO S t).length ≤ 8 := by
  unfold outO
  split
  · simp
  · unfold outS
    rw [List.length_map]
    exact Nat.le_trans (List.length_filter_le _ _) (by simp; omega)
set_option maxRecDepth 100000 in
theorem ev19 (h : Handler) (hb : Bd S) : ∃ B out, H19 h [.ptr id 0 0] A = some (out, B) ∧ EndAt B id (tickS S).1 qv lv ∧ SlP 5 B out ((tickS S).2.map frA) ∧ (∀ j, j ∈ idsOf out → A.length ≤ j) ∧ Fr A B (own id qv lv) := by
  have hrow := hE.row
  have hid := (List.getElem?_eq_some_iff.1 hrow).1
  obtain ⟨hb1, hb2, hb3⟩ := hb
  have b1 := evAdd (a := S.ticks) (b := 1) (by omega)
  obtain ⟨A1, hA1⟩ : ∃ A1, A1 = A.set id (.row 10 false [.agg [.int .i64 S.epoch, .int .i64 S.peer, qv, .int .i64 S.next, .int .i64 S.received, .bool S.owes, .int .i64 (S.ticks + 1), .bool S.heard, .int .i64 S.hello, lv]]) := ⟨_, rfl⟩
  have hA1l : A1.length = A.length := by rw [hA1]; simp
  have hA1o : ∀ j, j ≠ id → A1[j]? = A[j]? := fun j hj => by rw [hA1, List.getElem?_set_ne (Ne.symm hj)]
  have hrow1 : A1[id]? = some (.row 10 false [.agg [.int .i64 S.epoch, .int .i64 S.peer, qv, .int .i64 S.next, .int .i64 S.received, .bool S.owes, .int .i64 (S.ticks + 1), .bool S.heard, .int .i64 S.hello, lv]]) := by rw [hA1, List.getElem?_set_self hid]
  have hE1 : EndAt A1 id { S with ticks := S.ticks + 1 } qv lv := by
    refine hE.turn hrow1 ?_ ?_ (fun j hj => .inl hj) (fun j hj => .inl hj) hE.2.2.2.2.2
    · exact hE.2.1.keep fun j hj => hA1o j (fun e => hE.2.2.2.1 (e ▸ hj))
    · exact hE.2.2.1.keep fun j hj => hA1o j (fun e => hE.2.2.2.2.1 (e ▸ hj))
  have hF1 : Fr A A1 (own id qv lv) := ⟨by omega, fun j hj hn => hA1o j fun e => hn (mem_own.2 (.inl e))⟩
  obtain ⟨K4, hK4⟩ : ∃ K, K = [KC.code (.seq T19_4 (.seq T19_5 T19_6))] := ⟨_, rfl⟩
  obtain ⟨A2, o2, r3, g1, g2, g3, g4⟩ := r19_3 hE1 (K := K4) (fuel := 300) (by simp only; omega) (fun q hq => by have := hb2 q hq; omega) (.bool false) .undef .undef
  have hl2 : ((p1 { S with ticks := S.ticks + 1 }).2).length ≤ 100 := by
    unfold p1
    split
    · exact Nat.le_trans (outO_len _) (by omega)
    · simp
  have hp1 : (p1 { S with ticks := S.ticks + 1 }).1.ticks = S.ticks + 1 ∧ (p1 { S with ticks := S.ticks + 1 }).1.hello = S.hello ∧ (p1 { S with ticks := S.ticks + 1 }).1.heard = S.heard ∧ (p1 { S with ticks := S.ticks + 1 }).1.epoch = S.epoch := by
    unfold p1
    split <;> exact ⟨rfl, rfl, rfl, rfl⟩
  obtain ⟨A3, o3, d4, r4, k1, k2, k3, k4⟩ := r19_4 g1 (K := [KC.code (.seq T19_5 T19_6)]) (fuel := 300) g2 (fun j hj hj2 => by
    have := hE1.low j hj
    have := g3 j hj2
    omega) hl2 (by rw [hp1.1]; omega) (by rw [hp1.2.1]; omega) (.bool false) (.bool (decide (S.peer > 0))) .undef
  obtain ⟨X, hX⟩ : ∃ X, X = p1 { S with ticks := S.ticks + 1 } := ⟨_, rfl⟩
  have eT : tickS S = if S.heard = false ∧ dueS (S.ticks + 1) S.hello = true then ({ X.1 with hello := S.ticks + 1 }, X.2 ++ [⟨S.epoch, 0, 0, 0, []⟩]) else X := by unfold tickS; rw [tick1_eq, ← hX]
  rw [← hX] at hp1 k1 k2
  have eC : (X.1.heard = false ∧ dueS X.1.ticks X.1.hello = true) ↔ (S.heard = false ∧ dueS (S.ticks + 1) S.hello = true) := by rw [hp1.1, hp1.2.1, hp1.2.2.1]
  refine ⟨A3, o3, ?_, ?_, ?_, fun j hj => ?_, ?_⟩
  · unfold H19
    rw [evFun_run _ _ rfl, T19__eq]
    have hst : evStore 1 A (.ptr id 0 6) (.int .i64 (S.ticks + 1)) = some A1 := by
      rw [hA1]; simp [hrow]
    obtain ⟨t1, ht1⟩ : ∃ t1, t1 = S.ticks + 1 := ⟨_, rfl⟩
    rw [← ht1] at b1 hst
    have e1 : run (envOf GW fs19) 300 [.code (.seq T19_0 (.seq T19_1 (.seq T19_2 (.seq T19_3 (.seq T19_4 (.seq T19_5 T19_6))))))] [.ptr id 0 0, .undef, .undef, .undef, .undef] A = run (envOf GW fs19) 300 (.code T19_3 :: K4) [.ptr id 0 0, .nilS, .bool false, .undef, .undef] A1 := by
      rw [hK4]
      simp [T19_0, T19_1, T19_2, hrow, b1, hst, -evBin, -evStore]
    have e2 : run (envOf GW fs19) 300 K4 [.ptr id 0 0, o2, .bool false, .bool (decide (S.peer > 0)), .undef] A2 = run (envOf GW fs19) 300 [KC.code (.seq T19_5 T19_6)] [.ptr id 0 0, o3, .bool false, .bool (decide (S.peer > 0)), d4] A3 := by
      rw [hK4, run_seq]
      exact r4
    have e3 : run (envOf GW fs19) 300 [KC.code (.seq T19_5 T19_6)] [.ptr id 0 0, o3, .bool false, .bool (decide (S.peer > 0)), d4] A3 = some (.ret [.ptr id 0 0, o3, .bool false, .bool (decide (S.peer > 0)), d4] A3) := by
      simp [T19_5, T19_6]
    have e4 : ([.ptr id 0 0] ++ List.replicate (5 - 1) .undef : List AV) = [.ptr id 0 0, .undef, .undef, .undef, .undef] := rfl
    simp only
    rw [e4, e1, r3, e2, e3]
    rfl
  · rw [eT]
    by_cases hc : S.heard = false ∧ dueS (S.ticks + 1) S.hello = true
    · rw [if_pos (eC.2 hc)] at k1
      rw [if_pos hc]
      have e : ({ X.1 with hello := X.1.ticks } : EndS) = { X.1 with hello := S.ticks + 1 } := by rw [hp1.1]
      rw [e] at k1
      exact k1
    · rw [if_neg (fun h => hc (eC.1 h))] at k1
      rw [if_neg hc]
      exact k1
  · rw [eT]
    by_cases hc : S.heard = false ∧ dueS (S.ticks + 1) S.hello = true
    · rw [if_pos (eC.2 hc), hp1.2.2.2] at k2
      rw [if_pos hc]
      exact k2
    · rw [if_neg (fun h => hc (eC.1 h))] at k2
      rw [if_neg hc]
      exact k2
  · rcases k3 j hj with h | h
    · have := g3 j h; omega
    · have := g4.1; omega
  · exact hF1.trans (g4.trans k4 fun j hj => by
      rw [List.mem_append] at hj
      exact hj.imp (fun h => h) (g3 j)) fun j hj => .inl hj
end
end Go.Proofs.Ytfidjdlmmcaplaa
/-
  Link: acknowledged: the messages that have arrived are removed (slices.IndexFunc, slices.DeleteFunc).
-/
namespace Go.Proofs.Ytfidjdlmmcaplaa
open Go

def fn60 (c : Nat) : AV := .func (.func 60) [] [.ptr c 0 0]
theorem ev60 (h : Handler) {A : Arena} {c : Nat} {k : Int} (hc : A[c]? = some (.row 1 false [.int .i64 k])) (q : QE) : H60 h [qA q, .ptr c 0 0] A = some (.bool (!keepQ k q), A ++ [.row 3 false [qA q]]) := by
  have hid := (List.getElem?_eq_some_iff.1 hc).1
  have e1 : ∀ X, (A ++ X)[c]? = A[c]? := fun X => List.getElem?_append_left hid
  have b1 := evGtr q.at_ 0
  have b2 := evLeq q.seq k
  unfold keepQ
  obtain ⟨d1, hd1⟩ : ∃ d, d = decide (q.at_ > 0) := ⟨_, rfl⟩
  obtain ⟨d2, hd2⟩ : ∃ d, d = decide (q.seq ≤ k) := ⟨_, rfl⟩
  rw [← hd1] at b1 ⊢
  rw [← hd2] at b2 ⊢
  unfold H60
  rw [evFun_run _ _ rfl]
  unfold qA
  cases d1 <;> simp [mf60, evBox, e1, hc, b1, b2, -evBin]
set_option maxRecDepth 100000 in
theorem round63 (fuel : Nat) {A : Arena} {c r n : Nat} {k : Int} (hc : A[c]? = some (.row 1 false [.int .i64 k])) {es : List AV} (hr : A[r]? = some (.row 3 false es)) {i : Nat} (hi : i < n) {q : QE} (he : es[i]? = some (qA q)) (hn : n ≤ 1000) :
    run (envOf GW fs63) fuel [.code lp63x0] (st63x0 (.sl r 0 n) (fn60 c) (.int .i64 (n : Int)) (.int .i64 (i : Int))) A =
      if keepQ k q = true then some (.normal (st63x0 (.sl r 0 n) (fn60 c) (.int .i64 (n : Int)) (.int .i64 ((i + 1 : Nat) : Int))) (A ++ [.row 3 false [qA q]])) else some (.ret [.sl r 0 n, fn60 c, .int .i64 (i : Int), .int .i64 (i : Int), .int .i64 (n : Int), .int .i64 (i : Int), .bool true, .bool true] (A ++ [.row 3 false [qA q]])) := by
  have b1 := lt_nat i n .i64
  rw [decide_eq_true hi] at b1
  have b3 := add1_nat i (by omega)
  have k1 : evIndexSl 3 A (.sl r 0 n) (.int .i64 (i : Int)) = some (.ptr r i 0) := by simp [evIndexSl, hr]; omega
  have v := ev60 (fun _ _ _ => none) hc q
  have hle : loadElem (qA q) 3 0 true 3 = some (qA q) := rfl
  have ld : evLoad true 3 A (.ptr r i 0) = some (qA q) := by simp [evLoad, hr, he, hle]
  obtain ⟨Q, hQ⟩ : ∃ Q, Q = qA q := ⟨_, rfl⟩
  rw [← hQ] at v ld ⊢
  obtain ⟨j1, hj1⟩ : ∃ j1 : Nat, j1 = i + 1 := ⟨_, rfl⟩
  rw [← hj1] at b3 ⊢
  unfold fn60
  cases hk : keepQ k q with
  | true =>
    rw [hk] at v
    simp [lp63x0, b1, b3, k1, ld, v, -evBin, -evIndexSl, -evLoad]
  | false =>
    rw [hk] at v
    simp [lp63x0, b1, b3, k1, ld, v, -evBin, -evIndexSl, -evLoad]
theorem ev63 (h : Handler) {A : Arena} {c r n : Nat} {k : Int} (hc : A[c]? = some (.row 1 false [.int .i64 k])) {es : List AV} (hr : A[r]? = some (.row 3 false es)) {l : List QE} (hn : l.length = n) (hn2 : n ≤ 100) (he : es.take n = l.map qA) :
    ∃ B, Fr A B [] ∧ ((∃ (i : Nat) (hi : i < l.length), H63 h [.sl r 0 n, fn60 c] A = some (.int .i64 (i : Int), B) ∧ keepQ k l[i] = false ∧ ∀ j (hj : j < i), keepQ k (l[j]'(by omega)) = true) ∨
      (H63 h [.sl r 0 n, fn60 c] A = some (.int .i64 (-1), B) ∧ ∀ q ∈ l, keepQ k q = true)) := by
  have hat : ∀ i (hi : i < l.length), es[i]? = some (qA l[i]) := fun i hi => by
    have : (es.take n)[i]? = some (qA l[i]) := by rw [he, List.getElem?_map, List.getElem?_eq_getElem hi]; rfl
    rw [List.getElem?_take, if_pos (by omega)] at this
    exact this
  obtain ⟨o, h1, B, hF, h2⟩ := iter_inv (E := envOf GW fs63) (fuel := 300) (a := lp63x0) (mask := mask63x0)
    (fun κ σ A' => ∃ i, i + κ = n ∧ σ = st63x0 (.sl r 0 n) (fn60 c) (.int .i64 (n : Int)) (.int .i64 (i : Int)) ∧ Fr A A' [] ∧ ∀ j (hj : j < i) (hjl : j < l.length), keepQ k l[j] = true)
    (fun o => ∃ B, Fr A B [] ∧ ((∃ (i : Nat) (hi : i < l.length), o = .ret [.sl r 0 n, fn60 c, .int .i64 (i : Int), .int .i64 (i : Int), .int .i64 (n : Int), .int .i64 (i : Int), .bool true, .bool true] B ∧ keepQ k l[i] = false ∧ ∀ j (hj : j < i), keepQ k (l[j]'(by omega)) = true) ∨
      (o = .exit 0 ((st63x0 (.sl r 0 n) (fn60 c) (.int .i64 (n : Int)) (.int .i64 (n : Int))).set 6 (.bool false)) B ∧ ∀ q ∈ l, keepQ k q = true)))
    (by
      rintro κ σ A' ⟨i, hik, rfl, g1, g2⟩
      unfold fn60
      rw [cl63x0]
      by_cases hi : i < n
      · have r1 := round63 300 (A := A') (c := c) (r := r) (k := k) ((g1.2 c (List.getElem?_eq_some_iff.1 hc).1 (by simp)).trans hc) ((g1.2 r (List.getElem?_eq_some_iff.1 hr).1 (by simp)).trans hr) hi (hat i (by omega)) (by omega)
        have hF' : Fr A (A' ++ [.row 3 false [qA (l[i]'(by omega))]]) [] := g1.trans (Fr.app _ _ _) (o2 := []) fun j hj => by simp at hj
        cases hk : keepQ k (l[i]'(by omega)) with
        | true =>
          rw [if_pos hk] at r1
          refine .inl ⟨_, _, r1, κ - 1, by omega, i + 1, by omega, rfl, hF', fun j hj hjl => ?_⟩
          by_cases e : j = i
          · subst e; exact hk
          · exact g2 j (by omega) hjl
        | false =>
          rw [if_neg (by rw [hk]; simp)] at r1
          exact .inr ⟨_, r1, (fun _ _ h => by cases h), _, hF', .inl ⟨i, by omega, rfl, hk, fun j hj => g2 j hj (by omega)⟩⟩
      · obtain rfl : i = n := by omega
        refine .inr ⟨_, ?_, (fun _ _ h => by cases h), A', g1, .inr ⟨rfl, fun q hq => ?_⟩⟩
        · simp [lp63x0, fn60]
        · obtain ⟨j, hj, rfl⟩ := List.mem_iff_getElem.1 hq
          exact g2 j (by omega) hj)
    300 n (st63x0 (.sl r 0 n) (fn60 c) (.int .i64 (n : Int)) (.int .i64 0)) A (by omega) ⟨0, by omega, rfl, Fr.refl _ _, fun j hj => by omega⟩
  refine ⟨B, hF, ?_⟩
  have hl : evLenSl (.sl r 0 n) = some (.int .i64 (n : Int)) := rfl
  unfold H63
  rw [evFun_run _ _ rfl]
  rcases h2 with ⟨i, hi, rfl, g1, g2⟩ | ⟨rfl, g1⟩
  · refine .inl ⟨i, hi, ?_, g1, g2⟩
    unfold fn60 at h1 ⊢
    simp [mf63, go63x0 h1]
  · refine .inr ⟨?_, g1⟩
    unfold fn60 at h1 ⊢
    simp [mf63, go63x0 h1]
/-! ### DeleteFunc -/
set_option maxRecDepth 100000 in
theorem round59 (fuel : Nat) {A : Arena} {c r n : Nat} {k : Int} (hc : A[c]? = some (.row 1 false [.int .i64 k])) {es : List AV} (hr : A[r]? = some (.row 3 false es)) (hcr : c ≠ r) {i j : Nat} (hi : i ≤ j) (hj : j < n) (hn : n ≤ 1000) {q : QE} (he : es[j]? = some (qA q)) :
    ∃ B, run (envOf GW fs59) fuel [.code lp59x0] (st59x0 (.sl r 0 n) (fn60 c) (.int .i64 (i : Int)) (.int .i64 (j : Int))) A = some (.normal (st59x0 (.sl r 0 n) (fn60 c) (.int .i64 (if keepQ k q = true then ((i + 1 : Nat) : Int) else (i : Int))) (.int .i64 ((j + 1 : Nat) : Int))) B) ∧
      B[r]? = some (.row 3 false (if keepQ k q = true then es.set i (qA q) else es)) ∧ Fr A B [r] := by
  have hrl := (List.getElem?_eq_some_iff.1 hr).1
  have hcl := (List.getElem?_eq_some_iff.1 hc).1
  have hjl := (List.getElem?_eq_some_iff.1 he).1
  have b1 := lt_nat j n .i64
  rw [decide_eq_true hj] at b1
  have b3 := add1_nat j (by omega)
  have b4 := add1_nat i (by omega)
  have k1 : evIndexSl 3 A (.sl r 0 n) (.int .i64 (j : Int)) = some (.ptr r j 0) := by simp [evIndexSl, hr]; omega
  have hle : loadElem (qA q) 3 0 true 3 = some (qA q) := rfl
  have ld : evLoad true 3 A (.ptr r j 0) = some (qA q) := by simp [evLoad, hr, he, hle]
  obtain ⟨A1, hA1⟩ : ∃ A1, A1 = A ++ [Ent.row 3 false [qA q]] := ⟨_, rfl⟩
  have a1 : evBox 3 (.agg [.int .i64 0, .str [], .int .i64 0]) A = some (.ptr A.length 0 0, A ++ [.row 3 false [.agg [.int .i64 0, .str [], .int .i64 0]]]) := by simp [evBox]
  have a2 : evStore 3 (A ++ [.row 3 false [.agg [.int .i64 0, .str [], .int .i64 0]]]) (.ptr A.length 0 0) (qA q) = some A1 := by
    rw [hA1]; simp [qA]
  have hA1r : A1[r]? = some (.row 3 false es) := by rw [hA1, List.getElem?_append_left hrl]; exact hr
  have hA1c : A1[c]? = some (.row 1 false [.int .i64 k]) := by rw [hA1, List.getElem?_append_left hcl]; exact hc
  have hA1n : A1[A.length]? = some (.row 3 false [qA q]) := by rw [hA1]; simp
  have ld1 : evLoad true 3 A1 (.ptr A.length 0 0) = some (qA q) := by simp [evLoad, hA1n, hle]
  have v := ev60 (fun _ _ _ => none) hA1c q
  obtain ⟨A2, hA2⟩ : ∃ A2, A2 = A1 ++ [Ent.row 3 false [qA q]] := ⟨_, rfl⟩
  rw [← hA2] at v
  have hA1l : A1.length = A.length + 1 := by rw [hA1]; simp
  have hF1 : Fr A A2 [] := by rw [hA2, hA1]; exact (Fr.app _ _ []).trans (Fr.app _ _ []) (fun j hj => by simp at hj)
  have hA2r : A2[r]? = some (.row 3 false es) := (hF1.2 r hrl (by simp)).trans hr
  have hA2n : A2[A.length]? = some (.row 3 false [qA q]) := by rw [hA2, List.getElem?_append_left (by omega)]; exact hA1n
  have ld2 : evLoad true 3 A2 (.ptr A.length 0 0) = some (qA q) := by simp [evLoad, hA2n, hle]
  have k2 : evIndexSl 3 A2 (.sl r 0 n) (.int .i64 (i : Int)) = some (.ptr r i 0) := by simp [evIndexSl, hA2r]; omega
  have hil : i < es.length := by omega
  have st : evStore 3 A2 (.ptr r i 0) (qA q) = some (A2.set r (.row 3 false (es.set i (qA q)))) := by
    simp [hA2r, List.getElem?_eq_getElem hil, qA]
  have hA2rl := (List.getElem?_eq_some_iff.1 hA2r).1
  obtain ⟨Q, hQ⟩ : ∃ Q, Q = qA q := ⟨_, rfl⟩
  rw [← hQ] at v ld ld1 ld2 a2 st ⊢
  obtain ⟨j1, hj1⟩ : ∃ j1 : Nat, j1 = j + 1 := ⟨_, rfl⟩
  obtain ⟨i1, hi1⟩ : ∃ i1 : Nat, i1 = i + 1 := ⟨_, rfl⟩
  rw [← hj1] at b3 ⊢
  rw [← hi1] at b4 ⊢
  have hlen : evLenSl (.sl r 0 n) = some (.int .i64 (n : Int)) := rfl
  cases hk : keepQ k q with
  | true =>
    rw [hk] at v
    refine ⟨A2.set r (.row 3 false (es.set i Q)), ?_, by rw [if_pos rfl, List.getElem?_set_self hA2rl], (hF1.mono fun j _ hj => by simp at hj).trans (Fr.set _ _ _) fun j hj => .inl hj⟩
    unfold fn60
    simp [lp59x0, b1, b3, b4, k1, k2, ld, ld1, ld2, a1, a2, v, st, -evBin, -evIndexSl, -evLoad, -evStore, -evBox]
  | false =>
    rw [hk] at v
    refine ⟨A2, ?_, by rw [if_neg (by simp)]; exact hA2r, hF1.mono fun j _ hj => by simp at hj⟩
    unfold fn60
    simp [lp59x0, b1, b3, b4, k1, k2, ld, ld1, ld2, a1, a2, v, st, -evBin, -evIndexSl, -evLoad, -evStore, -evBox]
end Go.Proofs.Ytfidjdlmmcaplaa
/-
  Link: acknowledged.
-/
namespace Go.Proofs.Ytfidjdlmmcaplaa
open Go

theorem filter_take_succ {α : Type} (p : α → Bool) (l : List α) {j : Nat} (hj : j < l.length) : (l.take (j + 1)).filter p = (l.take j).filter p ++ if p l[j] = true then [l[j]] else [] := by
  rw [List.take_succ_eq_append_getElem hj, List.filter_append, List.filter_cons]
  split <;> rfl
set_option maxRecDepth 100000 in
theorem loop59 {A : Arena} {c r n : Nat} {k : Int} (hc : A[c]? = some (.row 1 false [.int .i64 k])) {es : List AV} (hr : A[r]? = some (.row 3 false es)) (hcr : c ≠ r) {l : List QE} (hn : l.length = n) (hn2 : n ≤ 100) (he : es.take n = l.map qA) {i0 j0 : Nat} (hi0 : i0 ≤ j0) (hj0 : j0 ≤ n) (h0 : (l.take j0).filter (keepQ k) = l.take i0) :
    ∃ B es', iter (evC (envOf GW fs59) 300 lp59x0) mask59x0 300 (st59x0 (.sl r 0 n) (fn60 c) (.int .i64 (i0 : Int)) (.int .i64 (j0 : Int))) A = some (.exit 0 ((st59x0 (.sl r 0 n) (fn60 c) (.int .i64 ((l.filter (keepQ k)).length : Int)) (.int .i64 (n : Int))).set 7 (.bool false)) B) ∧
      B[r]? = some (.row 3 false es') ∧ es'.length = es.length ∧ es'.take (l.filter (keepQ k)).length = (l.filter (keepQ k)).map qA ∧ Fr A B [r] := by
  have hcl := (List.getElem?_eq_some_iff.1 hc).1
  have hesl : n ≤ es.length := by
    have := congrArg List.length he
    simp at this; omega
  have hat : ∀ i (hi : i < l.length), es[i]? = some (qA l[i]) := fun i hi => by
    have : (es.take n)[i]? = some (qA l[i]) := by rw [he, List.getElem?_map, List.getElem?_eq_getElem hi]; rfl
    rw [List.getElem?_take, if_pos (by omega)] at this
    exact this
  obtain ⟨o, h1, B, es', rfl, h2⟩ := iter_inv (E := envOf GW fs59) (fuel := 300) (a := lp59x0) (mask := mask59x0)
    (fun κ σ A' => ∃ i j es', j + κ = n ∧ i = ((l.take j).filter (keepQ k)).length ∧ σ = st59x0 (.sl r 0 n) (fn60 c) (.int .i64 (i : Int)) (.int .i64 (j : Int)) ∧ A'[r]? = some (.row 3 false es') ∧ es'.length = es.length ∧ es'.take i = ((l.take j).filter (keepQ k)).map qA ∧ (∀ m, j ≤ m → es'[m]? = es[m]?) ∧ Fr A A' [r])
    (fun o => ∃ B es', o = .exit 0 ((st59x0 (.sl r 0 n) (fn60 c) (.int .i64 ((l.filter (keepQ k)).length : Int)) (.int .i64 (n : Int))).set 7 (.bool false)) B ∧ B[r]? = some (.row 3 false es') ∧ es'.length = es.length ∧ es'.take (l.filter (keepQ k)).length = (l.filter (keepQ k)).map qA ∧ Fr A B [r])
    (by
      rintro κ σ A' ⟨i, j, es', hjk, hij, rfl, g1, g2, g3, g4, g5⟩
      unfold fn60
      rw [cl59x0]
      have hile : i ≤ j := by
        rw [hij]
        exact Nat.le_trans (List.length_filter_le _ _) (by simp; omega)
      by_cases hj : j < n
      · have hjl : j < l.length := by omega
        have hej : es'[j]? = some (qA l[j]) := (g4 j (Nat.le_refl _)).trans (hat j hjl)
        obtain ⟨B, c1, c2, c3⟩ := round59 300 (k := k) ((g5.2 c hcl (by simpa using hcr)).trans hc) g1 hcr hile hj (by omega) hej
        have hf := filter_take_succ (keepQ k) l hjl
        cases hk : keepQ k l[j] with
        | true =>
          rw [if_pos hk] at c1 c2 hf
          refine .inl ⟨_, B, c1, κ - 1, by omega, i + 1, j + 1, es'.set i (qA l[j]), by omega, by rw [hf, List.length_append, ← hij]; rfl, rfl, c2, by simpa using g2, ?_, fun m hm => ?_, g5.trans c3 fun j hj => .inl hj⟩
          · rw [hf, List.map_append, ← g3]
            rw [List.take_succ_eq_append_getElem (by rw [List.length_set]; omega), List.take_set_of_le (Nat.le_refl _)]
            simp
          · rw [List.getElem?_set_ne (by omega)]
            exact g4 m (by omega)
        | false =>
          rw [if_neg (by rw [hk]; simp)] at c1 c2 hf
          rw [List.append_nil] at hf
          exact .inl ⟨_, B, c1, κ - 1, by omega, i, j + 1, es', by omega, by rw [hf]; exact hij, rfl, c2, g2, by rw [hf]; exact g3, fun m hm => g4 m (by omega), g5.trans c3 fun j hj => .inl hj⟩
      · obtain rfl : j = n := by omega
        have ht : l.take j = l := List.take_of_length_le (by omega)
        rw [ht] at hij g3
        subst hij
        refine .inr ⟨.exit 0 ((st59x0 (.sl r 0 j) (fn60 c) (.int .i64 ((l.filter (keepQ k)).length : Int)) (.int .i64 (j : Int))).set 7 (.bool false)) A', ?_, (fun _ _ h => by cases h), A', es', rfl, g1, g2, g3, g5⟩
        simp [lp59x0, fn60])
    300 (n - j0) (st59x0 (.sl r 0 n) (fn60 c) (.int .i64 (i0 : Int)) (.int .i64 (j0 : Int))) A (by omega) ⟨i0, j0, es, by omega, by rw [h0]; simp; omega, rfl, hr, rfl, by
      rw [h0, List.map_take, ← he, List.take_take, show min i0 n = i0 by omega], fun m _ => rfl, Fr.refl _ _⟩
  exact ⟨B, es', h1, h2⟩
set_option maxRecDepth 100000 in
theorem ev59 (h : Handler) {A : Arena} {c r n : Nat} {k : Int} (hc : A[c]? = some (.row 1 false [.int .i64 k])) {es : List AV} (hr : A[r]? = some (.row 3 false es)) (hcr : c ≠ r) {l : List QE} (hn : l.length = n) (hn2 : n ≤ 100) (he : es.take n = l.map qA) :
    ∃ B, H59 h [.sl r 0 n, fn60 c] A = some (.sl r 0 (l.filter (keepQ k)).length, B) ∧ SlP 3 B (.sl r 0 (l.filter (keepQ k)).length) ((l.filter (keepQ k)).map qA) ∧ Fr A B [r] := by
  have hcl := (List.getElem?_eq_some_iff.1 hc).1
  have hrl := (List.getElem?_eq_some_iff.1 hr).1
  have hesl : n ≤ es.length := by
    have := congrArg List.length he
    simp at this; omega
  obtain ⟨B, hF, ⟨i, hi, v, hk, hj⟩ | ⟨v, hall⟩⟩ := ev63 (fun _ _ _ => none) hc hr hn hn2 he
  · have hpre : (l.take (i + 1)).filter (keepQ k) = l.take i := by
      rw [filter_take_succ _ _ hi, if_neg (by rw [hk]; simp), List.append_nil, List.filter_eq_self]
      intro q hq
      obtain ⟨j, hjl, rfl⟩ := List.mem_iff_getElem.1 hq
      simp only [List.length_take] at hjl
      rw [List.getElem_take]
      exact hj j (by omega)
    obtain ⟨C, es', lp, g1, g2, g3, g4⟩ := loop59 (k := k) ((hF.2 c hcl (by simp)).trans hc) ((hF.2 r hrl (by simp)).trans hr) hcr hn hn2 he (i0 := i) (j0 := i + 1) (by omega) (by omega) hpre
    have hfl : (l.filter (keepQ k)).length ≤ n := by rw [← hn]; exact List.length_filter_le _ _
    obtain ⟨m, hm⟩ : ∃ m, m = (l.filter (keepQ k)).length := ⟨_, rfl⟩
    rw [← hm] at lp g3 hfl ⊢
    have hCl := (List.getElem?_eq_some_iff.1 g1).1
    have b1 := evEql (i : Int) (-1)
    rw [decide_eq_false (by omega)] at b1
    have b2 := add1_nat i (by omega)
    have s1 : evSliceSl 3 C (some (.int .i64 (m : Int))) none (.sl r 0 n) = some (.sl r m (n - m)) := by
      simp [evSliceSl, g1, evBounds, loB, hiB]; omega
    obtain ⟨X, hX⟩ : ∃ X, X = es'.take m ++ List.replicate (n - m) (.agg [.int .i64 0, .str [], .int .i64 0]) ++ es'.drop (m + (n - m)) := ⟨_, rfl⟩
    have s2 : evClear 3 (.agg [.int .i64 0, .str [], .int .i64 0]) C (.sl r m (n - m)) = some (.tup [], C.set r (.row 3 false X)) := by
      simp only [evClear, g1]
      rw [if_pos ⟨trivial, by omega, trivial, rfl, by omega⟩, hX]
    have hD : (C.set r (.row 3 false X))[r]? = some (.row 3 false X) := List.getElem?_set_self hCl
    have s3 : evSliceSl 3 (C.set r (.row 3 false X)) none (some (.int .i64 (m : Int))) (.sl r 0 n) = some (.sl r 0 m) := by
      simp only [evSliceSl, hD]
      simp [evBounds, loB, hiB, hfl]
    refine ⟨C.set r (.row 3 false X), ?_, .inr ⟨r, X, by rw [List.length_map, ← hm], hD, ?_⟩, ?_⟩
    · obtain ⟨D, hDd⟩ : ∃ D, D = C.set r (.row 3 false X) := ⟨_, rfl⟩
      rw [← hDd] at s2 s3 ⊢
      obtain ⟨i1, hi1⟩ : ∃ i1 : Nat, i1 = i + 1 := ⟨_, rfl⟩
      rw [← hi1] at b2 lp
      obtain ⟨d, hd⟩ : ∃ d, d = n - m := ⟨_, rfl⟩
      rw [← hd] at s1 s2
      unfold H59
      rw [evFun_run _ _ rfl]
      unfold fn60 at v lp ⊢
      simp [mf59, v, b1, b2, go59x0 lp, s1, s2, s3, -evBin, -evSliceSl]
    · rw [List.length_map, ← hm, ← g3, hX, List.append_assoc]
      rw [List.take_append_of_le_length (by simp; omega), List.take_take, Nat.min_self]
    · exact (hF.mono fun j _ hj => by simp at hj).trans (g4.trans (Fr.set _ _ _) fun j hj => .inl hj) fun j hj => .inl hj
  · have hf : l.filter (keepQ k) = l := List.filter_eq_self.2 hall
    rw [hf, hn]
    refine ⟨B, ?_, .inr ⟨r, es, by rw [List.length_map, hn], (hF.2 r hrl (by simp)).trans hr, by rw [List.length_map, hn]; exact he⟩, hF.mono fun j _ hj => by simp at hj⟩
    unfold H59
    rw [evFun_run _ _ rfl]
    unfold fn60 at v ⊢
    simp [mf59, v]
theorem ev59_nil (h : Handler) (A : Arena) (c : Nat) : H59 h [.nilS, fn60 c] A = some (.nilS, A) := by
  have v : H63 (fun _ _ _ => none) [.nilS, fn60 c] A = some (.int .i64 (-1), A) := by
    unfold H63
    rw [evFun_run _ _ rfl]
    have lp : iter (evC (envOf GW fs63) 300 lp63x0) mask63x0 300 (st63x0 .nilS (fn60 c) (.int .i64 0) (.int .i64 0)) A = some (.exit 0 ((st63x0 .nilS (fn60 c) (.int .i64 0) (.int .i64 0)).set 6 (.bool false)) A) := by
      rw [iter_succ]
      unfold fn60
      rw [cl63x0]
      simp [lp63x0]
    unfold fn60 at lp ⊢
    simp [mf63, go63x0 lp]
  unfold H59
  rw [evFun_run _ _ rfl]
  unfold fn60 at v ⊢
  simp [mf59, v]
set_option maxRecDepth 100000 in
theorem ev47 (h : Handler) {A : Arena} {id : Nat} {S : EndS} {qv lv : AV} (hE : EndAt A id S qv lv) (hq : S.queue.length ≤ 100) (k : Int) :
    ∃ B qv', H47 h [.ptr id 0 0, .int .i64 k] A = some (.tup [], B) ∧ EndAt B id (ackS S k) qv' lv ∧ (∀ j, j ∈ idsOf qv' → j ∈ idsOf qv) ∧ Fr A B (own id qv lv) := by
  have hrow := hE.row
  have hid := (List.getElem?_eq_some_iff.1 hrow).1
  obtain ⟨A1, hA1⟩ : ∃ A1, A1 = A ++ [Ent.row 1 false [AV.int .i64 k]] := ⟨_, rfl⟩
  have hF1 : Fr A A1 [] := by rw [hA1]; exact Fr.app _ _ _
  have hE1 : EndAt A1 id S qv lv := hE.keep fun j hj => hF1.2 j (hE.low j hj) (by simp)
  have hrow1 := hE1.row
  have hc : A1[A.length]? = some (.row 1 false [.int .i64 k]) := by rw [hA1]; simp
  have fin : ∀ {B : Arena} {V : AV}, H59 (fun _ _ _ => none) [qv, fn60 A.length] A1 = some (V, B) → (V = .nilS ∨ ∃ r n, V = .sl r 0 n) → SlP 3 B V ((S.queue.filter (keepQ k)).map qA) → (∀ j, j ∈ idsOf V → j ∈ idsOf qv) → Fr A1 B (idsOf qv) →
      ∃ B qv', H47 h [.ptr id 0 0, .int .i64 k] A = some (.tup [], B) ∧ EndAt B id (ackS S k) qv' lv ∧ (∀ j, j ∈ idsOf qv' → j ∈ idsOf qv) ∧ Fr A B (own id qv lv) := by
    intro B V v hV hS hids hF
    have hA1l : A.length ≤ A1.length := hF1.1
    have hrowB : B[id]? = _ := (hF.2 id (by omega) hE.2.2.2.1).trans hrow1
    have hidB := (List.getElem?_eq_some_iff.1 hrowB).1
    have hiV : id ∉ idsOf V := fun h => hE.2.2.2.1 (hids _ h)
    refine ⟨B.set id (.row 10 false [.agg [.int .i64 S.epoch, .int .i64 S.peer, V, .int .i64 S.next, .int .i64 S.received, .bool S.owes, .int .i64 S.ticks, .bool S.heard, .int .i64 S.hello, lv]]), V, ?_, ?_, hids, ?_⟩
    · have b1 : evBox 1 (.int .i64 k) A = some (.ptr A.length 0 0, A1) := by rw [hA1]; simp [evBox]
      have st : evStore 1 B (.ptr id 0 2) V = some (B.set id (.row 10 false [.agg [.int .i64 S.epoch, .int .i64 S.peer, V, .int .i64 S.next, .int .i64 S.received, .bool S.owes, .int .i64 S.ticks, .bool S.heard, .int .i64 S.hello, lv]])) := by
        rcases hV with rfl | ⟨r', n', rfl⟩ <;> simp [hrowB]
      unfold H47
      rw [evFun_run _ _ rfl]
      unfold fn60 at v
      simp [mf47, b1, hrow1, hrowB, v, st, -evBox, -evStore]
    · refine hE.turn (by rw [List.getElem?_set_self hidB]; rfl) (hS.keep fun j hj => set_ne hiV hj) ?_ (fun j hj => .inl (hids j hj)) (fun j hj => .inl hj) (fun j hj => hE.2.2.2.2.2 j (hids j hj))
      exact hE1.2.2.1.keep fun j hj => (set_ne hE.2.2.2.2.1 hj).trans (hF.2 j (hE1.2.2.1.low j hj) fun hj2 => hE.2.2.2.2.2 j hj2 hj)
    · refine (hF1.mono fun j _ hj => by simp at hj).trans ((hF.mono (o2 := own id qv lv) fun j _ hj => mem_own.2 (.inr (.inl hj))).trans (Fr.set _ _ _) fun j hj => .inl ?_) fun j hj => .inl hj
      rw [List.mem_singleton] at hj
      exact mem_own.2 (.inl hj)
  rcases hE1.2.1 with ⟨e1, e2⟩ | ⟨r, es, e1, e2, e3⟩
  · have hqn : S.queue = [] := by simpa using e2
    subst e1
    exact fin (ev59_nil _ _ _) (.inl rfl) (.inl ⟨rfl, by rw [hqn]; rfl⟩) (fun j hj => hj) (Fr.refl _ _)
  · rw [List.length_map] at e1 e3
    subst e1
    have hrA : r < A.length := hE.low r (mem_own.2 (.inr (.inl (by simp [idsOf]))))
    obtain ⟨B, v, g1, g2⟩ := ev59 (fun _ _ _ => none) hc e2 (by omega) rfl hq e3
    exact fin v (.inr ⟨_, _, rfl⟩) g1 (fun j hj => by simpa [idsOf] using hj) (g2.mono fun j _ hj => by simpa [idsOf] using hj)
end Go.Proofs.Ytfidjdlmmcaplaa
/-
  Link: meet, Receive.
-/
namespace Go.Proofs.Ytfidjdlmmcaplaa
open Go

set_option maxRecDepth 100000 in
theorem round46 (fuel : Nat) {A : Arena} {id : Nat} {S : EndS} {qv lv : AV} {ls : List Bytes} (hE : EndAt A id { S with lost := ls } qv lv) (hl : ls.length ≤ 2000000) {i : Nat} (hi : i < S.queue.length) (hq : S.queue.length ≤ 1000) (v1 : AV) :
    ∃ B lv', run (envOf GW fs46) fuel [.code lp46x0] (st46x0 (.ptr id 0 0) v1 qv (.int .i64 (S.queue.length : Int)) (.int .i64 (i : Int))) A = some (.normal (st46x0 (.ptr id 0 0) v1 qv (.int .i64 (S.queue.length : Int)) (.int .i64 ((i + 1 : Nat) : Int))) B) ∧
      EndAt B id { S with lost := ls ++ [S.queue[i].body] } qv lv' ∧ (∀ j, j ∈ idsOf lv' → A.length ≤ j) ∧ Fr A B (id :: idsOf lv) := by
  have hrow : A[id]? = some (.row 10 false [.agg [.int .i64 S.epoch, .int .i64 S.peer, qv, .int .i64 S.next, .int .i64 S.received, .bool S.owes, .int .i64 S.ticks, .bool S.heard, .int .i64 S.hello, lv]]) := hE.row
  have hid := (List.getElem?_eq_some_iff.1 hrow).1
  obtain ⟨q, hqd⟩ : ∃ q, q = S.queue[i] := ⟨_, rfl⟩
  rw [← hqd]
  have hql : (S.queue.map qA).length = S.queue.length := List.length_map _
  have b1 := lt_nat i S.queue.length .i64
  rw [decide_eq_true hi] at b1
  have b3 := add1_nat i (by omega)
  obtain ⟨r, es, e1, e2, e3, e4⟩ := hE.2.1.index (i := i) (by rw [hql]; exact hi) (by omega) .i64
  rw [show (S.queue.map qA)[i]'(by rw [hql]; exact hi) = qA q by simp [hqd]] at e3
  have hle : loadElem (qA q) 3 0 true 3 = some (qA q) := rfl
  have ld : evLoad true 3 A (.ptr r i 0) = some (qA q) := by simp [evLoad, e2, e3, hle]
  obtain ⟨A1, hA1⟩ : ∃ A1, A1 = A ++ [Ent.row 3 false [qA q]] := ⟨_, rfl⟩
  have a1 : evBox 3 (.agg [.int .i64 0, .str [], .int .i64 0]) A = some (.ptr A.length 0 0, A ++ [.row 3 false [.agg [.int .i64 0, .str [], .int .i64 0]]]) := by simp [evBox]
  have a2 : evStore 3 (A ++ [.row 3 false [.agg [.int .i64 0, .str [], .int .i64 0]]]) (.ptr A.length 0 0) (qA q) = some A1 := by
    rw [hA1]; simp [qA]
  have hF1 : Fr A A1 [] := by rw [hA1]; exact Fr.app _ _ _
  have hE1 : EndAt A1 id { S with lost := ls } qv lv := hE.keep fun j hj => hF1.2 j (hE.low j hj) (by simp)
  have hrow1 : A1[id]? = some (.row 10 false [.agg [.int .i64 S.epoch, .int .i64 S.peer, qv, .int .i64 S.next, .int .i64 S.received, .bool S.owes, .int .i64 S.ticks, .bool S.heard, .int .i64 S.hello, lv]]) := hE1.row
  have hn : A1[A.length]? = some (.row 3 false [.agg [.int .i64 q.seq, .str q.body, .int .i64 q.at_]]) := by rw [hA1]; simp [qA]
  have hls : ((ls.map AV.str)).length = ls.length := List.length_map _
  obtain ⟨B, k1, k2, k3, k4, _⟩ := hE1.2.2.1.appendN (bytes := 16) (x := .fs 1 [.str q.body]) (ys := [.str q.body]) rfl (by simp) (by omega) (by omega) (by simp only [hls, List.length_cons, List.length_nil]; omega)
  have hA1l : A.length + 1 = A1.length := by rw [hA1]; simp
  have hrowB : B[id]? = some (.row 10 false [.agg [.int .i64 S.epoch, .int .i64 S.peer, qv, .int .i64 S.next, .int .i64 S.received, .bool S.owes, .int .i64 S.ticks, .bool S.heard, .int .i64 S.hello, lv]]) := (k3.2 id (by omega) hE.2.2.2.2.1).trans hrow1
  have hidB := (List.getElem?_eq_some_iff.1 hrowB).1
  have hxl : ls.map AV.str ++ [.str q.body] = (ls ++ [q.body]).map .str := by simp
  have hlen2 : (ls.map AV.str ++ [AV.str q.body]).length = ls.length + 1 := by simp
  rw [hlen2] at k1 k2
  obtain ⟨N, hN⟩ : ∃ N, N = ls.length + 1 := ⟨_, rfl⟩
  rw [← hN] at k1 k2
  have hiN : id ∉ idsOf (.sl A1.length 0 N) := by simp [idsOf]; omega
  refine ⟨B.set id (.row 10 false [.agg [.int .i64 S.epoch, .int .i64 S.peer, qv, .int .i64 S.next, .int .i64 S.received, .bool S.owes, .int .i64 S.ticks, .bool S.heard, .int .i64 S.hello, .sl A1.length 0 N]]), .sl A1.length 0 N, ?_, ?_, fun j hj => ?_, ?_⟩
  · obtain ⟨j1, hj1⟩ : ∃ j1 : Nat, j1 = i + 1 := ⟨_, rfl⟩
    rw [← hj1] at b3 ⊢
    obtain ⟨n, hnn⟩ : ∃ n, n = S.queue.length := ⟨_, rfl⟩
    rw [← hnn] at b1 ⊢
    obtain ⟨Q, hQ⟩ : ∃ Q, Q = qA q := ⟨_, rfl⟩
    rw [← hQ] at e3 hle a2
    simp [lp46x0, b1, b3, e4, e2, e3, hle, a1, a2, hrow1, hn, k1, hrowB, -evBin, -evIndexSl, -evBox, -evStore]
    simp [hrowB]
  · refine hE.turn (by rw [List.getElem?_set_self hidB]) ?_ ?_ (fun j hj => .inl hj) (fun j hj => .inr (by simp [idsOf] at hj; omega)) (fun j hj hj2 => ?_)
    · exact hE1.2.1.keep fun j hj => (set_ne hE.2.2.2.1 hj).trans (k3.2 j (by have := hE1.2.1.low j hj; omega) (hE.2.2.2.2.2 j hj))
    · rw [hxl] at k2
      exact k2.keep fun j hj => set_ne hiN hj
    · have := hE.2.1.low j hj
      simp [idsOf] at hj2; omega
  · simp [idsOf] at hj; omega
  · refine ⟨by simp; omega, fun j hj hn => ?_⟩
    rw [List.mem_cons, not_or] at hn
    rw [List.getElem?_set_ne (Ne.symm hn.1), k3.2 j (by omega) hn.2, hF1.2 j hj (by simp)]
end Go.Proofs.Ytfidjdlmmcaplaa
/-
  Link: meet, Receive.
-/
namespace Go.Proofs.Ytfidjdlmmcaplaa
open Go

theorem loop46 {A : Arena} {id : Nat} {S : EndS} {qv lv : AV} (hE : EndAt A id S qv lv) (hl : S.lost.length ≤ 1000000) (hq : S.queue.length ≤ 100) (v1 : AV) :
    ∃ B lv', iter (evC (envOf GW fs46) 300 lp46x0) mask46x0 300 (st46x0 (.ptr id 0 0) v1 qv (.int .i64 (S.queue.length : Int)) (.int .i64 0)) A = some (.exit 0 ((st46x0 (.ptr id 0 0) v1 qv (.int .i64 (S.queue.length : Int)) (.int .i64 (S.queue.length : Int))).set 8 (.bool false)) B) ∧
      EndAt B id { S with lost := S.lost ++ S.queue.map (·.body) } qv lv' ∧ (∀ j, j ∈ idsOf lv' → j ∈ idsOf lv ∨ A.length ≤ j) ∧ Fr A B (id :: idsOf lv) := by
  obtain ⟨o, h1, B, lv', rfl, h2⟩ := iter_inv (E := envOf GW fs46) (fuel := 300) (a := lp46x0) (mask := mask46x0)
    (fun κ σ A' => ∃ i lvi, i + κ = S.queue.length ∧ σ = st46x0 (.ptr id 0 0) v1 qv (.int .i64 (S.queue.length : Int)) (.int .i64 (i : Int)) ∧ EndAt A' id { S with lost := S.lost ++ (S.queue.take i).map (·.body) } qv lvi ∧ (∀ j, j ∈ idsOf lvi → j ∈ idsOf lv ∨ A.length ≤ j) ∧ Fr A A' (id :: idsOf lv))
    (fun o => ∃ B lv', o = .exit 0 ((st46x0 (.ptr id 0 0) v1 qv (.int .i64 (S.queue.length : Int)) (.int .i64 (S.queue.length : Int))).set 8 (.bool false)) B ∧ EndAt B id { S with lost := S.lost ++ S.queue.map (·.body) } qv lv' ∧ (∀ j, j ∈ idsOf lv' → j ∈ idsOf lv ∨ A.length ≤ j) ∧ Fr A B (id :: idsOf lv))
    (by
      rintro κ σ A' ⟨i, lvi, hik, rfl, g1, g2, g3⟩
      rw [cl46x0]
      by_cases hi : i < S.queue.length
      · obtain ⟨B, lv', c1, c2, c3, c4⟩ := round46 300 g1 (by simp; omega) hi (by omega) v1
        refine .inl ⟨_, B, c1, κ - 1, by omega, i + 1, lv', by omega, rfl, ?_, fun j hj => .inr (Nat.le_trans g3.1 (c3 j hj)), g3.trans c4 fun j hj => ?_⟩
        · rw [List.take_succ_eq_append_getElem hi, List.map_append, ← List.append_assoc]
          exact c2
        · rw [List.mem_cons] at hj
          rcases hj with rfl | hj
          · exact .inl (by simp)
          · exact (g2 j hj).imp (fun h => List.mem_cons_of_mem _ h) (fun h => h)
      · obtain rfl : i = S.queue.length := by omega
        rw [List.take_length] at g1
        refine .inr ⟨.exit 0 ((st46x0 (.ptr id 0 0) v1 qv (.int .i64 (S.queue.length : Int)) (.int .i64 (S.queue.length : Int))).set 8 (.bool false)) A', ?_, (fun _ _ h => by cases h), A', lvi, rfl, g1, g2, g3⟩
        simp [lp46x0])
    300 S.queue.length (st46x0 (.ptr id 0 0) v1 qv (.int .i64 (S.queue.length : Int)) (.int .i64 0)) A (by omega) ⟨0, lv, by omega, rfl, by simpa using hE, fun j hj => .inl hj, Fr.refl _ _⟩
  exact ⟨B, lv', h1, h2⟩
set_option maxRecDepth 100000 in
theorem ev46 (h : Handler) {A : Arena} {id : Nat} {S : EndS} {qv lv : AV} (hE : EndAt A id S qv lv) (hl : S.lost.length ≤ 1000000) (hq : S.queue.length ≤ 100) (p : Int) :
    ∃ B qv' lv', H46 h [.ptr id 0 0, .int .i64 p] A = some (.tup [], B) ∧ EndAt B id (meetS S p) qv' lv' ∧ (∀ j, j ∈ own id qv' lv' → j ∈ own id qv lv ∨ A.length ≤ j) ∧ Fr A B (own id qv lv) := by
  have hrow := hE.row
  have hid := (List.getElem?_eq_some_iff.1 hrow).1
  have b1 := evEql p S.peer
  have b2 := evGtr S.peer 0
  unfold meetS
  by_cases hp : p = S.peer
  · rw [if_pos hp]
    rw [decide_eq_true hp] at b1
    refine ⟨A, qv, lv, ?_, hE, fun j hj => .inl hj, Fr.refl _ _⟩
    unfold H46
    rw [evFun_run _ _ rfl]
    simp [mf46, hrow, b1, -evBin]
  rw [if_neg hp]
  rw [decide_eq_false hp] at b1
  by_cases h0 : S.peer > 0
  rotate_left
  · rw [if_neg h0]
    rw [decide_eq_false h0] at b2
    refine ⟨A.set id (.row 10 false [.agg [.int .i64 S.epoch, .int .i64 p, qv, .int .i64 S.next, .int .i64 0, .bool S.owes, .int .i64 S.ticks, .bool false, .int .i64 S.hello, lv]]), qv, lv, ?_, ?_, fun j hj => .inl hj, (Fr.set _ _ _).mono fun j _ hj => by
      rw [List.mem_singleton] at hj
      exact mem_own.2 (.inl hj)⟩
    · have hset : ∀ R, (A.set id R)[id]? = some R := fun R => List.getElem?_set_self hid
      unfold H46
      rw [evFun_run _ _ rfl]
      simp [mf46, hrow, hset, b1, b2, -evBin]
    · exact hE.turn (by rw [List.getElem?_set_self hid]) (hE.2.1.keep fun j hj => set_ne hE.2.2.2.1 hj) (hE.2.2.1.keep fun j hj => set_ne hE.2.2.2.2.1 hj) (fun j hj => .inl hj) (fun j hj => .inl hj) hE.2.2.2.2.2
  · rw [if_pos h0]
    rw [decide_eq_true h0] at b2
    obtain ⟨B, lv', lp, g1, g2, g3⟩ := loop46 hE hl hq (.int .i64 p)
    have hrowB : B[id]? = some (.row 10 false [.agg [.int .i64 S.epoch, .int .i64 S.peer, qv, .int .i64 S.next, .int .i64 S.received, .bool S.owes, .int .i64 S.ticks, .bool S.heard, .int .i64 S.hello, lv']]) := g1.row
    have hidB := (List.getElem?_eq_some_iff.1 hrowB).1
    have hset : ∀ R, (B.set id R)[id]? = some R := fun R => List.getElem?_set_self hidB
    refine ⟨B.set id (.row 10 false [.agg [.int .i64 S.epoch, .int .i64 p, .nilS, .int .i64 1, .int .i64 0, .bool S.owes, .int .i64 S.ticks, .bool false, .int .i64 S.hello, lv']]), .nilS, lv', ?_, ?_, fun j hj => ?_, ?_⟩
    · have hql := hE.2.1.len
      rw [List.length_map] at hql
      obtain ⟨n, hnn⟩ : ∃ n, n = S.queue.length := ⟨_, rfl⟩
      rw [← hnn] at hql lp
      unfold H46
      rw [evFun_run _ _ rfl]
      simp [mf46, hrow, hql, go46x0 lp, hrowB, hset, b1, b2, -evBin, -evLenSl]
    · exact g1.turn (by rw [List.getElem?_set_self hidB]) (.inl ⟨rfl, rfl⟩) (g1.2.2.1.keep fun j hj => set_ne g1.2.2.2.2.1 hj) (fun j hj => by simp [idsOf] at hj) (fun j hj => .inl hj) (fun j hj => by simp [idsOf] at hj)
    · rcases mem_own.1 hj with rfl | hj | hj
      · exact .inl (mem_own.2 (.inl rfl))
      · simp [idsOf] at hj
      · exact (g2 j hj).imp (fun h => mem_own.2 (.inr (.inr h))) (fun h => h)
    · refine (g3.mono fun j _ hj => ?_).trans (Fr.set B id _) fun j hj => .inl ?_
      · rw [List.mem_cons] at hj
        exact hj.elim (fun h => mem_own.2 (.inl h)) (fun h => mem_own.2 (.inr (.inr h)))
      · rw [List.mem_singleton] at hj
        exact mem_own.2 (.inl hj)
end Go.Proofs.Ytfidjdlmmcaplaa
/-
  Link: Receive.
-/
namespace Go.Proofs.Ytfidjdlmmcaplaa
open Go

def T23_0 : MC := .region [⟨some 2, .box (.var 1), none⟩, ⟨some 3, .mv (.cst .nilS), none⟩]
def T23_1 : MC := .seq (.region [⟨none, .mv (.var 0), none⟩, ⟨none, .eqNil 0 false (.tmp 0), none⟩, ⟨none, .mv (.tmp 1), none⟩, ⟨none, .load true 5 (.var 2), some (.tmp 2, false)⟩, ⟨none, .call (.fn 34) [.tmp 3], some (.tmp 2, false)⟩, ⟨none, .un .not (.tmp 4), some (.tmp 2, false)⟩, ⟨none, .pick (.tmp 2) (.cst (.bool true)) (.tmp 5), none⟩, ⟨none, .mv (.tmp 6), none⟩, ⟨none, .fieldAddr 1 (.var 2), some (.tmp 7, false)⟩, ⟨none, .load false 1 (.tmp 8), some (.tmp 7, false)⟩, ⟨none, .bin .neq (.tmp 9) (.cst (.int .i64 0)), some (.tmp 7, false)⟩, ⟨none, .mv (.tmp 10), some (.tmp 7, false)⟩, ⟨none, .fieldAddr 1 (.var 2), some (.tmp 11, true)⟩, ⟨none, .load false 1 (.tmp 12), some (.tmp 11, true)⟩, ⟨none, .mv (.var 0), some (.tmp 11, true)⟩, ⟨none, .nilCheck (.tmp 14), some (.tmp 11, true)⟩, ⟨none, .fieldAddr 0 (.tmp 15), some (.tmp 11, true)⟩, ⟨none, .load false 1 (.tmp 16), some (.tmp 11, true)⟩, ⟨none, .bin .neq (.tmp 13) (.tmp 17), some (.tmp 11, true)⟩, ⟨none, .pick (.tmp 11) (.tmp 18) (.cst (.bool false)), some (.tmp 7, false)⟩, ⟨none, .pick (.tmp 7) (.cst (.bool true)) (.tmp 19), none⟩, ⟨none, .mv (.tmp 20), none⟩, ⟨none, .fieldAddr 0 (.var 2), some (.tmp 21, false)⟩, ⟨none, .load false 1 (.tmp 22), some (.tmp 21, false)⟩, ⟨none, .mv (.var 0), some (.tmp 21, false)⟩, ⟨none, .nilCheck (.tmp 24), some (.tmp 21, false)⟩, ⟨none, .fieldAddr 1 (.tmp 25), some (.tmp 21, false)⟩, ⟨none, .load false 1 (.tmp 26), some (.tmp 21, false)⟩, ⟨none, .bin .lss (.tmp 23) (.tmp 27), some (.tmp 21, false)⟩, ⟨some 5, .pick (.tmp 21) (.cst (.bool true)) (.tmp 28), none⟩]) (.cond (.var 5) (.seq (.region [⟨some 3, .mv (.cst .nilS), none⟩]) .ret) .skip)
def T23_2 : MC := .region [⟨none, .mv (.var 0), none⟩, ⟨none, .fieldAddr 0 (.var 2), none⟩, ⟨none, .load false 1 (.tmp 1), none⟩, ⟨none, .call (.fn 46) [.tmp 0, .tmp 2], none⟩]
def T23_3 : MC := .region [⟨none, .mv (.var 0), none⟩, ⟨none, .mv (.var 0), none⟩, ⟨none, .nilCheck (.tmp 1), none⟩, ⟨none, .fieldAddr 5 (.tmp 2), none⟩, ⟨none, .load false 1 (.tmp 3), none⟩, ⟨none, .mv (.tmp 4), none⟩, ⟨none, .fieldAddr 1 (.var 2), some (.tmp 5, false)⟩, ⟨none, .load false 1 (.tmp 6), some (.tmp 5, false)⟩, ⟨none, .bin .eql (.tmp 7) (.cst (.int .i64 0)), some (.tmp 5, false)⟩, ⟨none, .pick (.tmp 5) (.cst (.bool true)) (.tmp 8), none⟩, ⟨none, .mv (.tmp 9), none⟩, ⟨none, .fieldAddr 2 (.var 2), some (.tmp 10, false)⟩, ⟨none, .load false 1 (.tmp 11), some (.tmp 10, false)⟩, ⟨none, .bin .gtr (.tmp 12) (.cst (.int .i64 0)), some (.tmp 10, false)⟩, ⟨none, .pick (.tmp 10) (.cst (.bool true)) (.tmp 13), none⟩, ⟨none, .nilCheck (.tmp 0), none⟩, ⟨none, .fieldAddr 5 (.tmp 15), none⟩, ⟨none, .store 1 (.tmp 16) (.tmp 14), none⟩]
def T23_4 : MC := .seq (.region [⟨none, .fieldAddr 1 (.var 2), none⟩, ⟨none, .load false 1 (.tmp 0), none⟩, ⟨some 6, .bin .eql (.tmp 1) (.cst (.int .i64 0)), none⟩]) (.cond (.var 6) (.seq (.region [⟨some 3, .mv (.cst .nilS), none⟩]) .ret) .skip)
def T23_5 : MC := .region [⟨none, .mv (.var 0), none⟩, ⟨none, .nilCheck (.tmp 0), none⟩, ⟨none, .fieldAddr 7 (.tmp 1), none⟩, ⟨none, .store 1 (.tmp 2) (.cst (.bool true)), none⟩]
def T23_6 : MC := .region [⟨none, .mv (.var 0), none⟩, ⟨none, .makeFunc (.func 47) [.tmp 0] [], none⟩, ⟨some 4, .mv (.tmp 1), none⟩]
def T23_7 : MC := .region [⟨none, .mv (.var 4), none⟩, ⟨none, .fieldAddr 3 (.var 2), none⟩, ⟨none, .load false 1 (.tmp 1), none⟩, ⟨none, .call (.tmp 0) [.tmp 2], none⟩]
def T23_8 : MC := .seq (.region [⟨none, .fieldAddr 2 (.var 2), none⟩, ⟨none, .load false 1 (.tmp 0), none⟩, ⟨none, .bin .eql (.tmp 1) (.cst (.int .i64 0)), none⟩, ⟨none, .mv (.tmp 2), none⟩, ⟨none, .fieldAddr 2 (.var 2), some (.tmp 3, false)⟩, ⟨none, .load false 1 (.tmp 4), some (.tmp 3, false)⟩, ⟨none, .mv (.var 0), some (.tmp 3, false)⟩, ⟨none, .nilCheck (.tmp 6), some (.tmp 3, false)⟩, ⟨none, .fieldAddr 4 (.tmp 7), some (.tmp 3, false)⟩, ⟨none, .load false 1 (.tmp 8), some (.tmp 3, false)⟩, ⟨none, .bin .add (.tmp 9) (.cst (.int .i64 1)), some (.tmp 3, false)⟩, ⟨none, .bin .neq (.tmp 5) (.tmp 10), some (.tmp 3, false)⟩, ⟨some 7, .pick (.tmp 3) (.cst (.bool true)) (.tmp 11), none⟩]) (.cond (.var 7) (.seq (.region [⟨some 3, .mv (.cst .nilS), none⟩]) .ret) .skip)
def T23_9 : MC := .region [⟨none, .mv (.var 0), none⟩, ⟨none, .fieldAddr 2 (.var 2), none⟩, ⟨none, .load false 1 (.tmp 1), none⟩, ⟨none, .nilCheck (.tmp 0), none⟩, ⟨none, .fieldAddr 4 (.tmp 3), none⟩, ⟨none, .store 1 (.tmp 4) (.tmp 2), none⟩]
def T23_10 : MC := .region [⟨none, .fieldAddr 4 (.var 2), none⟩, ⟨none, .load false 1 (.tmp 0), none⟩, ⟨none, .buildSlice 1 [.tmp 1], none⟩, ⟨some 3, .mv (.tmp 2), none⟩]
def T23_11 : MC := .ret
theorem T23__eq : mf23 = ⟨2, 8, .seq T23_0 (.seq T23_1 (.seq T23_2 (.seq T23_3 (.seq T23_4 (.seq T23_5 (.seq T23_6 (.seq T23_7 (.seq T23_8 (.seq T23_9 (.seq T23_10 T23_11)))))))))), [.tmp 3]⟩ := rfl
section
variable {A : Arena} {id : Nat} {S : EndS} {qv lv : AV} (hE : EndAt A id S qv lv)
include hE
set_option maxRecDepth 100000 in
set_option maxHeartbeats 1000000 in
theorem r23_1 {K : List KC} {fuel fr : Nat} {f : FrS} (hf : A[fr]? = some (.row 5 false [frA f])) (v1 d4 d5 d6 d7 : AV) :
    run (envOf GW fs23) fuel (.code T23_1 :: K) [.ptr id 0 0, v1, .ptr fr 0 0, .nilS, d4, d5, d6, d7] A =
      if takes S f then run (envOf GW fs23) fuel K [.ptr id 0 0, v1, .ptr fr 0 0, .nilS, d4, .bool false, d6, d7] A else some (.ret [.ptr id 0 0, v1, .ptr fr 0 0, .nilS, d4, .bool true, d6, d7] A) := by
  have hrow := hE.row
  have m := M34_eq f
  have b1 := evNeq f.to 0
  have b2 := evNeq f.to S.epoch
  have b3 := evLss f.fr S.peer
  unfold frA at hf m
  have hle : loadElem (.agg [.int .i64 f.fr, .int .i64 f.to, .int .i64 f.seq, .int .i64 f.ack, .str f.body]) 5 0 true 5 = some (.agg [.int .i64 f.fr, .int .i64 f.to, .int .i64 f.seq, .int .i64 f.ack, .str f.body]) := rfl
  by_cases hok : okF f
  rotate_left
  · rw [decide_eq_false hok] at m
    rw [if_neg (fun h => hok h.1)]
    simp [T23_1, hf, hle, m, -evBin]
  rw [decide_eq_true hok] at m
  by_cases h1 : f.to = 0
  · rw [decide_eq_false (fun h => h h1)] at b1
    by_cases h3 : f.fr < S.peer
    · rw [decide_eq_true h3] at b3
      rw [if_neg (fun h => by have := h.2.2; omega)]
      simp [T23_1, hf, hle, m, hrow, b1, b3, -evBin]
    · rw [decide_eq_false h3] at b3
      rw [if_pos ⟨hok, .inl h1, by omega⟩]
      simp [T23_1, hf, hle, m, hrow, b1, b3, -evBin]
  · rw [decide_eq_true h1] at b1
    by_cases h2 : f.to = S.epoch
    · rw [decide_eq_false (fun h => h h2)] at b2
      by_cases h3 : f.fr < S.peer
      · rw [decide_eq_true h3] at b3
        rw [if_neg (fun h => by have := h.2.2; omega)]
        simp [T23_1, hf, hle, m, hrow, b1, b2, b3, -evBin]
      · rw [decide_eq_false h3] at b3
        rw [if_pos ⟨hok, .inr h2, by omega⟩]
        simp [T23_1, hf, hle, m, hrow, b1, b2, b3, -evBin]
    · rw [decide_eq_true h2] at b2
      rw [if_neg (fun h => h.2.1.elim h1 h2)]
      simp [T23_1, hf, hle, m, hrow, b1, b2, -evBin]
/-- the end's note of what it owes -/
theorem r23_3 {K : List KC} {fuel fr : Nat} {f : FrS} (hf : A[fr]? = some (.row 5 false [frA f])) (v1 d3 d4 d5 d6 d7 : AV) :
    ∃ B, run (envOf GW fs23) fuel (.code T23_3 :: K) [.ptr id 0 0, v1, .ptr fr 0 0, d3, d4, d5, d6, d7] A = run (envOf GW fs23) fuel K [.ptr id 0 0, v1, .ptr fr 0 0, d3, d4, d5, d6, d7] B ∧
      EndAt B id { S with owes := S.owes || (decide (f.to = 0) || decide (f.seq > 0)) } qv lv ∧ Fr A B [id] := by
  have hrow := hE.row
  have hid := (List.getElem?_eq_some_iff.1 hrow).1
  have b1 := evEql f.to 0
  have b2 := evGtr f.seq 0
  obtain ⟨d1, hd1⟩ : ∃ d, d = decide (f.to = 0) := ⟨_, rfl⟩
  obtain ⟨d2, hd2⟩ : ∃ d, d = decide (f.seq > 0) := ⟨_, rfl⟩
  rw [← hd1] at b1 ⊢
  rw [← hd2] at b2 ⊢
  unfold frA at hf
  refine ⟨A.set id (.row 10 false [.agg [.int .i64 S.epoch, .int .i64 S.peer, qv, .int .i64 S.next, .int .i64 S.received, .bool (S.owes || (d1 || d2)), .int .i64 S.ticks, .bool S.heard, .int .i64 S.hello, lv]]), ?_, ?_, Fr.set _ _ _⟩
  · cases ho : S.owes with
    | true => simp [T23_3, hrow, hf, ho, -evBin]
    | false =>
      cases d1
      · simp [T23_3, hrow, hf, ho, b1, b2, -evBin]
      · simp [T23_3, hrow, hf, ho, b1, -evBin]
  · exact hE.turn (by rw [List.getElem?_set_self hid]) (hE.2.1.keep fun j hj => set_ne hE.2.2.2.1 hj) (hE.2.2.1.keep fun j hj => set_ne hE.2.2.2.2.1 hj) (fun j hj => .inl hj) (fun j hj => .inl hj) hE.2.2.2.2.2
omit hE in
theorem r23_4 {K : List KC} {fuel fr : Nat} {f : FrS} (hf : A[fr]? = some (.row 5 false [frA f])) (v0 v1 d4 d5 d6 d7 : AV) :
    run (envOf GW fs23) fuel (.code T23_4 :: K) [v0, v1, .ptr fr 0 0, .nilS, d4, d5, d6, d7] A =
      if f.to = 0 then some (.ret [v0, v1, .ptr fr 0 0, .nilS, d4, d5, .bool true, d7] A) else run (envOf GW fs23) fuel K [v0, v1, .ptr fr 0 0, .nilS, d4, d5, .bool false, d7] A := by
  have b1 := evEql f.to 0
  unfold frA at hf
  by_cases h : f.to = 0
  · rw [decide_eq_true h] at b1
    rw [if_pos h]
    simp [T23_4, hf, b1, -evBin]
  · rw [decide_eq_false h] at b1
    rw [if_neg h]
    simp [T23_4, hf, b1, -evBin]
theorem r23_5 {K : List KC} {fuel : Nat} (d1 d2 d3 d4 d5 d6 d7 : AV) :
    ∃ B, run (envOf GW fs23) fuel (.code T23_5 :: K) [.ptr id 0 0, d1, d2, d3, d4, d5, d6, d7] A = run (envOf GW fs23) fuel K [.ptr id 0 0, d1, d2, d3, d4, d5, d6, d7] B ∧ EndAt B id { S with heard := true } qv lv ∧ Fr A B [id] := by
  have hrow := hE.row
  have hid := (List.getElem?_eq_some_iff.1 hrow).1
  refine ⟨A.set id (.row 10 false [.agg [.int .i64 S.epoch, .int .i64 S.peer, qv, .int .i64 S.next, .int .i64 S.received, .bool S.owes, .int .i64 S.ticks, .bool true, .int .i64 S.hello, lv]]), ?_, ?_, Fr.set _ _ _⟩
  · simp [T23_5, hrow]
  · exact hE.turn (by rw [List.getElem?_set_self hid]) (hE.2.1.keep fun j hj => set_ne hE.2.2.2.1 hj) (hE.2.2.1.keep fun j hj => set_ne hE.2.2.2.2.1 hj) (fun j hj => .inl hj) (fun j hj => .inl hj) hE.2.2.2.2.2
theorem r23_8 {K : List KC} {fuel fr : Nat} {f : FrS} (hf : A[fr]? = some (.row 5 false [frA f])) (hr : -9223372036854775808 ≤ S.received + 1 ∧ S.received + 1 ≤ 9223372036854775807) (v1 d4 d5 d6 d7 : AV) :
    run (envOf GW fs23) fuel (.code T23_8 :: K) [.ptr id 0 0, v1, .ptr fr 0 0, .nilS, d4, d5, d6, d7] A =
      if f.seq = 0 ∨ f.seq ≠ S.received + 1 then some (.ret [.ptr id 0 0, v1, .ptr fr 0 0, .nilS, d4, d5, d6, .bool true] A) else run (envOf GW fs23) fuel K [.ptr id 0 0, v1, .ptr fr 0 0, .nilS, d4, d5, d6, .bool false] A := by
  have hrow := hE.row
  have b1 := evEql f.seq 0
  have b2 := evAdd hr
  have b3 := evNeq f.seq (S.received + 1)
  obtain ⟨r1, hr1⟩ : ∃ r, r = S.received + 1 := ⟨_, rfl⟩
  rw [← hr1] at b2 b3 ⊢
  unfold frA at hf
  by_cases h : f.seq = 0
  · rw [decide_eq_true h] at b1
    rw [if_pos (.inl h)]
    simp [T23_8, hf, b1, -evBin]
  · rw [decide_eq_false h] at b1
    by_cases h2 : f.seq = r1
    · rw [decide_eq_false (fun h => h h2)] at b3
      rw [if_neg (fun hh => hh.elim h (fun hh => hh h2))]
      simp [T23_8, hf, hrow, b1, b2, b3, -evBin]
    · rw [decide_eq_true h2] at b3
      rw [if_pos (.inr h2)]
      simp [T23_8, hf, hrow, b1, b2, b3, -evBin]
theorem r23_9 {K : List KC} {fuel fr : Nat} {f : FrS} (hf : A[fr]? = some (.row 5 false [frA f])) (v1 d3 d4 d5 d6 d7 : AV) :
    ∃ B, run (envOf GW fs23) fuel (.code T23_9 :: K) [.ptr id 0 0, v1, .ptr fr 0 0, d3, d4, d5, d6, d7] A = run (envOf GW fs23) fuel K [.ptr id 0 0, v1, .ptr fr 0 0, d3, d4, d5, d6, d7] B ∧ EndAt B id { S with received := f.seq } qv lv ∧ Fr A B [id] := by
  have hrow := hE.row
  have hid := (List.getElem?_eq_some_iff.1 hrow).1
  unfold frA at hf
  refine ⟨A.set id (.row 10 false [.agg [.int .i64 S.epoch, .int .i64 S.peer, qv, .int .i64 S.next, .int .i64 f.seq, .bool S.owes, .int .i64 S.ticks, .bool S.heard, .int .i64 S.hello, lv]]), ?_, ?_, Fr.set _ _ _⟩
  · simp [T23_9, hrow, hf]
  · exact hE.turn (by rw [List.getElem?_set_self hid]) (hE.2.1.keep fun j hj => set_ne hE.2.2.2.1 hj) (hE.2.2.1.keep fun j hj => set_ne hE.2.2.2.2.1 hj) (fun j hj => .inl hj) (fun j hj => .inl hj) hE.2.2.2.2.2
end
end Go.Proofs.Ytfidjdlmmcaplaa
/-
  Link: Receive, whole.
-/
namespace Go.Proofs.Ytfidjdlmmcaplaa
open Go

/-- what Receive leaves: the end, what it returns, and what stays -/
def RecAt (A B : Arena) (id : Nat) (T : EndS) (own0 : List Nat) (out : AV) (l : List Bytes) : Prop := ∃ qv' lv', EndAt B id T qv' lv' ∧ SlP 1 B out (l.map .str) ∧ (∀ j, j ∈ idsOf out → A.length ≤ j ∧ j ∉ own id qv' lv') ∧ (∀ j, j ∈ own id qv' lv' → j ∈ own0 ∨ A.length ≤ j) ∧ Fr A B own0
set_option maxRecDepth 100000 in
theorem ev23 (h : Handler) {A : Arena} {id : Nat} {S : EndS} {qv lv : AV} (hE : EndAt A id S qv lv) (hl : S.lost.length ≤ 1000000) (hq : S.queue.length ≤ 100) (hr : 0 ≤ S.received ∧ S.received ≤ 4611686018427387903) (f : FrS) :
    ∃ B out, H23 h [.ptr id 0 0, frA f] A = some (out, B) ∧ RecAt A B id (receiveS S f).1 (own id qv lv) out (receiveS S f).2 := by
  obtain ⟨A1, hA1⟩ : ∃ A1, A1 = A ++ [Ent.row 5 false [frA f]] := ⟨_, rfl⟩
  have hA1l : A1.length = A.length + 1 := by rw [hA1]; simp
  have hF1 : Fr A A1 (own id qv lv) := by rw [hA1]; exact Fr.app _ _ _
  have hf1 : A1[A.length]? = some (.row 5 false [frA f]) := by rw [hA1]; simp
  have hE1 : EndAt A1 id S qv lv := hE.keep fun j hj => by rw [hA1, List.getElem?_append_left (hE.low j hj)]
  have fsol : (frA f).solid = true ∧ (cellsOf (frA f)).length = 5 := ⟨rfl, rfl⟩
  have e0 : run (envOf GW fs23) 300 [.code (.seq T23_0 (.seq T23_1 (.seq T23_2 (.seq T23_3 (.seq T23_4 (.seq T23_5 (.seq T23_6 (.seq T23_7 (.seq T23_8 (.seq T23_9 (.seq T23_10 T23_11)))))))))))] [.ptr id 0 0, frA f, .undef, .undef, .undef, .undef, .undef, .undef] A =
      run (envOf GW fs23) 300 (.code T23_1 :: [.code (.seq T23_2 (.seq T23_3 (.seq T23_4 (.seq T23_5 (.seq T23_6 (.seq T23_7 (.seq T23_8 (.seq T23_9 (.seq T23_10 T23_11)))))))))]) [.ptr id 0 0, frA f, .ptr A.length 0 0, .nilS, .undef, .undef, .undef, .undef] A1 := by
    have b1 : evBox 5 (frA f) A = some (.ptr A.length 0 0, A1) := by rw [hA1]; simp [evBox, frA]
    rw [run_seq]
    obtain ⟨F, hF⟩ : ∃ F, F = frA f := ⟨_, rfl⟩
    have hc : (cellsOf F).length = 5 := by rw [hF]; rfl
    rw [← hF] at b1 ⊢
    simp [T23_0, hc, b1, -evBox, -cellsOf]
  have hrep : ([.ptr id 0 0, frA f] ++ List.replicate (8 - 2) .undef : List AV) = [.ptr id 0 0, frA f, .undef, .undef, .undef, .undef, .undef, .undef] := rfl
  have key : ∀ {o : Option Out} {out : AV} {B : Arena} {a b c d e g i : AV}, run (envOf GW fs23) 300 (.code T23_1 :: [.code (.seq T23_2 (.seq T23_3 (.seq T23_4 (.seq T23_5 (.seq T23_6 (.seq T23_7 (.seq T23_8 (.seq T23_9 (.seq T23_10 T23_11)))))))))]) [.ptr id 0 0, frA f, .ptr A.length 0 0, .nilS, .undef, .undef, .undef, .undef] A1 = some (.ret [a, b, c, out, d, e, g, i] B) → H23 h [.ptr id 0 0, frA f] A = some (out, B) := by
    intro o out B a b c d e g i hh
    unfold H23
    rw [evFun_run _ _ rfl, T23__eq]
    simp only
    rw [hrep, e0, hh]
    rfl
  have r1 := r23_1 hE1 (K := [.code (.seq T23_2 (.seq T23_3 (.seq T23_4 (.seq T23_5 (.seq T23_6 (.seq T23_7 (.seq T23_8 (.seq T23_9 (.seq T23_10 T23_11)))))))))]) (fuel := 300) hf1 (frA f) .undef .undef .undef .undef
  have nilOut : ∀ {B : Arena} {T : EndS} {qv' lv' : AV}, EndAt B id T qv' lv' → (∀ j, j ∈ own id qv' lv' → j ∈ own id qv lv ∨ A.length ≤ j) → Fr A B (own id qv lv) → RecAt A B id T (own id qv lv) .nilS [] := fun h1 h2 h3 => ⟨_, _, h1, .inl ⟨rfl, rfl⟩, fun j hj => by simp [idsOf] at hj, h2, h3⟩
  unfold receiveS
  by_cases ht : takes S f
  rotate_left
  · rw [if_neg ht] at r1 ⊢
    exact ⟨A1, .nilS, key (o := none) r1, nilOut hE1 (fun j hj => .inl hj) hF1⟩
  rw [if_pos ht] at r1 ⊢
  -- meet
  obtain ⟨A2, q2, l2, v2, g2, i2, F2⟩ := ev46 (fun _ _ _ => none) hE1 hl hq f.fr
  have hfr1 : A.length ∉ own id qv lv := fun hj => by have := hE.low _ hj; omega
  have hf2 : A2[A.length]? = some (.row 5 false [frA f]) := (F2.2 A.length (by omega) hfr1).trans hf1
  have hfr2 : A.length ∉ own id q2 l2 := fun hj => (i2 _ hj).elim hfr1 (fun h => by omega)
  have e2 : ∀ K, run (envOf GW fs23) 300 (.code T23_2 :: K) [.ptr id 0 0, frA f, .ptr A.length 0 0, .nilS, .undef, .bool false, .undef, .undef] A1 = run (envOf GW fs23) 300 K [.ptr id 0 0, frA f, .ptr A.length 0 0, .nilS, .undef, .bool false, .undef, .undef] A2 := fun K => by
    have hf1' := hf1
    unfold frA at hf1'
    simp [T23_2, hf1', v2]
  have hF2 : Fr A A2 (own id qv lv) := hF1.trans F2 fun j hj => .inl hj
  -- owes
  obtain ⟨A3, r3, g3, F3⟩ := r23_3 g2 (K := [.code (.seq T23_4 (.seq T23_5 (.seq T23_6 (.seq T23_7 (.seq T23_8 (.seq T23_9 (.seq T23_10 T23_11)))))))]) (fuel := 300) hf2 (frA f) .nilS .undef (.bool false) .undef .undef
  have g3' : EndAt A3 id (recS0 S f) q2 l2 := g3
  have o3 : ∀ j, j ∈ own id q2 l2 → j ∈ own id qv lv ∨ A.length ≤ j := fun j hj => (i2 j hj).imp (fun h => h) (fun h => by omega)
  have hid3 : ∀ {A B C : Arena} {q l : AV}, Fr A B (own id qv lv) → Fr B C [id] → Fr A C (own id qv lv) := fun h1 h2 => h1.trans h2 fun j hj => .inl (by rw [List.mem_singleton] at hj; exact mem_own.2 (.inl hj))
  have hF3 : Fr A A3 (own id qv lv) := hid3 (q := qv) (l := lv) hF2 F3
  have hidf : A.length ≠ id := fun e => hfr1 (mem_own.2 (.inl e))
  have hf3 : A3[A.length]? = some (.row 5 false [frA f]) := (F3.2 A.length (by have := F2.1; omega) (by simpa using hidf)).trans hf2
  have r4 := r23_4 hf3 (K := [.code (.seq T23_5 (.seq T23_6 (.seq T23_7 (.seq T23_8 (.seq T23_9 (.seq T23_10 T23_11))))))]) (fuel := 300) (.ptr id 0 0) (frA f) .undef (.bool false) .undef .undef
  have c4 : run (envOf GW fs23) 300 [.code (.seq T23_2 (.seq T23_3 (.seq T23_4 (.seq T23_5 (.seq T23_6 (.seq T23_7 (.seq T23_8 (.seq T23_9 (.seq T23_10 T23_11)))))))))] [.ptr id 0 0, frA f, .ptr A.length 0 0, .nilS, .undef, .bool false, .undef, .undef] A1 = run (envOf GW fs23) 300 (.code T23_4 :: [.code (.seq T23_5 (.seq T23_6 (.seq T23_7 (.seq T23_8 (.seq T23_9 (.seq T23_10 T23_11))))))]) [.ptr id 0 0, frA f, .ptr A.length 0 0, .nilS, .undef, .bool false, .undef, .undef] A3 := by
    rw [run_seq, e2, run_seq, r3, run_seq]
  rw [c4] at r1
  by_cases hto : f.to = 0
  · rw [if_pos hto] at r4 ⊢
    rw [r4] at r1
    exact ⟨A3, .nilS, key (o := none) r1, nilOut g3' o3 hF3⟩
  rw [if_neg hto] at r4 ⊢
  rw [r4] at r1
  -- heard
  obtain ⟨A5, r5, g5, F5⟩ := r23_5 g3' (K := [.code (.seq T23_6 (.seq T23_7 (.seq T23_8 (.seq T23_9 (.seq T23_10 T23_11)))))]) (fuel := 300) (frA f) (.ptr A.length 0 0) .nilS .undef (.bool false) (.bool false) .undef
  have hF5 : Fr A A5 (own id qv lv) := hid3 (q := qv) (l := lv) hF3 F5
  have hf5 : A5[A.length]? = some (.row 5 false [frA f]) := (F5.2 A.length (by have := hF3.1; have := F2.1; have := F3.1; omega) (by simpa using hidf)).trans hf3
  have hq5 : (recS0 S f).queue.length ≤ 100 := by
    unfold recS0 meetS
    simp only
    split
    · exact hq
    · split
      · simp
      · exact hq
  -- acknowledged
  obtain ⟨A7, q7, v7, g7, i7, F7⟩ := ev47 (fun _ _ _ => none) g5 hq5 f.ack
  have g7' : EndAt A7 id (recS1 S f) q7 l2 := g7
  have e67 : ∀ K, run (envOf GW fs23) 300 (.code (.seq T23_6 (.seq T23_7 K)) :: []) [.ptr id 0 0, frA f, .ptr A.length 0 0, .nilS, .undef, .bool false, .bool false, .undef] A5 = run (envOf GW fs23) 300 [.code K] [.ptr id 0 0, frA f, .ptr A.length 0 0, .nilS, .func (.func 47) [.ptr id 0 0] [], .bool false, .bool false, .undef] A7 := fun K => by
    have hf5' := hf5
    unfold frA at hf5'
    simp [T23_6, T23_7, hf5', v7]
  have F7' : Fr A5 A7 (own id q2 l2) := F7
  have hF7 : Fr A A7 (own id qv lv) := hF5.trans F7' o3
  have o7 : ∀ j, j ∈ own id q7 l2 → j ∈ own id qv lv ∨ A.length ≤ j := fun j hj => by
    rcases mem_own.1 hj with h | h | h
    · exact .inl (mem_own.2 (.inl h))
    · exact o3 j (mem_own.2 (.inr (.inl (i7 j h))))
    · exact o3 j (mem_own.2 (.inr (.inr h)))
  have hf7 : A7[A.length]? = some (.row 5 false [frA f]) := (F7'.2 A.length (by have := F5.1; have := F2.1; have := F3.1; omega) hfr2).trans hf5
  have hrec : (recS1 S f).received = S.received ∨ (recS1 S f).received = 0 := by
    unfold recS1 ackS recS0 meetS
    simp only
    split
    · exact .inl rfl
    · split
      · exact .inr rfl
      · exact .inr rfl
  have r8 := r23_8 g7' (K := [.code (.seq T23_9 (.seq T23_10 T23_11))]) (fuel := 300) hf7 (by omega) (frA f) (.func (.func 47) [.ptr id 0 0] []) (.bool false) (.bool false) .undef
  rw [run_seq, r5, e67, run_seq] at r1
  by_cases hs : f.seq = 0 ∨ f.seq ≠ (recS1 S f).received + 1
  · rw [if_pos hs] at r8 ⊢
    rw [r8] at r1
    exact ⟨A7, .nilS, key (o := none) r1, nilOut g7' o7 hF7⟩
  rw [if_neg hs] at r8 ⊢
  rw [r8, run_seq] at r1
  obtain ⟨A9, r9, g9, F9⟩ := r23_9 g7' (K := [.code (.seq T23_10 T23_11)]) (fuel := 300) hf7 (frA f) .nilS (.func (.func 47) [.ptr id 0 0] []) (.bool false) (.bool false) (.bool false)
  rw [r9] at r1
  have hF9 : Fr A A9 (own id qv lv) := hid3 (q := qv) (l := lv) hF7 F9
  have hf9 : A9[A.length]? = some (.row 5 false [frA f]) := (F9.2 A.length (by have := hF7.1; have := F2.1; have := F3.1; have := F5.1; have := F7.1; omega) (by simpa using hidf)).trans hf7
  have hA9 : A.length ≤ A9.length := hF9.1
  have e10 : run (envOf GW fs23) 300 [.code (.seq T23_10 T23_11)] [.ptr id 0 0, frA f, .ptr A.length 0 0, .nilS, .func (.func 47) [.ptr id 0 0] [], .bool false, .bool false, .bool false] A9 = some (.ret [.ptr id 0 0, frA f, .ptr A.length 0 0, .sl A9.length 0 1, .func (.func 47) [.ptr id 0 0] [], .bool false, .bool false, .bool false] (A9 ++ [.row 1 false [.str f.body]])) := by
    have hf9' := hf9
    unfold frA at hf9'
    obtain ⟨V, hV⟩ : ∃ V, V = frA f := ⟨_, rfl⟩
    rw [← hV]
    simp [T23_10, T23_11, hf9']
  rw [e10] at r1
  have g10 : EndAt (A9 ++ [Ent.row 1 false [.str f.body]]) id { recS1 S f with received := f.seq } q7 l2 := g9.keep fun j hj => List.getElem?_append_left (g9.low j hj)
  refine ⟨_, .sl A9.length 0 1, key (o := none) r1, q7, l2, g10, .inr ⟨A9.length, [.str f.body], rfl, by simp, rfl⟩, fun j hj => ?_, o7, hF9.trans (Fr.app _ _ []) fun j hj => by simp at hj⟩
  simp [idsOf] at hj
  subst hj
  exact ⟨hA9, fun hj => by have := g9.low _ hj; omega⟩
end Go.Proofs.Ytfidjdlmmcaplaa
/-
  Link: text; two ends that have met.
-/
namespace Go.Proofs.Ytfidjdlmmcaplaa
open Go

def dig (k : Nat) : UInt8 := UInt8.ofNat (48 + k % 10)
def txtF : Nat → Nat → Bytes → Bytes
  | 0, _, s => s
  | m + 1, k, s => if k > 0 ∨ s = [] then txtF m (k / 10) (dig k :: s) else s
/-- the body of a message with a number -/
def txt (n : Nat) : Bytes := txtF 20 n []
theorem txtF_len : ∀ (m k : Nat) (s : Bytes), (txtF m k s).length ≤ s.length + m
  | 0, _, s => Nat.le_refl _
  | m + 1, k, s => by
    unfold txtF
    split
    · have := txtF_len m (k / 10) (dig k :: s)
      simp at this; omega
    · omega
theorem txt_len (n : Nat) : (txt n).length ≤ 20 := by
  have := txtF_len 20 n []
  unfold txt
  simpa using this
noncomputable def fs17 : List (FuncId × HModel) := []
theorem sound17 : ∀ f M, lookM fs17 f = some M → FnSpecY Try.prog GW f M := lookM_nil
noncomputable def M17 : PModel := fun args => evP (envOf GW fs17) 300 mf17 5 args
theorem spec17 : PureSpec Try.prog GW 17 M17 := PureSpec.of_ev (E := envOf GW fs17) (envOf_sound sound17) rfl at17 comp17 5 fun _ _ h => ⟨300, h⟩
set_option maxRecDepth 100000 in
theorem round17 (fuel : Nat) (A : Arena) {k : Nat} (hk : k < 1000000000000000000) {s : Bytes} (hs : s.length ≤ 100) (h : k > 0 ∨ s = []) :
    ∃ B, run (envOf GW fs17) fuel [.code lp17x0] (st17x0 (.str s) (.int .i64 (k : Int))) A = some (.normal (st17x0 (.str (dig k :: s)) (.int .i64 ((k / 10 : Nat) : Int))) B) := by
  obtain ⟨z, hz⟩ : ∃ z, z = k % 10 := ⟨_, rfl⟩
  obtain ⟨q, hq⟩ : ∃ q, q = k / 10 := ⟨_, rfl⟩
  have b1 := evGtr (k : Int) 0
  have b2 := evEqlStr s []
  have b3 : evBin .rem (.int .i64 (k : Int)) (.int .i64 10) = some (.int .i64 (z : Int)) := by
    have : (k : Int).tmod 10 = (z : Int) := by rw [Int.tmod_eq_emod_of_nonneg (by omega)]; omega
    simp only [evBin]; rw [if_pos trivial, if_neg (by decide), this]
  have b4 : evBin .quo (.int .i64 (k : Int)) (.int .i64 10) = some (.int .i64 (q : Int)) := by
    have : (k : Int).tdiv 10 = (q : Int) := by rw [Int.tdiv_eq_ediv_of_nonneg (by omega)]; omega
    simp only [evBin]; rw [if_pos trivial, if_neg (by decide), this, wrapI (by unfold inI; omega)]
  have b5 := evAdd (a := 48) (b := (z : Int)) (by omega)
  have b6 : evConvInt .u8 (.int .i64 (48 + (z : Int))) = some (.int .u8 (48 + (z : Int))) := by
    simp only [evConvInt]
    rw [wrapU8 (by omega)]
  have b7 : evBuildSlice 1 [.int .u8 (48 + (z : Int))] A = some (.sl A.length 0 1, A ++ [.row 1 false [.int .u8 (48 + (z : Int))]]) := by
    simp [evBuildSlice]
  have b8 : evToStr (A ++ [.row 1 false [.int .u8 (48 + (z : Int))]]) (.sl A.length 0 1) = some (.str [dig k]) := by
    have e : (48 + (z : Int)).toNat = 48 + k % 10 := by omega
    have h1 : srcElems 1 (A ++ [.row 1 false [.int .u8 (48 + (z : Int))]]) (.sl A.length 0 1) = some [.int .u8 (48 + (z : Int))] := by simp [srcElems]
    simp only [evToStr, h1, u8s, Option.map_some, List.map_cons, List.map_nil, e, dig]
  have b9 : evBin .add (.str [dig k]) (.str s) = some (.str (dig k :: s)) := by
    simp only [evBin]
    exact if_pos (by simp; omega)
  obtain ⟨w, hw⟩ : ∃ w, w = 48 + (z : Int) := ⟨_, rfl⟩
  rw [← hw] at b5 b6 b7 b8
  obtain ⟨B, hB⟩ : ∃ B, B = A ++ [Ent.row 1 false [.int .u8 w]] := ⟨_, rfl⟩
  rw [← hB] at b7 b8
  rw [← hq]
  refine ⟨B, ?_⟩
  by_cases h0 : (k : Int) > 0
  · rw [decide_eq_true h0] at b1
    simp [lp17x0, b1, b3, b4, b5, b6, b7, b8, b9, -evBin, -evConvInt, -evBuildSlice]
  · rw [decide_eq_false h0] at b1
    rw [decide_eq_true (h.resolve_left (by omega))] at b2
    simp [lp17x0, b1, b2, b3, b4, b5, b6, b7, b8, b9, -evBin, -evConvInt, -evBuildSlice]
theorem loop17 (fuel : Nat) : ∀ (m k : Nat) (s : Bytes) (A : Arena) (n : Nat), k < 10 ^ m → m ≤ 18 → (k > 0 ∨ s = [] → 0 < m) → s.length + m ≤ 50 → m < n → ∃ B, iter (evC (envOf GW fs17) fuel lp17x0) mask17x0 n (st17x0 (.str s) (.int .i64 (k : Int))) A = some (.exit 0 ((st17x0 (.str (txtF m k s)) (.int .i64 0)).set 4 (.bool false)) B)
  | m, k, s, A, 0, _, _, _, _, h => by omega
  | m, k, s, A, n + 1, hk, hm, h0, hs, hn => by
    rw [iter_succ, cl17x0]
    by_cases hc : k > 0 ∨ s = []
    · obtain ⟨m, rfl⟩ : ∃ j, m = j + 1 := ⟨m - 1, by have := h0 hc; omega⟩
      have hk18 : k < 1000000000000000000 := Nat.lt_of_lt_of_le hk (show 10 ^ (m + 1) ≤ 10 ^ 18 from Nat.pow_le_pow_right (by omega) hm)
      obtain ⟨B, r⟩ := round17 fuel A hk18 (by omega) hc
      rw [r]
      unfold txtF
      rw [if_pos hc]
      have hk2 : k / 10 < 10 ^ m := by
        rw [Nat.pow_succ] at hk
        exact (Nat.div_lt_iff_lt_mul (by omega)).2 hk
      obtain ⟨C, r2⟩ := loop17 fuel m (k / 10) (dig k :: s) B n hk2 (by omega) (fun h => by
        rcases h with h | h
        · rcases Nat.eq_zero_or_pos m with h' | h'
          · rw [h'] at hk2; simp at hk2; omega
          · exact h'
        · cases h) (by simp; omega) (by omega)
      exact ⟨C, r2⟩
    · have hk0 : k = 0 := by omega
      subst hk0
      have hs2 : s ≠ [] := fun h => hc (.inr h)
      have b2 := evEqlStr s []
      rw [decide_eq_false hs2] at b2
      have e : txtF m 0 s = s := by
        cases m with
        | zero => rfl
        | succ m => unfold txtF; rw [if_neg hc]
      rw [e]
      refine ⟨A, ?_⟩
      have b1 := evGtr 0 0
      rw [decide_eq_false (by omega)] at b1
      simp [lp17x0, b1, b2, -evBin]
theorem txtF_more : ∀ (m k : Nat) (s : Bytes), k < 10 ^ m → (k > 0 ∨ s = [] → 0 < m) → txtF (m + 1) k s = txtF m k s
  | 0, k, s, hk, h0 => by
    unfold txtF
    rw [if_neg (fun h => by have := h0 h; omega)]
  | m + 1, k, s, hk, h0 => by
    show (if k > 0 ∨ s = [] then txtF (m + 1) (k / 10) (dig k :: s) else s) = (if k > 0 ∨ s = [] then txtF m (k / 10) (dig k :: s) else s)
    split
    · have hk2 : k / 10 < 10 ^ m := by
        rw [Nat.pow_succ] at hk
        exact (Nat.div_lt_iff_lt_mul (by omega)).2 hk
      exact txtF_more m (k / 10) (dig k :: s) hk2 (fun h => by
        rcases h with h | h
        · rcases Nat.eq_zero_or_pos m with h' | h'
          · rw [h'] at hk2; simp at hk2; omega
          · exact h'
        · cases h)
    · rfl
theorem M17_eq {n : Nat} (hn : n < 1000000000000000000) : M17 [.int .i64 (n : Int)] = some (.str (txt n)) := by
  obtain ⟨B, lp⟩ := loop17 300 18 n [] [] 300 hn (by omega) (fun _ => by omega) (by simp) (by omega)
  have e : txtF 18 n [] = txt n := by
    unfold txt
    rw [txtF_more 19 n [] (by omega) (fun _ => by omega), txtF_more 18 n [] hn (fun _ => by omega)]
  rw [e] at lp
  unfold M17
  rw [evP_run _ _ rfl]
  simp [mf17, go17x0 lp]
end Go.Proofs.Ytfidjdlmmcaplaa
/-
  Link: two ends that have met.
-/
namespace Go.Proofs.Ytfidjdlmmcaplaa
open Go

/-- a frame of what a tick returns -/
theorem frAt {A : Arena} {out : AV} {xs : List FrS} (h : SlP 5 A out (xs.map frA)) {i : Nat} (hi : i < xs.length) : ∃ r, evIndexSl 5 A out (.int .i64 (i : Int)) = some (.ptr r i 0) ∧ evLoad true 5 A (.ptr r i 0) = some (frA xs[i]) := by
  obtain ⟨r, es, h1, h2, h3, h4⟩ := h.index (i := i) (by simpa using hi) (by decide) .i64
  refine ⟨r, h4, ?_⟩
  simp only [evLoad, h2, h3]
  rw [List.getElem_map]
  rfl
theorem frLen {A : Arena} {out : AV} {xs : List FrS} (h : SlP 5 A out (xs.map frA)) : evLenSl out = some (.int .i64 (xs.length : Int)) := by
  have := h.len
  rwa [List.length_map] at this
def metS : EndS := ⟨1, 5, [], 1, 0, false, 1, true, 1, []⟩
def f15 : FrS := ⟨1, 0, 0, 0, []⟩
def f51 : FrS := ⟨5, 1, 0, 0, []⟩
def b1S : EndS := ⟨5, 1, [], 1, 0, true, 0, false, 0, []⟩
def b2S : EndS := ⟨5, 1, [], 1, 0, false, 1, false, 1, []⟩
theorem meet_a1 : tickS (newS 1) = (⟨1, 0, [], 1, 0, false, 1, false, 1, []⟩, [f15]) := by rfl
theorem meet_b1 : receiveS (newS 5) f15 = (b1S, []) := by rfl
theorem meet_b2 : tickS b1S = (b2S, [f51, ⟨5, 0, 0, 0, []⟩]) := by rfl
theorem meet_a2 : receiveS ⟨1, 0, [], 1, 0, false, 1, false, 1, []⟩ f51 = (metS, []) := by rfl
theorem own_nil (id : Nat) : own id .nilS .nilS = [id] := rfl
set_option maxRecDepth 100000 in
set_option maxHeartbeats 4000000 in
theorem ev41 (h : Handler) (A : Arena) : ∃ B b qv lv, H41 h [] A = some (.tup [.ptr A.length 0 0, .ptr b 0 0, .bool true], B) ∧ EndAt B A.length metS qv lv ∧ (∀ j, j ∈ own A.length qv lv → A.length ≤ j) ∧ Fr A B [] := by
  obtain ⟨A1, v1, g1, F1⟩ := (ev13 (fun _ _ _ => none) A 1).1 (by omega)
  have hA1 := g1.low A.length (mem_own.2 (.inl rfl))
  obtain ⟨A2, v2, g2, F2⟩ := (ev13 (fun _ _ _ => none) A1 5).1 (by omega)
  have g1b := g1.beside F2 (fun j _ => by simp)
  obtain ⟨A3, o3, v3, g3, s3, i3, F3⟩ := ev19 g1b (fun _ _ _ => none) (by unfold Bd newS; simp)
  rw [meet_a1] at g3 s3
  rw [own_nil] at F3
  have g2b := g2.beside F3 (fun j hj => by rw [own_nil] at hj; simp at hj; simp; omega)
  obtain ⟨r3, x3, l3⟩ := frAt s3 (i := 0) (by decide)
  have n3 := frLen s3
  obtain ⟨A4, o4, v4, q4, m4, g4, s4, i4, j4, F4⟩ := ev23 (fun _ _ _ => none) g2b (by simp [newS]) (by simp [newS]) (by simp [newS]) f15
  rw [meet_b1] at g4 s4
  rw [own_nil] at F4 j4
  have g3b := g3.beside F4 (fun j hj => by rw [own_nil] at hj; simp at hj; simp; omega)
  obtain ⟨A5, o5, v5, g5, s5, i5, F5⟩ := ev19 g4 (fun _ _ _ => none) (by unfold Bd b1S; simp)
  rw [meet_b2] at g5 s5
  have j4' : ∀ j, j ∈ own A1.length q4 m4 → A1.length ≤ j := fun j hj => (j4 j hj).elim (fun h => by simp at h; omega) (fun h => Nat.le_trans (Nat.le_trans F2.1 F3.1) h)
  have g5b := g3b.beside F5 (fun j hj hj2 => by rw [own_nil] at hj; simp at hj; have := j4' j hj2; omega)
  obtain ⟨r5, x5, l5⟩ := frAt s5 (i := 0) (by decide)
  have n5 := frLen s5
  obtain ⟨A6, o6, v6, q6, m6, g6, s6, i6, j6, F6⟩ := ev23 (fun _ _ _ => none) g5b (by simp) (by simp) (by simp) f51
  rw [meet_a2] at g6 s6
  rw [own_nil] at F6 j6
  have g6b := g5.beside F6 (fun j hj hj2 => by have := j4' j hj; simp at hj2; omega)
  have p6 := ev25 g6 (fun _ _ _ => none)
  have p6b := ev25 g6b (fun _ _ _ => none)
  refine ⟨A6, A1.length, q6, m6, ?_, g6, fun j hj => ?_, ?_⟩
  · have e3 : evLoad true 5 A3 (.ptr r3 0 0) = some (frA f15) := l3
    have e5 : evLoad true 5 A5 (.ptr r5 0 0) = some (frA f51) := l5
    have x3' : evIndexSl 5 A3 o3 (.int .i64 0) = some (.ptr r3 0 0) := x3
    have x5' : evIndexSl 5 A5 o5 (.int .i64 0) = some (.ptr r5 0 0) := x5
    have n3' : evLenSl o3 = some (.int .i64 1) := n3
    have n5' : evLenSl o5 = some (.int .i64 2) := n5
    have p6' : pureH 4 M25 (fun _ _ _ => none) [.ptr A.length 0 0] A6 = some (.int .i64 5, A6) := p6
    have p6b' : pureH 4 M25 (fun _ _ _ => none) [.ptr A1.length 0 0] A6 = some (.int .i64 1, A6) := p6b
    unfold H41
    rw [evFun_run _ _ rfl]
    obtain ⟨X, hX⟩ : ∃ X, X = frA f15 := ⟨_, rfl⟩
    obtain ⟨Y, hY⟩ : ∃ X, X = frA f51 := ⟨_, rfl⟩
    rw [← hX] at e3 v4
    rw [← hY] at e5 v6
    simp [mf41, v1, v2, v3, v4, v5, v6, e3, e5, x3', x5', n3', n5', p6', p6b', -evLoad, -evIndexSl, -evLenSl, -pureH]
  · refine (j6 j hj).elim (fun h => by simp at h; omega) (fun h => ?_)
    have := F1.1; have := F2.1; have := F3.1; have := F4.1; have := F5.1; omega
  · have t1 := F1.trans F2 (fun j hj => by simp at hj)
    have t2 := t1.trans F3 (fun j hj => .inr (by simp at hj; omega))
    have t3 := t2.trans F4 (fun j hj => .inr (by simp at hj; have := F1.1; omega))
    have t4 := t3.trans F5 (fun j hj => .inr (by have := j4' j hj; have := F1.1; omega))
    exact t4.trans F6 (fun j hj => .inr (by simp at hj; omega))
end Go.Proofs.Ytfidjdlmmcaplaa
/-
  Link: what is written is read, and what is read was written; strings cut short.
-/
namespace Go.Proofs.Ytfidjdlmmcaplaa
open Go

theorem enc_pos (z : Nat) : 0 < (enc z).length := by
  by_cases h : z < 128
  · rw [enc_lt h]; simp
  · rw [enc_ge h]; simp

theorem dec_of_enc (q : List UInt8) : ∀ (k z : Nat), z < 128 ^ (k + 1) → ∃ c, dec (k + 1) (enc z ++ q) = some (z, (enc z).length - 1, c) ∧ (c = 0 → (enc z).length = 1) := by
  intro k
  induction k with
  | zero =>
    intro z hz
    have hlt : z < 128 := by simpa using hz
    refine ⟨z, ?_, fun _ => by rw [enc_lt hlt]; rfl⟩
    rw [enc_lt hlt]
    have : (UInt8.ofNat z).toNat = z := by simp; omega
    simp only [List.cons_append, dec, this, if_pos hlt, List.length_cons, List.length_nil]
  | succ k ih =>
    intro z hz
    by_cases hlt : z < 128
    · refine ⟨z, ?_, fun _ => by rw [enc_lt hlt]; rfl⟩
      rw [enc_lt hlt]
      have : (UInt8.ofNat z).toNat = z := by simp; omega
      simp only [List.cons_append, dec, this, if_pos hlt, List.length_cons, List.length_nil]
    · obtain ⟨c, h1, h2⟩ := ih (z / 128) (by rw [Nat.div_lt_iff_lt_mul (by omega)]; rw [Nat.pow_succ] at hz; exact hz)
      have hb : (UInt8.ofNat (z % 128 + 128)).toNat = z % 128 + 128 := by simp; omega
      have hlen : 0 < (enc (z / 128)).length := by
        by_cases h : z / 128 < 128
        · rw [enc_lt h]; simp
        · rw [enc_ge h]; simp
      refine ⟨c, ?_, fun hc => ?_⟩
      · rw [enc_ge hlt]
        simp only [List.cons_append, dec, hb, if_neg (show ¬ z % 128 + 128 < 128 by omega), h1, Option.map_some, List.length_cons]
        congr 1
        simp only [Prod.mk.injEq, and_true]
        omega
      · exfalso
        have h3 := h2 hc
        subst hc
        have h4 := dec_bound _ _ _ _ _ h1
        have h5 : z / 128 < 128 := by
          by_cases h : z / 128 < 128
          · exact h
          · have h6 := enc_pos (z / 128 / 128)
            rw [enc_ge h, List.length_cons] at h3
            omega
        rw [enc_lt h5] at h1
        have : (UInt8.ofNat (z / 128)).toNat = z / 128 := by simp; omega
        simp only [List.cons_append, dec, this, if_pos h5, Option.some.injEq, Prod.mk.injEq] at h1
        omega

theorem unzig_zig (n : Int) : unzig (zig n) = n := by
  unfold unzig zig
  split <;> split <;> omega

/-- what was written is read -/
theorem getInt_enc (p q : List UInt8) (n : Int) (h1 : -4611686018427387903 ≤ n) (h2 : n ≤ 4611686018427387903) : getInt (p ++ enc (zig n) ++ q) p.length = .tup [.int .i64 n, .int .i64 (p.length + (enc (zig n)).length), .int .i64 0] := by
  have hz := zig_lt h1 h2
  obtain ⟨c, hd, hc⟩ := dec_of_enc q 8 (zig n) (by omega)
  unfold getInt
  rw [if_neg (by simp; omega)]
  have hdr : (p ++ enc (zig n) ++ q).drop (p.length : Int).toNat = enc (zig n) ++ q := by simp [List.append_assoc]
  have hp := enc_pos (zig n)
  rw [hdr, hd]
  simp only
  rw [unzig_zig, if_neg (by rintro (⟨h, h'⟩ | h); have := hc h; omega; omega)]
  congr 4
  omega

theorem getStr_enc (p q t : List UInt8) (ht : t.length ≤ 65536) : getStr (p ++ (enc (zig t.length) ++ t) ++ q) p.length = .tup [.str t, .int .i64 (p.length + ((enc (zig t.length)).length + t.length : Nat)), .int .i64 0] := by
  have h := getInt_enc p (t ++ q) t.length (by omega) (by omega)
  have e : p ++ (enc (zig t.length) ++ t) ++ q = p ++ enc (zig t.length) ++ (t ++ q) := by simp [List.append_assoc]
  unfold getStr
  rw [e, h]
  simp only
  rw [if_neg (by simp), if_neg (by simp; omega)]
  have hx : ((p.length : Int) + (enc (zig t.length)).length).toNat = (p ++ enc (zig t.length)).length := by simp; omega
  rw [hx, List.drop_left, Int.toNat_natCast, List.take_left]
  congr 4
  push_cast
  omega

def cutN (k : Nat) (l : List UInt8) : Nat := min l.length k
def cut (k : Nat) (l : List UInt8) : List UInt8 := l.take (cutN k l)
theorem cut_length (k : Nat) (l : List UInt8) : (cut k l).length ≤ k := by unfold cut cutN; simp; omega
theorem min_cut (k : Nat) (l : List UInt8) : evMin2 false (.int .i64 l.length) (.int .i64 (k : Int)) = some (.int .i64 (cutN k l : Int)) := by
  unfold evMin2 cutN
  simp only [Bool.false_eq_true, if_false]
  congr 2
  split <;> omega
theorem slice_take (l : List UInt8) (m : Nat) (h : m ≤ l.length) : evSliceStr none (some (.int .i64 (m : Int))) (.str l) = some (.str (l.take m)) := by
  simp [h]
theorem slice_cut (k : Nat) (l : List UInt8) : evSliceStr none (some (.int .i64 (cutN k l : Int))) (.str l) = some (.str (cut k l)) := slice_take l _ (by unfold cutN; omega)
theorem min_cut1100 (l : List UInt8) : evMin2 false (.int .i64 l.length) (.int .i64 1100) = some (.int .i64 (cutN 1100 l : Int)) := min_cut 1100 l
theorem min_cut100 (l : List UInt8) : evMin2 false (.int .i64 l.length) (.int .i64 100) = some (.int .i64 (cutN 100 l : Int)) := min_cut 100 l
theorem putInt_form (k : Int) : ∃ (a : List UInt8) (e : Int), putInt k = .tup [.str a, .int .i64 e] := by
  unfold putInt; split <;> exact ⟨_, _, rfl⟩
theorem getInt_form (l : List UInt8) (k : Int) (hl : l.length ≤ 1000000000) : ∃ a b c : Int, getInt l k = .tup [.int .i64 a, .int .i64 b, .int .i64 c] := by
  rcases getInt_cases l k hl with ⟨e, _, h⟩ | ⟨n, x, _, _, _, _, _, h⟩ <;> exact ⟨_, _, _, h⟩
theorem getStr_form (l : List UInt8) (k : Int) (hl : l.length ≤ 1000000000) : ∃ (a : List UInt8) (b c : Int), getStr l k = .tup [.str a, .int .i64 b, .int .i64 c] := by
  obtain ⟨a, b, c, h⟩ := getInt_form l k hl
  unfold getStr
  rw [h]
  simp only
  split
  · exact ⟨_, _, _, rfl⟩
  · split <;> exact ⟨_, _, _, rfl⟩
theorem putStr_form (l : List UInt8) : ∃ (a : List UInt8) (e : Int), putStr l = .tup [.str a, .int .i64 e] := by
  unfold putStr; split <;> exact ⟨_, _, rfl⟩

theorem getInt_uniq (t : List UInt8) (k : Nat) (hk : k ≤ t.length) (hl : t.length ≤ 1000000000) : getInt t k = .tup [.int .i64 0, .int .i64 0, .int .i64 10] ∨
    ∃ (n : Int) (x : Nat), -4611686018427387903 ≤ n ∧ n ≤ 4611686018427387903 ∧ k ≤ x ∧ x ≤ t.length ∧ (t.drop k).take (x - k) = enc (zig n) ∧ getInt t k = .tup [.int .i64 n, .int .i64 x, .int .i64 0] := by
  rcases getInt_cases t k hl with ⟨e, he, h⟩ | ⟨n, x, h1, h2, h3, h4, h5, h⟩
  · rcases he with rfl | rfl
    · exfalso
      unfold getInt at h
      rw [if_neg (by omega)] at h
      split at h
      · split at h <;> simp at h
      · simp at h
    · exact .inl h
  · refine .inr ⟨n, x.toNat, h1, h2, by omega, by omega, ?_, by rw [h]; congr 4; omega⟩
    unfold getInt at h
    rw [if_neg (by omega)] at h
    split at h
    · rename_i v i c hd
      split at h
      · simp at h
      · rename_i hc
        simp only [AV.tup.injEq, List.cons.injEq, AV.int.injEq, true_and, and_true] at h
        obtain ⟨e1, e2⟩ := h
        have := ((dec_enc 9 _ v i c hd).2 (fun hx => hc (.inl hx))).symm
        rw [← e1, zig_unzig]
        have e3 : x.toNat - k = i + 1 := by omega
        rw [e3]
        simpa using this
    · simp at h
theorem getStr_uniq (t : List UInt8) (k : Nat) (hl : t.length ≤ 1000000000) {n : Int} {x : Nat} (hx : x ≤ t.length) (hkx : k ≤ x) (hs : (t.drop k).take (x - k) = enc (zig n)) (hg : getInt t k = .tup [.int .i64 n, .int .i64 x, .int .i64 0]) :
    getStr t k = .tup [.str [], .int .i64 0, .int .i64 10] ∨
    ∃ (s : List UInt8) (y : Nat), s.length ≤ 65536 ∧ k ≤ y ∧ y ≤ t.length ∧ (t.drop k).take (y - k) = enc (zig s.length) ++ s ∧ getStr t k = .tup [.str s, .int .i64 y, .int .i64 0] := by
  unfold getStr
  rw [hg]
  simp only
  rw [if_neg (by simp)]
  split
  · exact .inl rfl
  · rename_i hn
    refine .inr ⟨(t.drop x).take n.toNat, x + n.toNat, by simp; omega, by omega, by omega, ?_, by simp only [Int.toNat_natCast]; congr 4; omega⟩
    have hlen : ((t.drop x).take n.toNat).length = n.toNat := by simp; omega
    rw [hlen, show ((n.toNat : Nat) : Int) = n by omega, ← hs]
    have : x + n.toNat - k = (x - k) + n.toNat := by omega
    rw [this, List.take_add, List.drop_drop, show k + (x - k) = x by omega]

theorem slice_mid (t : List UInt8) (a b : Nat) (h1 : a ≤ b) (h2 : b ≤ t.length) : evSliceStr (some (.int .i64 (a : Int))) (some (.int .i64 (b : Int))) (.str t) = some (.str ((t.drop a).take (b - a))) := by
  have h3 : ¬ b < a := by omega
  simp [h1, h2, h3]

end Go.Proofs.Ytfidjdlmmcaplaa
/-
  The functions, compiled; written by wip/gen.
-/
namespace Go.Proofs.Ytfidjdlmmcaplaa
open Go
def lp4x0 : MC := .seq (.region [⟨some 17, .bin .lss (.var 16) (.var 15), none⟩]) (.seq (.cond (.var 17) .skip (.exit 0)) (.seq (.seq (.block 1 (.seq (.region [⟨none, .indexSl 1 (.var 14) (.var 16), none⟩, ⟨none, .load false 1 (.tmp 0), none⟩, ⟨some 9, .mv (.tmp 1), none⟩]) (.seq (.region [⟨none, .mv (.var 9), none⟩, ⟨none, .call (.fn 32) [.tmp 0], none⟩, ⟨none, .mv (.tmp 1), none⟩, ⟨none, .extract (.tmp 2) 0, none⟩, ⟨none, .extract (.tmp 2) 1, none⟩, ⟨some 10, .alloc 5 (.agg [.int .i64 0, .int .i64 0, .int .i64 0, .int .i64 0, .str []]), none⟩, ⟨none, .store 5 (.var 10) (.tmp 3), none⟩, ⟨some 11, .mv (.tmp 4), none⟩]) (.seq (.region [⟨none, .mv (.var 9), none⟩, ⟨none, .call (.fn 33) [.tmp 0], none⟩, ⟨none, .mv (.tmp 1), none⟩, ⟨none, .extract (.tmp 2) 0, none⟩, ⟨none, .extract (.tmp 2) 1, none⟩, ⟨some 12, .alloc 5 (.agg [.int .i64 0, .int .i64 0, .int .i64 0, .int .i64 0, .str []]), none⟩, ⟨none, .store 5 (.var 12) (.tmp 3), none⟩, ⟨some 13, .mv (.tmp 4), none⟩]) (.seq (.region [⟨none, .load true 5 (.var 10), none⟩, ⟨none, .load true 5 (.var 12), none⟩, ⟨none, .eqAgg true [(0, 1), (1, 1), (2, 1), (3, 1), (4, 2)] (.tmp 0) (.tmp 1), none⟩, ⟨none, .mv (.tmp 2), none⟩, ⟨none, .mv (.var 11), some (.tmp 3, false)⟩, ⟨none, .mv (.var 13), some (.tmp 3, false)⟩, ⟨none, .bin .neq (.tmp 4) (.tmp 5), some (.tmp 3, false)⟩, ⟨some 18, .pick (.tmp 3) (.cst (.bool true)) (.tmp 6), none⟩]) (.cond (.var 18) (.seq (.region [⟨some 3, .mv (.cst (.bool false)), none⟩]) .ret) .skip)))))) (.kill [0, 1, 3, 9, 10, 11, 12, 13, 17, 18])) (.region [⟨none, .bin .add (.var 16) (.cst (.int .i64 1)), none⟩, ⟨some 16, .mv (.tmp 0), none⟩])))
def mf4 : MFun := ⟨2, 19, .seq (.region [⟨some 2, .box (.var 0), none⟩, ⟨some 3, .mv (.cst (.bool false)), none⟩]) (.seq (.region [⟨none, .call (.fn 12) [], none⟩, ⟨some 4, .mv (.tmp 0), none⟩]) (.seq (.region [⟨none, .fieldAddr 4 (.var 2), none⟩, ⟨none, .load false 1 (.tmp 0), none⟩, ⟨none, .fieldAddr 4 (.var 2), none⟩, ⟨none, .load false 1 (.tmp 2), none⟩, ⟨none, .lenStr (.tmp 3), none⟩, ⟨none, .minmax false (.tmp 4) [.cst (.int .i64 1100)], none⟩, ⟨none, .sliceStr (.tmp 1) none (some (.tmp 5)), none⟩, ⟨none, .fieldAddr 4 (.var 2), none⟩, ⟨none, .store 1 (.tmp 7) (.tmp 6), none⟩]) (.seq (.region [⟨none, .mv (.var 1), none⟩, ⟨none, .mv (.var 1), none⟩, ⟨none, .lenStr (.tmp 1), none⟩, ⟨none, .minmax false (.tmp 2) [.cst (.int .i64 100)], none⟩, ⟨none, .sliceStr (.tmp 0) none (some (.tmp 3)), none⟩, ⟨some 1, .mv (.tmp 4), none⟩]) (.seq (.region [⟨none, .load true 5 (.var 2), none⟩, ⟨none, .call (.fn 30) [.tmp 0], none⟩, ⟨none, .mv (.tmp 1), none⟩, ⟨none, .extract (.tmp 2) 0, none⟩, ⟨none, .extract (.tmp 2) 1, none⟩, ⟨some 5, .mv (.tmp 3), none⟩, ⟨some 6, .mv (.tmp 4), none⟩]) (.seq (.region [⟨none, .load true 5 (.var 2), none⟩, ⟨none, .call (.fn 31) [.tmp 0], none⟩, ⟨none, .mv (.tmp 1), none⟩, ⟨none, .extract (.tmp 2) 0, none⟩, ⟨none, .extract (.tmp 2) 1, none⟩, ⟨some 7, .mv (.tmp 3), none⟩, ⟨some 8, .mv (.tmp 4), none⟩]) (.seq (.seq (.region [⟨none, .mv (.var 1), none⟩, ⟨none, .mv (.var 7), none⟩, ⟨none, .mv (.var 7), none⟩, ⟨none, .mv (.var 1), none⟩, ⟨none, .bin .add (.tmp 2) (.tmp 3), none⟩, ⟨none, .mv (.var 7), none⟩, ⟨none, .mv (.var 7), none⟩, ⟨none, .lenStr (.tmp 6), none⟩, ⟨none, .bin .sub (.tmp 7) (.cst (.int .i64 1)), none⟩, ⟨none, .minmax true (.tmp 8) [.cst (.int .i64 0)], none⟩, ⟨none, .sliceStr (.tmp 5) none (some (.tmp 9)), none⟩, ⟨some 14, .buildSlice 1 [.tmp 0, .tmp 1, .tmp 4, .tmp 10], none⟩, ⟨some 15, .lenSl (.var 14), none⟩, ⟨some 16, .mv (.cst (.int .i64 0)), none⟩]) (.seq (.block 0 (.loop [0, 1, 3, 9, 10, 11, 12, 13, 17, 18] lp4x0)) (.kill [0, 1, 3, 9, 10, 11, 12, 13, 14, 15, 16, 17, 18]))) (.seq (.region [⟨none, .mv (.var 4), none⟩, ⟨none, .mv (.tmp 0), none⟩, ⟨none, .load true 5 (.var 2), some (.tmp 1, true)⟩, ⟨none, .call (.fn 34) [.tmp 2], some (.tmp 1, true)⟩, ⟨none, .load true 5 (.var 2), some (.tmp 1, true)⟩, ⟨none, .call (.fn 35) [.tmp 4], some (.tmp 1, true)⟩, ⟨none, .eqBool false (.tmp 3) (.tmp 5), some (.tmp 1, true)⟩, ⟨none, .pick (.tmp 1) (.tmp 6) (.cst (.bool false)), none⟩, ⟨none, .mv (.tmp 7), none⟩, ⟨none, .mv (.var 5), some (.tmp 8, true)⟩, ⟨none, .mv (.var 7), some (.tmp 8, true)⟩, ⟨none, .bin .eql (.tmp 9) (.tmp 10), some (.tmp 8, true)⟩, ⟨none, .pick (.tmp 8) (.tmp 11) (.cst (.bool false)), none⟩, ⟨none, .mv (.tmp 12), none⟩, ⟨none, .mv (.var 6), some (.tmp 13, true)⟩, ⟨none, .mv (.var 8), some (.tmp 13, true)⟩, ⟨none, .bin .eql (.tmp 14) (.tmp 15), some (.tmp 13, true)⟩, ⟨none, .pick (.tmp 13) (.tmp 16) (.cst (.bool false)), none⟩, ⟨some 3, .mv (.tmp 17), none⟩]) .ret))))))), [.tmp 3]⟩
def mask4x0 : List Nat := [0, 1, 3, 9, 10, 11, 12, 13, 17, 18]
abbrev st4x0 (v2 v4 v5 v6 v7 v8 v14 v15 v16 : AV) : List AV := [.undef, .undef, v2, .undef, v4, v5, v6, v7, v8, .undef, .undef, .undef, .undef, .undef, v14, v15, v16, .undef, .undef]
theorem cl4x0 {d0 d1 v2 d3 v4 v5 v6 v7 v8 d9 d10 d11 d12 d13 v14 v15 v16 d17 d18 : AV} : clear mask4x0 [d0, d1, v2, d3, v4, v5, v6, v7, v8, d9, d10, d11, d12, d13, v14, v15, v16, d17, d18] = st4x0 v2 v4 v5 v6 v7 v8 v14 v15 v16 := by simp only [mask4x0, clear, List.foldl_cons, List.foldl_nil, List.set_cons_zero, List.set_cons_succ]
theorem go4x0 {E : Env} {fuel : Nat} {A : Arena} {o : Out} {k : List KC} {d0 d1 v2 d3 v4 v5 v6 v7 v8 d9 d10 d11 d12 d13 v14 v15 v16 d17 d18 : AV} (h : iter (evC E fuel lp4x0) mask4x0 fuel (st4x0 v2 v4 v5 v6 v7 v8 v14 v15 v16) A = some o) :
    run E fuel (.code (.loop [0, 1, 3, 9, 10, 11, 12, 13, 17, 18] lp4x0) :: k) [d0, d1, v2, d3, v4, v5, v6, v7, v8, d9, d10, d11, d12, d13, v14, v15, v16, d17, d18] A = after E fuel k o := run_loopC mask4x0 _ _ (by rw [cl4x0]; exact h)
set_option maxHeartbeats 4000000 in
theorem comp4 : compFun Try.prog Try.f4 2 [0, 1, 2, 4, 5, 6, 7, 8, 9, 11, 12, 13, 14, 15, 51, 52, 53, 54, 74] [34, 35] true ([[0, 1, 3, 9, 10, 11, 12, 13, 17, 18]], [[0, 1, 3, 9, 10, 11, 12, 13, 17, 18], [0, 1, 3, 9, 10, 11, 12, 13, 14, 15, 16, 17, 18]]) = some mf4 := by kernel_rfl
theorem at4 : Try.prog.funcs[4]? = some Try.f4 := by kernel_rfl
def mf5 : MFun := ⟨2, 18, .seq (.region [⟨some 2, .box (.var 0), none⟩, ⟨some 3, .mv (.cst (.bool false)), none⟩]) (.seq (.region [⟨none, .call (.fn 12) [], none⟩, ⟨some 4, .mv (.tmp 0), none⟩]) (.seq (.region [⟨none, .fieldAddr 4 (.var 2), none⟩, ⟨none, .load false 1 (.tmp 0), none⟩, ⟨none, .fieldAddr 4 (.var 2), none⟩, ⟨none, .load false 1 (.tmp 2), none⟩, ⟨none, .lenStr (.tmp 3), none⟩, ⟨none, .minmax false (.tmp 4) [.cst (.int .i64 1100)], none⟩, ⟨none, .sliceStr (.tmp 1) none (some (.tmp 5)), none⟩, ⟨none, .fieldAddr 4 (.var 2), none⟩, ⟨none, .store 1 (.tmp 7) (.tmp 6), none⟩]) (.seq (.region [⟨none, .mv (.var 1), none⟩, ⟨none, .mv (.var 1), none⟩, ⟨none, .lenStr (.tmp 1), none⟩, ⟨none, .minmax false (.tmp 2) [.cst (.int .i64 100)], none⟩, ⟨none, .sliceStr (.tmp 0) none (some (.tmp 3)), none⟩, ⟨some 1, .mv (.tmp 4), none⟩]) (.seq (.region [⟨none, .load true 5 (.var 2), none⟩, ⟨none, .call (.fn 30) [.tmp 0], none⟩, ⟨none, .mv (.tmp 1), none⟩, ⟨none, .extract (.tmp 2) 0, none⟩, ⟨none, .extract (.tmp 2) 1, none⟩, ⟨some 5, .mv (.tmp 3), none⟩, ⟨some 6, .mv (.tmp 4), none⟩]) (.seq (.seq (.region [⟨none, .mv (.var 6), none⟩, ⟨none, .bin .eql (.tmp 0) (.cst (.int .i64 0)), none⟩, ⟨none, .load true 5 (.var 2), none⟩, ⟨none, .call (.fn 34) [.tmp 2], none⟩, ⟨none, .eqBool true (.tmp 1) (.tmp 3), none⟩, ⟨none, .mv (.tmp 4), none⟩, ⟨none, .mv (.var 6), some (.tmp 5, false)⟩, ⟨none, .bin .neq (.tmp 6) (.cst (.int .i64 0)), some (.tmp 5, false)⟩, ⟨none, .mv (.tmp 7), some (.tmp 5, false)⟩, ⟨none, .mv (.var 6), some (.tmp 8, true)⟩, ⟨none, .bin .neq (.tmp 9) (.cst (.int .i64 260)), some (.tmp 8, true)⟩, ⟨none, .mv (.tmp 10), some (.tmp 8, true)⟩, ⟨none, .mv (.var 5), some (.tmp 11, false)⟩, ⟨none, .bin .neq (.tmp 12) (.cst (.str [])), some (.tmp 11, false)⟩, ⟨none, .pick (.tmp 11) (.cst (.bool true)) (.tmp 13), some (.tmp 8, true)⟩, ⟨none, .pick (.tmp 8) (.tmp 14) (.cst (.bool false)), some (.tmp 5, false)⟩, ⟨some 14, .pick (.tmp 5) (.cst (.bool true)) (.tmp 15), none⟩]) (.cond (.var 14) (.seq (.region [⟨some 3, .mv (.cst (.bool false)), none⟩]) .ret) .skip)) (.seq (.seq (.region [⟨none, .mv (.var 6), none⟩, ⟨some 15, .bin .eql (.tmp 0) (.cst (.int .i64 0)), none⟩]) (.cond (.var 15) (.seq (.region [⟨none, .mv (.var 5), none⟩, ⟨none, .call (.fn 32) [.tmp 0], none⟩, ⟨none, .mv (.tmp 1), none⟩, ⟨none, .extract (.tmp 2) 0, none⟩, ⟨none, .extract (.tmp 2) 1, none⟩, ⟨some 7, .alloc 5 (.agg [.int .i64 0, .int .i64 0, .int .i64 0, .int .i64 0, .str []]), none⟩, ⟨none, .store 5 (.var 7) (.tmp 3), none⟩, ⟨some 8, .mv (.tmp 4), none⟩]) (.seq (.region [⟨none, .mv (.var 5), none⟩, ⟨none, .bin .add (.tmp 0) (.cst (.str [0])), none⟩, ⟨none, .call (.fn 32) [.tmp 1], none⟩, ⟨none, .mv (.tmp 2), none⟩, ⟨none, .extract (.tmp 3) 0, none⟩, ⟨none, .extract (.tmp 3) 1, none⟩, ⟨none, .alloc 5 (.agg [.int .i64 0, .int .i64 0, .int .i64 0, .int .i64 0, .str []]), none⟩, ⟨none, .store 5 (.tmp 6) (.tmp 4), none⟩, ⟨some 9, .mv (.tmp 5), none⟩]) (.seq (.region [⟨none, .mv (.var 8), none⟩, ⟨none, .bin .neq (.tmp 0) (.cst (.int .i64 0)), none⟩, ⟨none, .mv (.tmp 1), none⟩, ⟨none, .load true 5 (.var 7), some (.tmp 2, false)⟩, ⟨none, .load true 5 (.var 2), some (.tmp 2, false)⟩, ⟨none, .eqAgg true [(0, 1), (1, 1), (2, 1), (3, 1), (4, 2)] (.tmp 3) (.tmp 4), some (.tmp 2, false)⟩, ⟨none, .pick (.tmp 2) (.cst (.bool true)) (.tmp 5), none⟩, ⟨none, .mv (.tmp 6), none⟩, ⟨none, .mv (.var 9), some (.tmp 7, false)⟩, ⟨none, .bin .neq (.tmp 8) (.cst (.int .i64 10)), some (.tmp 7, false)⟩, ⟨some 16, .pick (.tmp 7) (.cst (.bool true)) (.tmp 9), none⟩]) (.cond (.var 16) (.seq (.region [⟨some 3, .mv (.cst (.bool false)), none⟩]) .ret) .skip)))) .skip)) (.seq (.region [⟨none, .mv (.var 1), none⟩, ⟨none, .call (.fn 32) [.tmp 0], none⟩, ⟨none, .mv (.tmp 1), none⟩, ⟨none, .extract (.tmp 2) 0, none⟩, ⟨none, .extract (.tmp 2) 1, none⟩, ⟨some 10, .alloc 5 (.agg [.int .i64 0, .int .i64 0, .int .i64 0, .int .i64 0, .str []]), none⟩, ⟨none, .store 5 (.var 10) (.tmp 3), none⟩, ⟨some 11, .mv (.tmp 4), none⟩]) (.seq (.seq (.region [⟨none, .mv (.var 11), none⟩, ⟨some 17, .bin .neq (.tmp 0) (.cst (.int .i64 0)), none⟩]) (.cond (.var 17) (.seq (.region [⟨none, .mv (.var 4), none⟩, ⟨none, .mv (.tmp 0), none⟩, ⟨none, .load true 5 (.var 10), some (.tmp 1, true)⟩, ⟨none, .build [.int .i64 0, .int .i64 0, .int .i64 0, .int .i64 0, .str []] [], some (.tmp 1, true)⟩, ⟨none, .eqAgg false [(0, 1), (1, 1), (2, 1), (3, 1), (4, 2)] (.tmp 2) (.tmp 3), some (.tmp 1, true)⟩, ⟨none, .pick (.tmp 1) (.tmp 4) (.cst (.bool false)), none⟩, ⟨some 3, .mv (.tmp 5), none⟩]) .ret) .skip)) (.seq (.region [⟨none, .load true 5 (.var 10), none⟩, ⟨none, .call (.fn 30) [.tmp 0], none⟩, ⟨none, .mv (.tmp 1), none⟩, ⟨none, .extract (.tmp 2) 0, none⟩, ⟨none, .extract (.tmp 2) 1, none⟩, ⟨some 12, .mv (.tmp 3), none⟩, ⟨some 13, .mv (.tmp 4), none⟩]) (.seq (.region [⟨none, .mv (.var 4), none⟩, ⟨none, .mv (.tmp 0), none⟩, ⟨none, .mv (.var 13), some (.tmp 1, true)⟩, ⟨none, .bin .eql (.tmp 2) (.cst (.int .i64 0)), some (.tmp 1, true)⟩, ⟨none, .pick (.tmp 1) (.tmp 3) (.cst (.bool false)), none⟩, ⟨none, .mv (.tmp 4), none⟩, ⟨none, .mv (.var 12), some (.tmp 5, true)⟩, ⟨none, .mv (.var 1), some (.tmp 5, true)⟩, ⟨none, .bin .eql (.tmp 6) (.tmp 7), some (.tmp 5, true)⟩, ⟨none, .pick (.tmp 5) (.tmp 8) (.cst (.bool false)), none⟩, ⟨some 3, .mv (.tmp 9), none⟩]) .ret)))))))))), [.tmp 3]⟩
set_option maxHeartbeats 4000000 in
theorem comp5 : compFun Try.prog Try.f5 2 [0, 1, 2, 4, 5, 6, 7, 8, 9, 11, 12, 13, 14, 15, 51, 53, 75, 82] [] true ([], []) = some mf5 := by kernel_rfl
theorem at5 : Try.prog.funcs[5]? = some Try.f5 := by kernel_rfl
def lp6x0 : MC := .seq (.seq (.region [⟨none, .mv (.var 7), none⟩, ⟨none, .mv (.var 3), none⟩, ⟨none, .nilCheck (.tmp 1), none⟩, ⟨none, .fieldAddr 3 (.tmp 2), none⟩, ⟨none, .load false 1 (.tmp 3), none⟩, ⟨none, .lenSl (.tmp 4), none⟩, ⟨some 11, .bin .lss (.tmp 0) (.tmp 5), none⟩]) (.cond (.var 11) .skip (.exit 4))) (.seq (.seq (.block 5 (.seq (.region [⟨none, .mv (.var 3), none⟩, ⟨none, .nilCheck (.tmp 0), none⟩, ⟨none, .fieldAddr 3 (.tmp 1), none⟩, ⟨none, .load false 1 (.tmp 2), none⟩, ⟨none, .mv (.var 7), none⟩, ⟨none, .indexSl 1 (.tmp 3) (.tmp 4), none⟩, ⟨none, .load false 1 (.tmp 5), none⟩, ⟨none, .mv (.var 5), none⟩, ⟨none, .bin .eql (.tmp 6) (.tmp 7), none⟩, ⟨none, .mv (.tmp 8), none⟩, ⟨none, .mv (.var 3), some (.tmp 9, true)⟩, ⟨none, .nilCheck (.tmp 10), some (.tmp 9, true)⟩, ⟨none, .fieldAddr 4 (.tmp 11), some (.tmp 9, true)⟩, ⟨none, .load false 1 (.tmp 12), some (.tmp 9, true)⟩, ⟨none, .mv (.var 7), some (.tmp 9, true)⟩, ⟨none, .indexSl 1 (.tmp 13) (.tmp 14), some (.tmp 9, true)⟩, ⟨none, .load false 1 (.tmp 15), some (.tmp 9, true)⟩, ⟨none, .mv (.var 3), some (.tmp 9, true)⟩, ⟨none, .mv (.var 5), some (.tmp 9, true)⟩, ⟨none, .nilCheck (.tmp 17), some (.tmp 9, true)⟩, ⟨none, .fieldAddr 0 (.tmp 19), some (.tmp 9, true)⟩, ⟨none, .indexArr 2 1 (.tmp 20) (.tmp 18), some (.tmp 9, true)⟩, ⟨none, .load false 1 (.tmp 21), some (.tmp 9, true)⟩, ⟨none, .call (.fn 26) [.tmp 22], some (.tmp 9, true)⟩, ⟨none, .bin .eql (.tmp 16) (.tmp 23), some (.tmp 9, true)⟩, ⟨none, .pick (.tmp 9) (.tmp 24) (.cst (.bool false)), none⟩, ⟨none, .mv (.tmp 25), none⟩, ⟨none, .mv (.var 3), some (.tmp 26, true)⟩, ⟨none, .nilCheck (.tmp 27), some (.tmp 26, true)⟩, ⟨none, .fieldAddr 6 (.tmp 28), some (.tmp 26, true)⟩, ⟨none, .load false 1 (.tmp 29), some (.tmp 26, true)⟩, ⟨none, .mv (.var 7), some (.tmp 26, true)⟩, ⟨none, .indexSl 1 (.tmp 30) (.tmp 31), some (.tmp 26, true)⟩, ⟨none, .load false 1 (.tmp 32), some (.tmp 26, true)⟩, ⟨none, .bin .eql (.tmp 33) (.cst (.int .i64 0)), some (.tmp 26, true)⟩, ⟨none, .pick (.tmp 26) (.tmp 34) (.cst (.bool false)), none⟩, ⟨none, .mv (.tmp 35), none⟩, ⟨none, .mv (.var 3), some (.tmp 36, true)⟩, ⟨none, .nilCheck (.tmp 37), some (.tmp 36, true)⟩, ⟨none, .fieldAddr 7 (.tmp 38), some (.tmp 36, true)⟩, ⟨none, .load false 1 (.tmp 39), some (.tmp 36, true)⟩, ⟨none, .mv (.var 7), some (.tmp 36, true)⟩, ⟨none, .indexSl 1 (.tmp 40) (.tmp 41), some (.tmp 36, true)⟩, ⟨none, .load false 1 (.tmp 42), some (.tmp 36, true)⟩, ⟨none, .un .not (.tmp 43), some (.tmp 36, true)⟩, ⟨some 12, .pick (.tmp 36) (.tmp 44) (.cst (.bool false)), none⟩]) (.cond (.var 12) (.region [⟨none, .mv (.var 6), none⟩, ⟨none, .bin .add (.tmp 0) (.cst (.int .i64 1)), none⟩, ⟨some 6, .mv (.tmp 1), none⟩]) .skip))) (.kill [1, 8, 9, 10, 11, 12, 13])) (.region [⟨none, .mv (.var 7), none⟩, ⟨none, .bin .add (.tmp 0) (.cst (.int .i64 1)), none⟩, ⟨some 7, .mv (.tmp 1), none⟩]))
def lp6x1 : MC := .seq (.seq (.region [⟨none, .mv (.var 5), none⟩, ⟨some 10, .bin .lss (.tmp 0) (.cst (.int .i64 2)), none⟩]) (.cond (.var 10) .skip (.exit 2))) (.seq (.seq (.block 3 (.seq (.region [⟨some 6, .mv (.cst (.int .i64 0)), none⟩]) (.seq (.seq (.region [⟨some 7, .mv (.cst (.int .i64 1)), none⟩]) (.seq (.block 4 (.loop [1, 8, 9, 10, 11, 12, 13] lp6x0)) (.kill [1, 7, 8, 9, 10, 11, 12, 13]))) (.seq (.region [⟨none, .mv (.var 6), none⟩, ⟨none, .mv (.var 3), none⟩, ⟨none, .mv (.var 5), none⟩, ⟨none, .nilCheck (.tmp 1), none⟩, ⟨none, .fieldAddr 0 (.tmp 3), none⟩, ⟨none, .indexArr 2 1 (.tmp 4) (.tmp 2), none⟩, ⟨none, .load false 1 (.tmp 5), none⟩, ⟨none, .call (.fn 27) [.tmp 6], none⟩, ⟨some 13, .bin .gtr (.tmp 0) (.tmp 7), none⟩]) (.cond (.var 13) (.seq (.region [⟨some 1, .mv (.cst (.bool false)), none⟩]) .ret) .skip))))) (.kill [1, 6, 7, 8, 9, 10, 11, 12, 13])) (.region [⟨none, .mv (.var 5), none⟩, ⟨none, .bin .add (.tmp 0) (.cst (.int .i64 1)), none⟩, ⟨some 5, .mv (.tmp 1), none⟩]))
def lp6x2 : MC := .seq (.seq (.region [⟨none, .mv (.var 4), none⟩, ⟨none, .mv (.var 0), none⟩, ⟨none, .lenSl (.tmp 1), none⟩, ⟨none, .bin .lss (.tmp 0) (.tmp 2), none⟩, ⟨none, .mv (.tmp 3), none⟩, ⟨none, .mv (.var 4), some (.tmp 4, true)⟩, ⟨none, .bin .lss (.tmp 5) (.cst (.int .i64 120)), some (.tmp 4, true)⟩, ⟨none, .pick (.tmp 4) (.tmp 6) (.cst (.bool false)), none⟩, ⟨none, .mv (.tmp 7), none⟩, ⟨none, .mv (.var 3), some (.tmp 8, true)⟩, ⟨none, .nilCheck (.tmp 9), some (.tmp 8, true)⟩, ⟨none, .fieldAddr 10 (.tmp 10), some (.tmp 8, true)⟩, ⟨none, .load false 1 (.tmp 11), some (.tmp 8, true)⟩, ⟨some 8, .pick (.tmp 8) (.tmp 12) (.cst (.bool false)), none⟩]) (.cond (.var 8) .skip (.exit 0))) (.seq (.seq (.block 1 (.seq (.region [⟨none, .mv (.var 3), none⟩, ⟨none, .mv (.var 0), none⟩, ⟨none, .mv (.var 4), none⟩, ⟨none, .indexSl 3 (.tmp 1) (.tmp 2), none⟩, ⟨none, .load true 3 (.tmp 3), none⟩, ⟨none, .call (.fn 37) [.tmp 0, .tmp 4], none⟩]) (.seq (.seq (.region [⟨none, .mv (.var 3), none⟩, ⟨none, .nilCheck (.tmp 0), none⟩, ⟨none, .fieldAddr 10 (.tmp 1), none⟩, ⟨none, .load false 1 (.tmp 2), none⟩, ⟨some 9, .un .not (.tmp 3), none⟩]) (.cond (.var 9) (.seq (.region [⟨some 1, .mv (.cst (.bool false)), none⟩]) .ret) .skip)) (.seq (.region [⟨some 5, .mv (.cst (.int .i64 0)), none⟩]) (.seq (.block 2 (.loop [1, 6, 7, 8, 9, 10, 11, 12, 13] lp6x1)) (.kill [1, 5, 6, 7, 8, 9, 10, 11, 12, 13])))))) (.kill [1, 5, 6, 7, 8, 9, 10, 11, 12, 13])) (.region [⟨none, .mv (.var 4), none⟩, ⟨none, .bin .add (.tmp 0) (.cst (.int .i64 1)), none⟩, ⟨some 4, .mv (.tmp 1), none⟩]))
def mf6 : MFun := ⟨1, 14, .seq (.region [⟨some 1, .mv (.cst (.bool false)), none⟩]) (.seq (.region [⟨none, .call (.fn 12) [], none⟩, ⟨some 2, .mv (.tmp 0), none⟩]) (.seq (.region [⟨none, .call (.fn 36) [], none⟩, ⟨some 3, .mv (.tmp 0), none⟩]) (.seq (.seq (.region [⟨some 4, .mv (.cst (.int .i64 0)), none⟩]) (.seq (.block 0 (.loop [1, 5, 6, 7, 8, 9, 10, 11, 12, 13] lp6x2)) (.kill [0, 1, 4, 5, 6, 7, 8, 9, 10, 11, 12, 13]))) (.seq (.region [⟨none, .mv (.var 2), none⟩, ⟨none, .mv (.tmp 0), none⟩, ⟨none, .mv (.var 3), some (.tmp 1, true)⟩, ⟨none, .nilCheck (.tmp 2), some (.tmp 1, true)⟩, ⟨none, .fieldAddr 10 (.tmp 3), some (.tmp 1, true)⟩, ⟨none, .load false 1 (.tmp 4), some (.tmp 1, true)⟩, ⟨none, .pick (.tmp 1) (.tmp 5) (.cst (.bool false)), none⟩, ⟨some 1, .mv (.tmp 6), none⟩]) .ret)))), [.tmp 1]⟩
def mask6x0 : List Nat := [1, 8, 9, 10, 11, 12, 13]
abbrev st6x0 (v0 v2 v3 v4 v5 v6 v7 : AV) : List AV := [v0, .undef, v2, v3, v4, v5, v6, v7, .undef, .undef, .undef, .undef, .undef, .undef]
theorem cl6x0 {v0 d1 v2 v3 v4 v5 v6 v7 d8 d9 d10 d11 d12 d13 : AV} : clear mask6x0 [v0, d1, v2, v3, v4, v5, v6, v7, d8, d9, d10, d11, d12, d13] = st6x0 v0 v2 v3 v4 v5 v6 v7 := by simp only [mask6x0, clear, List.foldl_cons, List.foldl_nil, List.set_cons_zero, List.set_cons_succ]
theorem go6x0 {E : Env} {fuel : Nat} {A : Arena} {o : Out} {k : List KC} {v0 d1 v2 v3 v4 v5 v6 v7 d8 d9 d10 d11 d12 d13 : AV} (h : iter (evC E fuel lp6x0) mask6x0 fuel (st6x0 v0 v2 v3 v4 v5 v6 v7) A = some o) :
    run E fuel (.code (.loop [1, 8, 9, 10, 11, 12, 13] lp6x0) :: k) [v0, d1, v2, v3, v4, v5, v6, v7, d8, d9, d10, d11, d12, d13] A = after E fuel k o := run_loopC mask6x0 _ _ (by rw [cl6x0]; exact h)
def mask6x1 : List Nat := [1, 6, 7, 8, 9, 10, 11, 12, 13]
abbrev st6x1 (v0 v2 v3 v4 v5 : AV) : List AV := [v0, .undef, v2, v3, v4, v5, .undef, .undef, .undef, .undef, .undef, .undef, .undef, .undef]
theorem cl6x1 {v0 d1 v2 v3 v4 v5 d6 d7 d8 d9 d10 d11 d12 d13 : AV} : clear mask6x1 [v0, d1, v2, v3, v4, v5, d6, d7, d8, d9, d10, d11, d12, d13] = st6x1 v0 v2 v3 v4 v5 := by simp only [mask6x1, clear, List.foldl_cons, List.foldl_nil, List.set_cons_zero, List.set_cons_succ]
theorem go6x1 {E : Env} {fuel : Nat} {A : Arena} {o : Out} {k : List KC} {v0 d1 v2 v3 v4 v5 d6 d7 d8 d9 d10 d11 d12 d13 : AV} (h : iter (evC E fuel lp6x1) mask6x1 fuel (st6x1 v0 v2 v3 v4 v5) A = some o) :
    run E fuel (.code (.loop [1, 6, 7, 8, 9, 10, 11, 12, 13] lp6x1) :: k) [v0, d1, v2, v3, v4, v5, d6, d7, d8, d9, d10, d11, d12, d13] A = after E fuel k o := run_loopC mask6x1 _ _ (by rw [cl6x1]; exact h)
def mask6x2 : List Nat := [1, 5, 6, 7, 8, 9, 10, 11, 12, 13]
abbrev st6x2 (v0 v2 v3 v4 : AV) : List AV := [v0, .undef, v2, v3, v4, .undef, .undef, .undef, .undef, .undef, .undef, .undef, .undef, .undef]
theorem cl6x2 {v0 d1 v2 v3 v4 d5 d6 d7 d8 d9 d10 d11 d12 d13 : AV} : clear mask6x2 [v0, d1, v2, v3, v4, d5, d6, d7, d8, d9, d10, d11, d12, d13] = st6x2 v0 v2 v3 v4 := by simp only [mask6x2, clear, List.foldl_cons, List.foldl_nil, List.set_cons_zero, List.set_cons_succ]
theorem go6x2 {E : Env} {fuel : Nat} {A : Arena} {o : Out} {k : List KC} {v0 d1 v2 v3 v4 d5 d6 d7 d8 d9 d10 d11 d12 d13 : AV} (h : iter (evC E fuel lp6x2) mask6x2 fuel (st6x2 v0 v2 v3 v4) A = some o) :
    run E fuel (.code (.loop [1, 5, 6, 7, 8, 9, 10, 11, 12, 13] lp6x2) :: k) [v0, d1, v2, v3, v4, d5, d6, d7, d8, d9, d10, d11, d12, d13] A = after E fuel k o := run_loopC mask6x2 _ _ (by rw [cl6x2]; exact h)
set_option maxHeartbeats 4000000 in
theorem comp6 : compFun Try.prog Try.f6 1 [0, 2, 3, 4, 5, 6, 7, 8, 24, 37, 39, 48, 96, 107] [26] true ([[1, 5, 6, 7, 8, 9, 10, 11, 12, 13], [1, 6, 7, 8, 9, 10, 11, 12, 13], [1, 8, 9, 10, 11, 12, 13]], [[1, 8, 9, 10, 11, 12, 13], [1, 7, 8, 9, 10, 11, 12, 13], [1, 6, 7, 8, 9, 10, 11, 12, 13], [1, 5, 6, 7, 8, 9, 10, 11, 12, 13], [1, 5, 6, 7, 8, 9, 10, 11, 12, 13], [0, 1, 4, 5, 6, 7, 8, 9, 10, 11, 12, 13]]) = some mf6 := by kernel_rfl
theorem at6 : Try.prog.funcs[6]? = some Try.f6 := by kernel_rfl
def lp8x0 : MC := .seq (.seq (.region [⟨none, .mv (.var 7), none⟩, ⟨none, .mv (.var 0), none⟩, ⟨some 18, .bin .lss (.tmp 0) (.tmp 1), none⟩]) (.cond (.var 18) .skip (.exit 0))) (.seq (.seq (.block 1 (.seq (.region [⟨none, .mv (.var 5), none⟩, ⟨none, .mv (.var 7), none⟩, ⟨none, .bin .add (.cst (.int .i64 1)) (.tmp 1), none⟩, ⟨none, .call (.fn 17) [.tmp 2], none⟩, ⟨none, .call (.fn 16) [.tmp 0, .tmp 3], none⟩, ⟨some 19, .bin .neq (.tmp 4) (.cst (.int .i64 0)), none⟩]) (.cond (.var 19) (.seq (.region [⟨some 3, .mv (.cst (.bool false)), none⟩]) .ret) .skip))) (.kill [3, 6, 8, 9, 10, 11, 12, 13, 14, 15, 16, 17, 18, 19, 20, 21, 22, 23, 24, 25, 26, 27, 28])) (.region [⟨none, .mv (.var 7), none⟩, ⟨none, .bin .add (.tmp 0) (.cst (.int .i64 1)), none⟩, ⟨some 7, .mv (.tmp 1), none⟩]))
def lp8x1 : MC := .seq (.seq (.region [⟨none, .mv (.var 10), none⟩, ⟨none, .mv (.var 1), none⟩, ⟨none, .call (.fn 15) [.tmp 1, .cst (.int .i64 8)], none⟩, ⟨some 20, .bin .lss (.tmp 0) (.tmp 2), none⟩]) (.cond (.var 20) .skip (.exit 2))) (.seq (.seq (.block 3 (.seq (.region [⟨none, .mv (.var 5), none⟩, ⟨none, .call (.fn 19) [.tmp 0], none⟩, ⟨some 11, .mv (.tmp 1), none⟩]) (.seq (.region [⟨none, .mv (.var 10), none⟩, ⟨none, .bin .rem (.tmp 0) (.cst (.int .i64 3)), none⟩, ⟨none, .bin .eql (.tmp 1) (.cst (.int .i64 0)), none⟩, ⟨none, .mv (.tmp 2), none⟩, ⟨none, .mv (.var 11), some (.tmp 3, true)⟩, ⟨none, .lenSl (.tmp 4), some (.tmp 3, true)⟩, ⟨none, .bin .neq (.tmp 5) (.cst (.int .i64 1)), some (.tmp 3, true)⟩, ⟨none, .mv (.tmp 6), some (.tmp 3, true)⟩, ⟨none, .mv (.var 11), some (.tmp 7, false)⟩, ⟨none, .indexSl 5 (.tmp 8) (.cst (.int .i64 0)), some (.tmp 7, false)⟩, ⟨none, .load true 5 (.tmp 9), some (.tmp 7, false)⟩, ⟨none, .load true 5 (.var 8), some (.tmp 7, false)⟩, ⟨none, .eqAgg true [(0, 1), (1, 1), (2, 1), (3, 1), (4, 2)] (.tmp 10) (.tmp 11), some (.tmp 7, false)⟩, ⟨none, .pick (.tmp 7) (.cst (.bool true)) (.tmp 12), some (.tmp 3, true)⟩, ⟨none, .pick (.tmp 3) (.tmp 13) (.cst (.bool false)), none⟩, ⟨none, .mv (.tmp 14), none⟩, ⟨none, .mv (.var 10), some (.tmp 15, false)⟩, ⟨none, .bin .rem (.tmp 16) (.cst (.int .i64 3)), some (.tmp 15, false)⟩, ⟨none, .bin .neq (.tmp 17) (.cst (.int .i64 0)), some (.tmp 15, false)⟩, ⟨none, .mv (.tmp 18), some (.tmp 15, false)⟩, ⟨none, .mv (.var 11), some (.tmp 19, true)⟩, ⟨none, .lenSl (.tmp 20), some (.tmp 19, true)⟩, ⟨none, .bin .neq (.tmp 21) (.cst (.int .i64 0)), some (.tmp 19, true)⟩, ⟨none, .pick (.tmp 19) (.tmp 22) (.cst (.bool false)), some (.tmp 15, false)⟩, ⟨some 21, .pick (.tmp 15) (.cst (.bool true)) (.tmp 23), none⟩]) (.cond (.var 21) (.seq (.region [⟨some 3, .mv (.cst (.bool false)), none⟩]) .ret) .skip)))) (.kill [3, 6, 7, 11, 12, 13, 14, 15, 16, 17, 18, 19, 20, 21, 22, 23, 24, 25, 26, 27, 28])) (.region [⟨none, .mv (.var 10), none⟩, ⟨none, .bin .add (.tmp 0) (.cst (.int .i64 1)), none⟩, ⟨some 10, .mv (.tmp 1), none⟩]))
def lp8x2 : MC := .seq (.seq (.region [⟨none, .mv (.var 15), none⟩, ⟨none, .mv (.var 13), none⟩, ⟨none, .lenSl (.tmp 1), none⟩, ⟨some 27, .bin .lss (.tmp 0) (.tmp 2), none⟩]) (.cond (.var 27) .skip (.exit 6))) (.seq (.seq (.block 7 (.seq (.region [⟨none, .mv (.var 15), none⟩, ⟨none, .bin .add (.cst (.int .i64 1)) (.tmp 0), none⟩, ⟨none, .mv (.var 15), none⟩, ⟨none, .bin .add (.cst (.int .i64 1)) (.tmp 2), none⟩, ⟨none, .call (.fn 17) [.tmp 3], none⟩, ⟨none, .build [.int .i64 0, .int .i64 0, .int .i64 0, .int .i64 0, .str []] [(0, (1, .cst (.int .i64 3))), (1, (1, .cst (.int .i64 9))), (2, (1, .tmp 1)), (4, (1, .tmp 4))], none⟩, ⟨some 16, .alloc 5 (.agg [.int .i64 0, .int .i64 0, .int .i64 0, .int .i64 0, .str []]), none⟩, ⟨none, .store 5 (.var 16) (.tmp 5), none⟩]) (.seq (.region [⟨none, .mv (.var 13), none⟩, ⟨none, .mv (.var 15), none⟩, ⟨none, .indexSl 5 (.tmp 0) (.tmp 1), none⟩, ⟨none, .load true 5 (.tmp 2), none⟩, ⟨none, .load true 5 (.var 16), none⟩, ⟨some 28, .eqAgg true [(0, 1), (1, 1), (2, 1), (3, 1), (4, 2)] (.tmp 3) (.tmp 4), none⟩]) (.cond (.var 28) (.seq (.region [⟨some 3, .mv (.cst (.bool false)), none⟩]) .ret) .skip)))) (.kill [1, 3, 6, 7, 8, 10, 11, 14, 16, 17, 18, 19, 20, 21, 22, 23, 24, 25, 26, 27, 28])) (.region [⟨none, .mv (.var 15), none⟩, ⟨none, .bin .add (.tmp 0) (.cst (.int .i64 1)), none⟩, ⟨some 15, .mv (.tmp 1), none⟩]))
def lp8x3 : MC := .seq (.seq (.region [⟨none, .mv (.var 12), none⟩, ⟨none, .mv (.var 2), none⟩, ⟨none, .call (.fn 15) [.tmp 1, .cst (.int .i64 8)], none⟩, ⟨none, .bin .add (.cst (.int .i64 1)) (.tmp 2), none⟩, ⟨some 22, .bin .lss (.tmp 0) (.tmp 3), none⟩]) (.cond (.var 22) .skip (.exit 4))) (.seq (.seq (.block 5 (.seq (.region [⟨none, .mv (.var 5), none⟩, ⟨none, .call (.fn 19) [.tmp 0], none⟩, ⟨some 13, .mv (.tmp 1), none⟩]) (.seq (.region [⟨none, .mv (.var 0), none⟩, ⟨none, .minmax false (.tmp 0) [.cst (.int .i64 8)], none⟩, ⟨some 14, .mv (.tmp 1), none⟩]) (.seq (.seq (.region [⟨none, .mv (.var 12), none⟩, ⟨none, .bin .rem (.tmp 0) (.cst (.int .i64 3)), none⟩, ⟨some 23, .bin .neq (.tmp 1) (.cst (.int .i64 0)), none⟩]) (.cond (.var 23) (.region [⟨some 14, .mv (.cst (.int .i64 0)), none⟩]) .skip)) (.seq (.seq (.region [⟨none, .mv (.var 12), none⟩, ⟨none, .bin .eql (.tmp 0) (.cst (.int .i64 0)), none⟩, ⟨none, .mv (.tmp 1), none⟩, ⟨none, .mv (.var 0), some (.tmp 2, true)⟩, ⟨none, .bin .eql (.tmp 3) (.cst (.int .i64 0)), some (.tmp 2, true)⟩, ⟨some 24, .pick (.tmp 2) (.tmp 4) (.cst (.bool false)), none⟩]) (.cond (.var 24) (.seq (.seq (.region [⟨none, .mv (.var 13), none⟩, ⟨none, .lenSl (.tmp 0), none⟩, ⟨none, .bin .neq (.tmp 1) (.cst (.int .i64 1)), none⟩, ⟨none, .mv (.tmp 2), none⟩, ⟨none, .mv (.var 13), some (.tmp 3, false)⟩, ⟨none, .indexSl 5 (.tmp 4) (.cst (.int .i64 0)), some (.tmp 3, false)⟩, ⟨none, .load true 5 (.tmp 5), some (.tmp 3, false)⟩, ⟨none, .load true 5 (.var 9), some (.tmp 3, false)⟩, ⟨none, .eqAgg true [(0, 1), (1, 1), (2, 1), (3, 1), (4, 2)] (.tmp 6) (.tmp 7), some (.tmp 3, false)⟩, ⟨some 25, .pick (.tmp 3) (.cst (.bool true)) (.tmp 8), none⟩]) (.cond (.var 25) (.seq (.region [⟨some 3, .mv (.cst (.bool false)), none⟩]) .ret) .skip)) (.exit 5)) .skip)) (.seq (.seq (.region [⟨none, .mv (.var 13), none⟩, ⟨none, .lenSl (.tmp 0), none⟩, ⟨none, .mv (.var 14), none⟩, ⟨some 26, .bin .neq (.tmp 1) (.tmp 2), none⟩]) (.cond (.var 26) (.seq (.region [⟨some 3, .mv (.cst (.bool false)), none⟩]) .ret) .skip)) (.seq (.region [⟨some 15, .mv (.cst (.int .i64 0)), none⟩]) (.seq (.block 6 (.loop [1, 3, 6, 7, 8, 10, 11, 14, 16, 17, 18, 19, 20, 21, 22, 23, 24, 25, 26, 27, 28] lp8x2)) (.kill [1, 3, 6, 7, 8, 10, 11, 13, 14, 15, 16, 17, 18, 19, 20, 21, 22, 23, 24, 25, 26, 27, 28]))))))))) (.kill [1, 3, 6, 7, 8, 10, 11, 13, 14, 15, 16, 17, 18, 19, 20, 21, 22, 23, 24, 25, 26, 27, 28])) (.region [⟨none, .mv (.var 12), none⟩, ⟨none, .bin .add (.tmp 0) (.cst (.int .i64 1)), none⟩, ⟨some 12, .mv (.tmp 1), none⟩]))
def mf8 : MFun := ⟨3, 29, .seq (.region [⟨some 3, .mv (.cst (.bool false)), none⟩]) (.seq (.region [⟨none, .call (.fn 12) [], none⟩, ⟨some 4, .mv (.tmp 0), none⟩]) (.seq (.region [⟨none, .call (.fn 13) [.cst (.int .i64 3)], none⟩, ⟨none, .mv (.tmp 0), none⟩, ⟨none, .extract (.tmp 1) 0, none⟩, ⟨none, .extract (.tmp 1) 1, none⟩, ⟨some 5, .mv (.tmp 2), none⟩, ⟨some 6, .mv (.tmp 3), none⟩]) (.seq (.seq (.region [⟨none, .mv (.var 6), none⟩, ⟨none, .bin .neq (.tmp 0) (.cst (.int .i64 0)), none⟩, ⟨none, .mv (.tmp 1), none⟩, ⟨none, .mv (.var 5), some (.tmp 2, false)⟩, ⟨none, .eqNil 0 false (.tmp 3), some (.tmp 2, false)⟩, ⟨some 17, .pick (.tmp 2) (.cst (.bool true)) (.tmp 4), none⟩]) (.cond (.var 17) (.seq (.region [⟨some 3, .mv (.cst (.bool false)), none⟩]) .ret) .skip)) (.seq (.region [⟨none, .mv (.var 0), none⟩, ⟨none, .call (.fn 15) [.tmp 0, .cst (.int .i64 31)], none⟩, ⟨some 0, .mv (.tmp 1), none⟩]) (.seq (.seq (.region [⟨some 7, .mv (.cst (.int .i64 0)), none⟩]) (.seq (.block 0 (.loop [3, 6, 8, 9, 10, 11, 12, 13, 14, 15, 16, 17, 18, 19, 20, 21, 22, 23, 24, 25, 26, 27, 28] lp8x0)) (.kill [3, 6, 7, 8, 9, 10, 11, 12, 13, 14, 15, 16, 17, 18, 19, 20, 21, 22, 23, 24, 25, 26, 27, 28]))) (.seq (.region [⟨none, .build [.int .i64 0, .int .i64 0, .int .i64 0, .int .i64 0, .str []] [(0, (1, .cst (.int .i64 3)))], none⟩, ⟨some 8, .alloc 5 (.agg [.int .i64 0, .int .i64 0, .int .i64 0, .int .i64 0, .str []]), none⟩, ⟨none, .store 5 (.var 8) (.tmp 0), none⟩]) (.seq (.region [⟨none, .build [.int .i64 0, .int .i64 0, .int .i64 0, .int .i64 0, .str []] [(0, (1, .cst (.int .i64 3))), (1, (1, .cst (.int .i64 9)))], none⟩, ⟨some 9, .alloc 5 (.agg [.int .i64 0, .int .i64 0, .int .i64 0, .int .i64 0, .str []]), none⟩, ⟨none, .store 5 (.var 9) (.tmp 0), none⟩]) (.seq (.seq (.region [⟨some 10, .mv (.cst (.int .i64 0)), none⟩]) (.seq (.block 2 (.loop [3, 6, 7, 11, 12, 13, 14, 15, 16, 17, 18, 19, 20, 21, 22, 23, 24, 25, 26, 27, 28] lp8x1)) (.kill [1, 3, 6, 7, 8, 10, 11, 12, 13, 14, 15, 16, 17, 18, 19, 20, 21, 22, 23, 24, 25, 26, 27, 28]))) (.seq (.region [⟨none, .mv (.var 5), none⟩, ⟨none, .build [.int .i64 0, .int .i64 0, .int .i64 0, .int .i64 0, .str []] [(0, (1, .cst (.int .i64 9)))], none⟩, ⟨none, .call (.fn 23) [.tmp 0, .tmp 1], none⟩]) (.seq (.region [⟨none, .mv (.var 5), none⟩, ⟨none, .build [.int .i64 0, .int .i64 0, .int .i64 0, .int .i64 0, .str []] [(0, (1, .cst (.int .i64 9))), (1, (1, .cst (.int .i64 3)))], none⟩, ⟨none, .call (.fn 23) [.tmp 0, .tmp 1], none⟩]) (.seq (.seq (.region [⟨some 12, .mv (.cst (.int .i64 0)), none⟩]) (.seq (.block 4 (.loop [1, 3, 6, 7, 8, 10, 11, 13, 14, 15, 16, 17, 18, 19, 20, 21, 22, 23, 24, 25, 26, 27, 28] lp8x3)) (.kill [1, 2, 3, 6, 7, 8, 9, 10, 11, 12, 13, 14, 15, 16, 17, 18, 19, 20, 21, 22, 23, 24, 25, 26, 27, 28]))) (.seq (.region [⟨none, .mv (.var 4), none⟩, ⟨none, .mv (.tmp 0), none⟩, ⟨none, .mv (.var 5), some (.tmp 1, true)⟩, ⟨none, .call (.fn 27) [.tmp 2], some (.tmp 1, true)⟩, ⟨none, .mv (.var 0), some (.tmp 1, true)⟩, ⟨none, .bin .eql (.tmp 3) (.tmp 4), some (.tmp 1, true)⟩, ⟨none, .pick (.tmp 1) (.tmp 5) (.cst (.bool false)), none⟩, ⟨some 3, .mv (.tmp 6), none⟩]) .ret)))))))))))), [.tmp 3]⟩
def mask8x2 : List Nat := [1, 3, 6, 7, 8, 10, 11, 14, 16, 17, 18, 19, 20, 21, 22, 23, 24, 25, 26, 27, 28]
abbrev st8x2 (v0 v2 v4 v5 v9 v12 v13 v15 : AV) : List AV := [v0, .undef, v2, .undef, v4, v5, .undef, .undef, .undef, v9, .undef, .undef, v12, v13, .undef, v15, .undef, .undef, .undef, .undef, .undef, .undef, .undef, .undef, .undef, .undef, .undef, .undef, .undef]
theorem cl8x2 {v0 d1 v2 d3 v4 v5 d6 d7 d8 v9 d10 d11 v12 v13 d14 v15 d16 d17 d18 d19 d20 d21 d22 d23 d24 d25 d26 d27 d28 : AV} : clear mask8x2 [v0, d1, v2, d3, v4, v5, d6, d7, d8, v9, d10, d11, v12, v13, d14, v15, d16, d17, d18, d19, d20, d21, d22, d23, d24, d25, d26, d27, d28] = st8x2 v0 v2 v4 v5 v9 v12 v13 v15 := by simp only [mask8x2, clear, List.foldl_cons, List.foldl_nil, List.set_cons_zero, List.set_cons_succ]
theorem go8x2 {E : Env} {fuel : Nat} {A : Arena} {o : Out} {k : List KC} {v0 d1 v2 d3 v4 v5 d6 d7 d8 v9 d10 d11 v12 v13 d14 v15 d16 d17 d18 d19 d20 d21 d22 d23 d24 d25 d26 d27 d28 : AV} (h : iter (evC E fuel lp8x2) mask8x2 fuel (st8x2 v0 v2 v4 v5 v9 v12 v13 v15) A = some o) :
    run E fuel (.code (.loop [1, 3, 6, 7, 8, 10, 11, 14, 16, 17, 18, 19, 20, 21, 22, 23, 24, 25, 26, 27, 28] lp8x2) :: k) [v0, d1, v2, d3, v4, v5, d6, d7, d8, v9, d10, d11, v12, v13, d14, v15, d16, d17, d18, d19, d20, d21, d22, d23, d24, d25, d26, d27, d28] A = after E fuel k o := run_loopC mask8x2 _ _ (by rw [cl8x2]; exact h)
def mask8x0 : List Nat := [3, 6, 8, 9, 10, 11, 12, 13, 14, 15, 16, 17, 18, 19, 20, 21, 22, 23, 24, 25, 26, 27, 28]
abbrev st8x0 (v0 v1 v2 v4 v5 v7 : AV) : List AV := [v0, v1, v2, .undef, v4, v5, .undef, v7, .undef, .undef, .undef, .undef, .undef, .undef, .undef, .undef, .undef, .undef, .undef, .undef, .undef, .undef, .undef, .undef, .undef, .undef, .undef, .undef, .undef]
theorem cl8x0 {v0 v1 v2 d3 v4 v5 d6 v7 d8 d9 d10 d11 d12 d13 d14 d15 d16 d17 d18 d19 d20 d21 d22 d23 d24 d25 d26 d27 d28 : AV} : clear mask8x0 [v0, v1, v2, d3, v4, v5, d6, v7, d8, d9, d10, d11, d12, d13, d14, d15, d16, d17, d18, d19, d20, d21, d22, d23, d24, d25, d26, d27, d28] = st8x0 v0 v1 v2 v4 v5 v7 := by simp only [mask8x0, clear, List.foldl_cons, List.foldl_nil, List.set_cons_zero, List.set_cons_succ]
theorem go8x0 {E : Env} {fuel : Nat} {A : Arena} {o : Out} {k : List KC} {v0 v1 v2 d3 v4 v5 d6 v7 d8 d9 d10 d11 d12 d13 d14 d15 d16 d17 d18 d19 d20 d21 d22 d23 d24 d25 d26 d27 d28 : AV} (h : iter (evC E fuel lp8x0) mask8x0 fuel (st8x0 v0 v1 v2 v4 v5 v7) A = some o) :
    run E fuel (.code (.loop [3, 6, 8, 9, 10, 11, 12, 13, 14, 15, 16, 17, 18, 19, 20, 21, 22, 23, 24, 25, 26, 27, 28] lp8x0) :: k) [v0, v1, v2, d3, v4, v5, d6, v7, d8, d9, d10, d11, d12, d13, d14, d15, d16, d17, d18, d19, d20, d21, d22, d23, d24, d25, d26, d27, d28] A = after E fuel k o := run_loopC mask8x0 _ _ (by rw [cl8x0]; exact h)
def mask8x1 : List Nat := [3, 6, 7, 11, 12, 13, 14, 15, 16, 17, 18, 19, 20, 21, 22, 23, 24, 25, 26, 27, 28]
abbrev st8x1 (v0 v1 v2 v4 v5 v8 v9 v10 : AV) : List AV := [v0, v1, v2, .undef, v4, v5, .undef, .undef, v8, v9, v10, .undef, .undef, .undef, .undef, .undef, .undef, .undef, .undef, .undef, .undef, .undef, .undef, .undef, .undef, .undef, .undef, .undef, .undef]
theorem cl8x1 {v0 v1 v2 d3 v4 v5 d6 d7 v8 v9 v10 d11 d12 d13 d14 d15 d16 d17 d18 d19 d20 d21 d22 d23 d24 d25 d26 d27 d28 : AV} : clear mask8x1 [v0, v1, v2, d3, v4, v5, d6, d7, v8, v9, v10, d11, d12, d13, d14, d15, d16, d17, d18, d19, d20, d21, d22, d23, d24, d25, d26, d27, d28] = st8x1 v0 v1 v2 v4 v5 v8 v9 v10 := by simp only [mask8x1, clear, List.foldl_cons, List.foldl_nil, List.set_cons_zero, List.set_cons_succ]
theorem go8x1 {E : Env} {fuel : Nat} {A : Arena} {o : Out} {k : List KC} {v0 v1 v2 d3 v4 v5 d6 d7 v8 v9 v10 d11 d12 d13 d14 d15 d16 d17 d18 d19 d20 d21 d22 d23 d24 d25 d26 d27 d28 : AV} (h : iter (evC E fuel lp8x1) mask8x1 fuel (st8x1 v0 v1 v2 v4 v5 v8 v9 v10) A = some o) :
    run E fuel (.code (.loop [3, 6, 7, 11, 12, 13, 14, 15, 16, 17, 18, 19, 20, 21, 22, 23, 24, 25, 26, 27, 28] lp8x1) :: k) [v0, v1, v2, d3, v4, v5, d6, d7, v8, v9, v10, d11, d12, d13, d14, d15, d16, d17, d18, d19, d20, d21, d22, d23, d24, d25, d26, d27, d28] A = after E fuel k o := run_loopC mask8x1 _ _ (by rw [cl8x1]; exact h)
def mask8x3 : List Nat := [1, 3, 6, 7, 8, 10, 11, 13, 14, 15, 16, 17, 18, 19, 20, 21, 22, 23, 24, 25, 26, 27, 28]
abbrev st8x3 (v0 v2 v4 v5 v9 v12 : AV) : List AV := [v0, .undef, v2, .undef, v4, v5, .undef, .undef, .undef, v9, .undef, .undef, v12, .undef, .undef, .undef, .undef, .undef, .undef, .undef, .undef, .undef, .undef, .undef, .undef, .undef, .undef, .undef, .undef]
theorem cl8x3 {v0 d1 v2 d3 v4 v5 d6 d7 d8 v9 d10 d11 v12 d13 d14 d15 d16 d17 d18 d19 d20 d21 d22 d23 d24 d25 d26 d27 d28 : AV} : clear mask8x3 [v0, d1, v2, d3, v4, v5, d6, d7, d8, v9, d10, d11, v12, d13, d14, d15, d16, d17, d18, d19, d20, d21, d22, d23, d24, d25, d26, d27, d28] = st8x3 v0 v2 v4 v5 v9 v12 := by simp only [mask8x3, clear, List.foldl_cons, List.foldl_nil, List.set_cons_zero, List.set_cons_succ]
theorem go8x3 {E : Env} {fuel : Nat} {A : Arena} {o : Out} {k : List KC} {v0 d1 v2 d3 v4 v5 d6 d7 d8 v9 d10 d11 v12 d13 d14 d15 d16 d17 d18 d19 d20 d21 d22 d23 d24 d25 d26 d27 d28 : AV} (h : iter (evC E fuel lp8x3) mask8x3 fuel (st8x3 v0 v2 v4 v5 v9 v12) A = some o) :
    run E fuel (.code (.loop [1, 3, 6, 7, 8, 10, 11, 13, 14, 15, 16, 17, 18, 19, 20, 21, 22, 23, 24, 25, 26, 27, 28] lp8x3) :: k) [v0, d1, v2, d3, v4, v5, d6, d7, d8, v9, d10, d11, v12, d13, d14, d15, d16, d17, d18, d19, d20, d21, d22, d23, d24, d25, d26, d27, d28] A = after E fuel k o := run_loopC mask8x3 _ _ (by rw [cl8x3]; exact h)
set_option maxHeartbeats 4000000 in
theorem comp8 : compFun Try.prog Try.f8 3 [0, 1, 2, 6, 7, 8, 9, 10, 11, 12, 13, 14, 15, 16, 17, 18, 19, 30, 35, 43, 49, 78, 89, 98, 104, 114, 118, 122, 136] [] true ([[3, 6, 8, 9, 10, 11, 12, 13, 14, 15, 16, 17, 18, 19, 20, 21, 22, 23, 24, 25, 26, 27, 28], [3, 6, 7, 11, 12, 13, 14, 15, 16, 17, 18, 19, 20, 21, 22, 23, 24, 25, 26, 27, 28], [1, 3, 6, 7, 8, 10, 11, 13, 14, 15, 16, 17, 18, 19, 20, 21, 22, 23, 24, 25, 26, 27, 28], [1, 3, 6, 7, 8, 10, 11, 14, 16, 17, 18, 19, 20, 21, 22, 23, 24, 25, 26, 27, 28]], [[3, 6, 8, 9, 10, 11, 12, 13, 14, 15, 16, 17, 18, 19, 20, 21, 22, 23, 24, 25, 26, 27, 28], [3, 6, 7, 8, 9, 10, 11, 12, 13, 14, 15, 16, 17, 18, 19, 20, 21, 22, 23, 24, 25, 26, 27, 28], [3, 6, 7, 11, 12, 13, 14, 15, 16, 17, 18, 19, 20, 21, 22, 23, 24, 25, 26, 27, 28], [1, 3, 6, 7, 8, 10, 11, 12, 13, 14, 15, 16, 17, 18, 19, 20, 21, 22, 23, 24, 25, 26, 27, 28], [1, 3, 6, 7, 8, 10, 11, 14, 16, 17, 18, 19, 20, 21, 22, 23, 24, 25, 26, 27, 28], [1, 3, 6, 7, 8, 10, 11, 13, 14, 15, 16, 17, 18, 19, 20, 21, 22, 23, 24, 25, 26, 27, 28], [1, 3, 6, 7, 8, 10, 11, 13, 14, 15, 16, 17, 18, 19, 20, 21, 22, 23, 24, 25, 26, 27, 28], [1, 2, 3, 6, 7, 8, 9, 10, 11, 12, 13, 14, 15, 16, 17, 18, 19, 20, 21, 22, 23, 24, 25, 26, 27, 28]]) = some mf8 := by kernel_rfl
theorem at8 : Try.prog.funcs[8]? = some Try.f8 := by kernel_rfl
def lp9x0 : MC := .seq (.seq (.region [⟨none, .mv (.var 7), none⟩, ⟨none, .mv (.var 0), none⟩, ⟨some 15, .bin .lss (.tmp 0) (.tmp 1), none⟩]) (.cond (.var 15) .skip (.exit 0))) (.seq (.seq (.block 1 (.region [⟨none, .mv (.var 5), none⟩, ⟨none, .mv (.var 7), none⟩, ⟨none, .bin .add (.cst (.int .i64 1)) (.tmp 1), none⟩, ⟨none, .call (.fn 17) [.tmp 2], none⟩, ⟨none, .call (.fn 16) [.tmp 0, .tmp 3], none⟩])) (.kill [3, 6, 8, 9, 10, 11, 12, 13, 14, 15, 16, 17, 18])) (.region [⟨none, .mv (.var 7), none⟩, ⟨none, .bin .add (.tmp 0) (.cst (.int .i64 1)), none⟩, ⟨some 7, .mv (.tmp 1), none⟩]))
def lp9x1 : MC := .seq (.seq (.region [⟨none, .mv (.var 12), none⟩, ⟨none, .mv (.var 10), none⟩, ⟨none, .lenSl (.tmp 1), none⟩, ⟨some 17, .bin .lss (.tmp 0) (.tmp 2), none⟩]) (.cond (.var 17) .skip (.exit 2))) (.seq (.seq (.block 3 (.seq (.region [⟨none, .mv (.var 10), none⟩, ⟨none, .mv (.var 12), none⟩, ⟨none, .indexSl 1 (.tmp 0) (.tmp 1), none⟩, ⟨none, .load false 1 (.tmp 2), none⟩, ⟨none, .mv (.var 1), none⟩, ⟨none, .bin .add (.cst (.int .i64 1)) (.tmp 4), none⟩, ⟨none, .mv (.var 12), none⟩, ⟨none, .bin .add (.tmp 5) (.tmp 6), none⟩, ⟨none, .call (.fn 17) [.tmp 7], none⟩, ⟨some 18, .bin .neq (.tmp 3) (.tmp 8), none⟩]) (.cond (.var 18) (.seq (.region [⟨some 3, .mv (.cst (.bool false)), none⟩]) .ret) .skip))) (.kill [0, 3, 6, 7, 8, 9, 11, 13, 14, 15, 16, 17, 18])) (.region [⟨none, .mv (.var 12), none⟩, ⟨none, .bin .add (.tmp 0) (.cst (.int .i64 1)), none⟩, ⟨some 12, .mv (.tmp 1), none⟩]))
def mf9 : MFun := ⟨3, 19, .seq (.region [⟨some 3, .mv (.cst (.bool false)), none⟩]) (.seq (.region [⟨none, .call (.fn 12) [], none⟩, ⟨some 4, .mv (.tmp 0), none⟩]) (.seq (.region [⟨none, .call (.fn 41) [], none⟩, ⟨none, .mv (.tmp 0), none⟩, ⟨none, .extract (.tmp 1) 0, none⟩, ⟨none, .extract (.tmp 1) 1, none⟩, ⟨none, .extract (.tmp 1) 2, none⟩, ⟨some 5, .mv (.tmp 2), none⟩, ⟨none, .mv (.tmp 3), none⟩, ⟨some 6, .mv (.tmp 4), none⟩]) (.seq (.seq (.region [⟨none, .mv (.var 6), none⟩, ⟨some 14, .un .not (.tmp 0), none⟩]) (.cond (.var 14) (.seq (.region [⟨some 3, .mv (.cst (.bool false)), none⟩]) .ret) .skip)) (.seq (.region [⟨none, .mv (.var 0), none⟩, ⟨none, .call (.fn 15) [.tmp 0, .cst (.int .i64 21)], none⟩, ⟨some 0, .mv (.tmp 1), none⟩]) (.seq (.region [⟨none, .mv (.var 1), none⟩, ⟨none, .mv (.var 0), none⟩, ⟨none, .minmax false (.tmp 1) [.cst (.int .i64 8)], none⟩, ⟨none, .bin .add (.tmp 2) (.cst (.int .i64 1)), none⟩, ⟨none, .call (.fn 15) [.tmp 0, .tmp 3], none⟩, ⟨some 1, .mv (.tmp 4), none⟩]) (.seq (.seq (.region [⟨some 7, .mv (.cst (.int .i64 0)), none⟩]) (.seq (.block 0 (.loop [3, 6, 8, 9, 10, 11, 12, 13, 14, 15, 16, 17, 18] lp9x0)) (.kill [3, 6, 7, 8, 9, 10, 11, 12, 13, 14, 15, 16, 17, 18]))) (.seq (.region [⟨none, .mv (.var 5), none⟩, ⟨none, .call (.fn 19) [.tmp 0], none⟩]) (.seq (.region [⟨none, .mv (.var 5), none⟩, ⟨none, .mv (.var 1), none⟩, ⟨none, .build [.int .i64 0, .int .i64 0, .int .i64 0, .int .i64 0, .str []] [(0, (1, .cst (.int .i64 5))), (1, (1, .cst (.int .i64 1))), (3, (1, .tmp 1))], none⟩, ⟨none, .call (.fn 23) [.tmp 0, .tmp 2], none⟩]) (.seq (.region [⟨none, .mv (.var 5), none⟩, ⟨none, .call (.fn 27) [.tmp 0], none⟩, ⟨some 8, .mv (.tmp 1), none⟩]) (.seq (.region [⟨none, .mv (.var 5), none⟩, ⟨none, .call (.fn 28) [.tmp 0], none⟩, ⟨some 9, .mv (.tmp 1), none⟩]) (.seq (.region [⟨none, .mv (.var 5), none⟩, ⟨none, .mv (.var 2), none⟩, ⟨none, .call (.fn 15) [.tmp 1, .cst (.int .i64 100)], none⟩, ⟨none, .bin .add (.cst (.int .i64 6)) (.tmp 2), none⟩, ⟨none, .build [.int .i64 0, .int .i64 0, .int .i64 0, .int .i64 0, .str []] [(0, (1, .tmp 3))], none⟩, ⟨none, .call (.fn 23) [.tmp 0, .tmp 4], none⟩]) (.seq (.region [⟨none, .mv (.var 5), none⟩, ⟨none, .call (.fn 28) [.tmp 0], none⟩, ⟨some 10, .mv (.tmp 1), none⟩]) (.seq (.region [⟨none, .mv (.var 5), none⟩, ⟨none, .call (.fn 28) [.tmp 0], none⟩, ⟨some 11, .mv (.tmp 1), none⟩]) (.seq (.seq (.region [⟨none, .mv (.var 8), none⟩, ⟨none, .mv (.var 0), none⟩, ⟨none, .mv (.var 1), none⟩, ⟨none, .bin .sub (.tmp 1) (.tmp 2), none⟩, ⟨none, .bin .neq (.tmp 0) (.tmp 3), none⟩, ⟨none, .mv (.tmp 4), none⟩, ⟨none, .mv (.var 9), some (.tmp 5, false)⟩, ⟨none, .lenSl (.tmp 6), some (.tmp 5, false)⟩, ⟨none, .bin .neq (.tmp 7) (.cst (.int .i64 0)), some (.tmp 5, false)⟩, ⟨none, .pick (.tmp 5) (.cst (.bool true)) (.tmp 8), none⟩, ⟨none, .mv (.tmp 9), none⟩, ⟨none, .mv (.var 10), some (.tmp 10, false)⟩, ⟨none, .lenSl (.tmp 11), some (.tmp 10, false)⟩, ⟨none, .mv (.var 8), some (.tmp 10, false)⟩, ⟨none, .bin .neq (.tmp 12) (.tmp 13), some (.tmp 10, false)⟩, ⟨none, .pick (.tmp 10) (.cst (.bool true)) (.tmp 14), none⟩, ⟨none, .mv (.tmp 15), none⟩, ⟨none, .mv (.var 11), some (.tmp 16, false)⟩, ⟨none, .lenSl (.tmp 17), some (.tmp 16, false)⟩, ⟨none, .bin .neq (.tmp 18) (.cst (.int .i64 0)), some (.tmp 16, false)⟩, ⟨none, .pick (.tmp 16) (.cst (.bool true)) (.tmp 19), none⟩, ⟨none, .mv (.tmp 20), none⟩, ⟨none, .mv (.var 5), some (.tmp 21, false)⟩, ⟨none, .call (.fn 27) [.tmp 22], some (.tmp 21, false)⟩, ⟨none, .bin .neq (.tmp 23) (.cst (.int .i64 0)), some (.tmp 21, false)⟩, ⟨some 16, .pick (.tmp 21) (.cst (.bool true)) (.tmp 24), none⟩]) (.cond (.var 16) (.seq (.region [⟨some 3, .mv (.cst (.bool false)), none⟩]) .ret) .skip)) (.seq (.seq (.region [⟨some 12, .mv (.cst (.int .i64 0)), none⟩]) (.seq (.block 2 (.loop [0, 3, 6, 7, 8, 9, 11, 13, 14, 15, 16, 17, 18] lp9x1)) (.kill [0, 1, 3, 6, 7, 8, 9, 10, 11, 12, 13, 14, 15, 16, 17, 18]))) (.seq (.region [⟨none, .mv (.var 5), none⟩, ⟨none, .mv (.var 2), none⟩, ⟨none, .call (.fn 15) [.tmp 1, .cst (.int .i64 100)], none⟩, ⟨none, .bin .add (.cst (.int .i64 6)) (.tmp 2), none⟩, ⟨none, .build [.int .i64 0, .int .i64 0, .int .i64 0, .int .i64 0, .str []] [(0, (1, .tmp 3)), (1, (1, .cst (.int .i64 1)))], none⟩, ⟨none, .call (.fn 23) [.tmp 0, .tmp 4], none⟩]) (.seq (.region [⟨none, .mv (.var 5), none⟩, ⟨none, .call (.fn 16) [.tmp 0, .cst (.str [110, 101, 119])], none⟩]) (.seq (.region [⟨none, .mv (.var 5), none⟩, ⟨none, .call (.fn 19) [.tmp 0], none⟩, ⟨some 13, .mv (.tmp 1), none⟩]) (.seq (.region [⟨none, .mv (.var 4), none⟩, ⟨none, .mv (.tmp 0), none⟩, ⟨none, .mv (.var 13), some (.tmp 1, true)⟩, ⟨none, .lenSl (.tmp 2), some (.tmp 1, true)⟩, ⟨none, .bin .eql (.tmp 3) (.cst (.int .i64 1)), some (.tmp 1, true)⟩, ⟨none, .pick (.tmp 1) (.tmp 4) (.cst (.bool false)), none⟩, ⟨none, .mv (.tmp 5), none⟩, ⟨none, .mv (.var 13), some (.tmp 6, true)⟩, ⟨none, .indexSl 5 (.tmp 7) (.cst (.int .i64 0)), some (.tmp 6, true)⟩, ⟨none, .load true 5 (.tmp 8), some (.tmp 6, true)⟩, ⟨none, .mv (.var 2), some (.tmp 6, true)⟩, ⟨none, .call (.fn 15) [.tmp 10, .cst (.int .i64 100)], some (.tmp 6, true)⟩, ⟨none, .bin .add (.cst (.int .i64 6)) (.tmp 11), some (.tmp 6, true)⟩, ⟨none, .build [.int .i64 0, .int .i64 0, .int .i64 0, .int .i64 0, .str []] [(0, (1, .cst (.int .i64 1))), (1, (1, .tmp 12)), (2, (1, .cst (.int .i64 1))), (4, (1, .cst (.str [110, 101, 119])))], some (.tmp 6, true)⟩, ⟨none, .eqAgg false [(0, 1), (1, 1), (2, 1), (3, 1), (4, 2)] (.tmp 9) (.tmp 13), some (.tmp 6, true)⟩, ⟨none, .pick (.tmp 6) (.tmp 14) (.cst (.bool false)), none⟩, ⟨some 3, .mv (.tmp 15), none⟩]) .ret))))))))))))))))))), [.tmp 3]⟩
def mask9x0 : List Nat := [3, 6, 8, 9, 10, 11, 12, 13, 14, 15, 16, 17, 18]
abbrev st9x0 (v0 v1 v2 v4 v5 v7 : AV) : List AV := [v0, v1, v2, .undef, v4, v5, .undef, v7, .undef, .undef, .undef, .undef, .undef, .undef, .undef, .undef, .undef, .undef, .undef]
theorem cl9x0 {v0 v1 v2 d3 v4 v5 d6 v7 d8 d9 d10 d11 d12 d13 d14 d15 d16 d17 d18 : AV} : clear mask9x0 [v0, v1, v2, d3, v4, v5, d6, v7, d8, d9, d10, d11, d12, d13, d14, d15, d16, d17, d18] = st9x0 v0 v1 v2 v4 v5 v7 := by simp only [mask9x0, clear, List.foldl_cons, List.foldl_nil, List.set_cons_zero, List.set_cons_succ]
theorem go9x0 {E : Env} {fuel : Nat} {A : Arena} {o : Out} {k : List KC} {v0 v1 v2 d3 v4 v5 d6 v7 d8 d9 d10 d11 d12 d13 d14 d15 d16 d17 d18 : AV} (h : iter (evC E fuel lp9x0) mask9x0 fuel (st9x0 v0 v1 v2 v4 v5 v7) A = some o) :
    run E fuel (.code (.loop [3, 6, 8, 9, 10, 11, 12, 13, 14, 15, 16, 17, 18] lp9x0) :: k) [v0, v1, v2, d3, v4, v5, d6, v7, d8, d9, d10, d11, d12, d13, d14, d15, d16, d17, d18] A = after E fuel k o := run_loopC mask9x0 _ _ (by rw [cl9x0]; exact h)
def mask9x1 : List Nat := [0, 3, 6, 7, 8, 9, 11, 13, 14, 15, 16, 17, 18]
abbrev st9x1 (v1 v2 v4 v5 v10 v12 : AV) : List AV := [.undef, v1, v2, .undef, v4, v5, .undef, .undef, .undef, .undef, v10, .undef, v12, .undef, .undef, .undef, .undef, .undef, .undef]
theorem cl9x1 {d0 v1 v2 d3 v4 v5 d6 d7 d8 d9 v10 d11 v12 d13 d14 d15 d16 d17 d18 : AV} : clear mask9x1 [d0, v1, v2, d3, v4, v5, d6, d7, d8, d9, v10, d11, v12, d13, d14, d15, d16, d17, d18] = st9x1 v1 v2 v4 v5 v10 v12 := by simp only [mask9x1, clear, List.foldl_cons, List.foldl_nil, List.set_cons_zero, List.set_cons_succ]
theorem go9x1 {E : Env} {fuel : Nat} {A : Arena} {o : Out} {k : List KC} {d0 v1 v2 d3 v4 v5 d6 d7 d8 d9 v10 d11 v12 d13 d14 d15 d16 d17 d18 : AV} (h : iter (evC E fuel lp9x1) mask9x1 fuel (st9x1 v1 v2 v4 v5 v10 v12) A = some o) :
    run E fuel (.code (.loop [0, 3, 6, 7, 8, 9, 11, 13, 14, 15, 16, 17, 18] lp9x1) :: k) [d0, v1, v2, d3, v4, v5, d6, d7, d8, d9, v10, d11, v12, d13, d14, d15, d16, d17, d18] A = after E fuel k o := run_loopC mask9x1 _ _ (by rw [cl9x1]; exact h)
set_option maxHeartbeats 4000000 in
theorem comp9 : compFun Try.prog Try.f9 3 [0, 1, 2, 6, 7, 8, 10, 11, 12, 13, 14, 15, 16, 17, 25, 35, 88, 92, 104] [17, 15] true ([[3, 6, 8, 9, 10, 11, 12, 13, 14, 15, 16, 17, 18], [0, 3, 6, 7, 8, 9, 11, 13, 14, 15, 16, 17, 18]], [[3, 6, 8, 9, 10, 11, 12, 13, 14, 15, 16, 17, 18], [3, 6, 7, 8, 9, 10, 11, 12, 13, 14, 15, 16, 17, 18], [0, 3, 6, 7, 8, 9, 11, 13, 14, 15, 16, 17, 18], [0, 1, 3, 6, 7, 8, 9, 10, 11, 12, 13, 14, 15, 16, 17, 18]]) = some mf9 := by kernel_rfl
theorem at9 : Try.prog.funcs[9]? = some Try.f9 := by kernel_rfl
def lp10x0 : MC := .seq (.seq (.region [⟨none, .mv (.var 7), none⟩, ⟨none, .mv (.var 0), none⟩, ⟨some 10, .bin .lss (.tmp 0) (.tmp 1), none⟩]) (.cond (.var 10) .skip (.exit 0))) (.seq (.seq (.block 1 (.region [⟨none, .mv (.var 5), none⟩, ⟨none, .mv (.var 7), none⟩, ⟨none, .bin .add (.cst (.int .i64 1)) (.tmp 1), none⟩, ⟨none, .call (.fn 17) [.tmp 2], none⟩, ⟨none, .call (.fn 16) [.tmp 0, .tmp 3], none⟩])) (.kill [1, 3, 6, 8, 9, 10, 11])) (.region [⟨none, .mv (.var 7), none⟩, ⟨none, .bin .add (.tmp 0) (.cst (.int .i64 1)), none⟩, ⟨some 7, .mv (.tmp 1), none⟩]))
def mf10 : MFun := ⟨2, 12, .seq (.region [⟨some 2, .box (.var 1), none⟩, ⟨some 3, .mv (.cst (.bool false)), none⟩]) (.seq (.region [⟨none, .call (.fn 12) [], none⟩, ⟨some 4, .mv (.tmp 0), none⟩]) (.seq (.region [⟨none, .call (.fn 41) [], none⟩, ⟨none, .mv (.tmp 0), none⟩, ⟨none, .extract (.tmp 1) 0, none⟩, ⟨none, .extract (.tmp 1) 1, none⟩, ⟨none, .extract (.tmp 1) 2, none⟩, ⟨some 5, .mv (.tmp 2), none⟩, ⟨none, .mv (.tmp 3), none⟩, ⟨some 6, .mv (.tmp 4), none⟩]) (.seq (.seq (.region [⟨none, .mv (.var 6), none⟩, ⟨some 9, .un .not (.tmp 0), none⟩]) (.cond (.var 9) (.seq (.region [⟨some 3, .mv (.cst (.bool false)), none⟩]) .ret) .skip)) (.seq (.region [⟨none, .mv (.var 0), none⟩, ⟨none, .call (.fn 15) [.tmp 0, .cst (.int .i64 11)], none⟩, ⟨some 0, .mv (.tmp 1), none⟩]) (.seq (.seq (.region [⟨some 7, .mv (.cst (.int .i64 0)), none⟩]) (.seq (.block 0 (.loop [1, 3, 6, 8, 9, 10, 11] lp10x0)) (.kill [1, 3, 6, 7, 8, 9, 10, 11]))) (.seq (.region [⟨none, .mv (.var 5), none⟩, ⟨none, .call (.fn 19) [.tmp 0], none⟩]) (.seq (.region [⟨none, .fieldAddr 4 (.var 2), none⟩, ⟨none, .load false 1 (.tmp 0), none⟩, ⟨none, .fieldAddr 4 (.var 2), none⟩, ⟨none, .load false 1 (.tmp 2), none⟩, ⟨none, .lenStr (.tmp 3), none⟩, ⟨none, .minmax false (.tmp 4) [.cst (.int .i64 1100)], none⟩, ⟨none, .sliceStr (.tmp 1) none (some (.tmp 5)), none⟩, ⟨none, .fieldAddr 4 (.var 2), none⟩, ⟨none, .store 1 (.tmp 7) (.tmp 6), none⟩]) (.seq (.seq (.region [⟨none, .load true 5 (.var 2), none⟩, ⟨none, .call (.fn 34) [.tmp 0], none⟩, ⟨none, .mv (.tmp 1), none⟩, ⟨none, .fieldAddr 0 (.var 2), some (.tmp 2, true)⟩, ⟨none, .load false 1 (.tmp 3), some (.tmp 2, true)⟩, ⟨none, .bin .geq (.tmp 4) (.cst (.int .i64 5)), some (.tmp 2, true)⟩, ⟨none, .pick (.tmp 2) (.tmp 5) (.cst (.bool false)), none⟩, ⟨none, .mv (.tmp 6), none⟩, ⟨none, .fieldAddr 1 (.var 2), some (.tmp 7, true)⟩, ⟨none, .load false 1 (.tmp 8), some (.tmp 7, true)⟩, ⟨none, .bin .eql (.tmp 9) (.cst (.int .i64 0)), some (.tmp 7, true)⟩, ⟨none, .mv (.tmp 10), some (.tmp 7, true)⟩, ⟨none, .fieldAddr 1 (.var 2), some (.tmp 11, false)⟩, ⟨none, .load false 1 (.tmp 12), some (.tmp 11, false)⟩, ⟨none, .bin .eql (.tmp 13) (.cst (.int .i64 1)), some (.tmp 11, false)⟩, ⟨none, .pick (.tmp 11) (.cst (.bool true)) (.tmp 14), some (.tmp 7, true)⟩, ⟨some 11, .pick (.tmp 7) (.tmp 15) (.cst (.bool false)), none⟩]) (.cond (.var 11) (.region [⟨none, .fieldAddr 0 (.var 2), none⟩, ⟨none, .load false 1 (.tmp 0), none⟩, ⟨none, .call (.fn 15) [.tmp 1, .cst (.int .i64 4)], none⟩, ⟨none, .bin .add (.cst (.int .i64 1)) (.tmp 2), none⟩, ⟨none, .fieldAddr 0 (.var 2), none⟩, ⟨none, .store 1 (.tmp 4) (.tmp 3), none⟩]) .skip)) (.seq (.region [⟨none, .mv (.var 5), none⟩, ⟨none, .load true 5 (.var 2), none⟩, ⟨none, .call (.fn 23) [.tmp 0, .tmp 1], none⟩, ⟨some 8, .mv (.tmp 2), none⟩]) (.seq (.region [⟨none, .mv (.var 4), none⟩, ⟨none, .mv (.tmp 0), none⟩, ⟨none, .mv (.var 8), some (.tmp 1, true)⟩, ⟨none, .lenSl (.tmp 2), some (.tmp 1, true)⟩, ⟨none, .bin .eql (.tmp 3) (.cst (.int .i64 0)), some (.tmp 1, true)⟩, ⟨none, .pick (.tmp 1) (.tmp 4) (.cst (.bool false)), none⟩, ⟨none, .mv (.tmp 5), none⟩, ⟨none, .mv (.var 5), some (.tmp 6, true)⟩, ⟨none, .call (.fn 25) [.tmp 7], some (.tmp 6, true)⟩, ⟨none, .bin .eql (.tmp 8) (.cst (.int .i64 5)), some (.tmp 6, true)⟩, ⟨none, .pick (.tmp 6) (.tmp 9) (.cst (.bool false)), none⟩, ⟨none, .mv (.tmp 10), none⟩, ⟨none, .mv (.var 5), some (.tmp 11, true)⟩, ⟨none, .call (.fn 27) [.tmp 12], some (.tmp 11, true)⟩, ⟨none, .mv (.var 0), some (.tmp 11, true)⟩, ⟨none, .bin .eql (.tmp 13) (.tmp 14), some (.tmp 11, true)⟩, ⟨none, .pick (.tmp 11) (.tmp 15) (.cst (.bool false)), none⟩, ⟨none, .mv (.tmp 16), none⟩, ⟨none, .mv (.var 5), some (.tmp 17, true)⟩, ⟨none, .call (.fn 28) [.tmp 18], some (.tmp 17, true)⟩, ⟨none, .lenSl (.tmp 19), some (.tmp 17, true)⟩, ⟨none, .bin .eql (.tmp 20) (.cst (.int .i64 0)), some (.tmp 17, true)⟩, ⟨none, .pick (.tmp 17) (.tmp 21) (.cst (.bool false)), none⟩, ⟨none, .mv (.tmp 22), none⟩, ⟨none, .mv (.var 5), some (.tmp 23, true)⟩, ⟨none, .call (.fn 19) [.tmp 24], some (.tmp 23, true)⟩, ⟨none, .lenSl (.tmp 25), some (.tmp 23, true)⟩, ⟨none, .bin .eql (.tmp 26) (.cst (.int .i64 0)), some (.tmp 23, true)⟩, ⟨none, .pick (.tmp 23) (.tmp 27) (.cst (.bool false)), none⟩, ⟨some 3, .mv (.tmp 28), none⟩]) .ret)))))))))), [.tmp 3]⟩
def mask10x0 : List Nat := [1, 3, 6, 8, 9, 10, 11]
abbrev st10x0 (v0 v2 v4 v5 v7 : AV) : List AV := [v0, .undef, v2, .undef, v4, v5, .undef, v7, .undef, .undef, .undef, .undef]
theorem cl10x0 {v0 d1 v2 d3 v4 v5 d6 v7 d8 d9 d10 d11 : AV} : clear mask10x0 [v0, d1, v2, d3, v4, v5, d6, v7, d8, d9, d10, d11] = st10x0 v0 v2 v4 v5 v7 := by simp only [mask10x0, clear, List.foldl_cons, List.foldl_nil, List.set_cons_zero, List.set_cons_succ]
theorem go10x0 {E : Env} {fuel : Nat} {A : Arena} {o : Out} {k : List KC} {v0 d1 v2 d3 v4 v5 d6 v7 d8 d9 d10 d11 : AV} (h : iter (evC E fuel lp10x0) mask10x0 fuel (st10x0 v0 v2 v4 v5 v7) A = some o) :
    run E fuel (.code (.loop [1, 3, 6, 8, 9, 10, 11] lp10x0) :: k) [v0, d1, v2, d3, v4, v5, d6, v7, d8, d9, d10, d11] A = after E fuel k o := run_loopC mask10x0 _ _ (by rw [cl10x0]; exact h)
set_option maxHeartbeats 4000000 in
theorem comp10 : compFun Try.prog Try.f10 2 [0, 1, 3, 4, 5, 6, 8, 9, 10, 18, 23, 57] [] true ([[1, 3, 6, 8, 9, 10, 11]], [[1, 3, 6, 8, 9, 10, 11], [1, 3, 6, 7, 8, 9, 10, 11]]) = some mf10 := by kernel_rfl
theorem at10 : Try.prog.funcs[10]? = some Try.f10 := by kernel_rfl
def lp11x0 : MC := .seq (.seq (.region [⟨none, .mv (.var 10), none⟩, ⟨some 15, .bin .lss (.tmp 0) (.cst (.int .i64 64)), none⟩]) (.cond (.var 15) .skip (.exit 0))) (.seq (.seq (.block 1 (.seq (.region [⟨none, .mv (.var 9), none⟩, ⟨none, .makeSlice 1 1 (.int .u8 0) (.cst (.int .i64 1024)) (.cst (.int .i64 1024)), none⟩, ⟨none, .toStr (.tmp 1), none⟩, ⟨none, .call (.fn 16) [.tmp 0, .tmp 2], none⟩, ⟨some 16, .bin .neq (.tmp 3) (.cst (.int .i64 0)), none⟩]) (.cond (.var 16) (.seq (.region [⟨some 4, .mv (.cst (.bool false)), none⟩]) .ret) .skip))) (.kill [0, 1, 2, 4, 6, 7, 8, 11, 12, 13, 14, 15, 16])) (.region [⟨none, .mv (.var 10), none⟩, ⟨none, .bin .add (.tmp 0) (.cst (.int .i64 1)), none⟩, ⟨some 10, .mv (.tmp 1), none⟩]))
def mf11 : MFun := ⟨3, 17, .seq (.region [⟨some 3, .box (.var 2), none⟩, ⟨some 4, .mv (.cst (.bool false)), none⟩]) (.seq (.region [⟨none, .call (.fn 12) [], none⟩, ⟨some 5, .mv (.tmp 0), none⟩]) (.seq (.region [⟨none, .mv (.var 0), none⟩, ⟨none, .call (.fn 13) [.tmp 0], none⟩, ⟨none, .mv (.tmp 1), none⟩, ⟨none, .extract (.tmp 2) 0, none⟩, ⟨none, .extract (.tmp 2) 1, none⟩, ⟨some 6, .mv (.tmp 3), none⟩, ⟨some 7, .mv (.tmp 4), none⟩]) (.seq (.region [⟨none, .mv (.var 0), none⟩, ⟨none, .bin .geq (.tmp 0) (.cst (.int .i64 1)), none⟩, ⟨none, .mv (.tmp 1), none⟩, ⟨none, .mv (.var 0), some (.tmp 2, true)⟩, ⟨none, .bin .leq (.tmp 3) (.cst (.int .i64 1000000)), some (.tmp 2, true)⟩, ⟨none, .pick (.tmp 2) (.tmp 4) (.cst (.bool false)), none⟩, ⟨some 8, .mv (.tmp 5), none⟩]) (.seq (.seq (.region [⟨none, .mv (.var 7), none⟩, ⟨none, .bin .eql (.tmp 0) (.cst (.int .i64 0)), none⟩, ⟨none, .mv (.var 8), none⟩, ⟨none, .eqBool true (.tmp 1) (.tmp 2), none⟩, ⟨none, .mv (.tmp 3), none⟩, ⟨none, .mv (.var 6), some (.tmp 4, false)⟩, ⟨none, .eqNil 0 true (.tmp 5), some (.tmp 4, false)⟩, ⟨none, .mv (.var 8), some (.tmp 4, false)⟩, ⟨none, .eqBool true (.tmp 6) (.tmp 7), some (.tmp 4, false)⟩, ⟨none, .pick (.tmp 4) (.cst (.bool true)) (.tmp 8), none⟩, ⟨none, .mv (.tmp 9), none⟩, ⟨none, .mv (.var 8), some (.tmp 10, false)⟩, ⟨none, .un .not (.tmp 11), some (.tmp 10, false)⟩, ⟨none, .mv (.tmp 12), some (.tmp 10, false)⟩, ⟨none, .mv (.var 7), some (.tmp 13, true)⟩, ⟨none, .bin .neq (.tmp 14) (.cst (.int .i64 260)), some (.tmp 13, true)⟩, ⟨none, .pick (.tmp 13) (.tmp 15) (.cst (.bool false)), some (.tmp 10, false)⟩, ⟨some 13, .pick (.tmp 10) (.cst (.bool true)) (.tmp 16), none⟩]) (.cond (.var 13) (.seq (.region [⟨some 4, .mv (.cst (.bool false)), none⟩]) .ret) .skip)) (.seq (.region [⟨none, .call (.fn 13) [.cst (.int .i64 1)], none⟩, ⟨none, .mv (.tmp 0), none⟩, ⟨none, .extract (.tmp 1) 0, none⟩, ⟨none, .extract (.tmp 1) 1, none⟩, ⟨some 9, .mv (.tmp 2), none⟩, ⟨none, .mv (.tmp 3), none⟩]) (.seq (.seq (.region [⟨none, .mv (.var 9), none⟩, ⟨none, .eqNil 0 false (.tmp 0), none⟩, ⟨none, .mv (.tmp 1), none⟩, ⟨none, .mv (.var 9), some (.tmp 2, false)⟩, ⟨none, .mv (.var 1), some (.tmp 2, false)⟩, ⟨none, .call (.fn 15) [.tmp 4, .cst (.int .i64 9)], some (.tmp 2, false)⟩, ⟨none, .bin .add (.cst (.int .i64 1025)) (.tmp 5), some (.tmp 2, false)⟩, ⟨none, .makeSlice 1 1 (.int .u8 0) (.tmp 6) (.tmp 6), some (.tmp 2, false)⟩, ⟨none, .toStr (.tmp 7), some (.tmp 2, false)⟩, ⟨none, .call (.fn 16) [.tmp 3, .tmp 8], some (.tmp 2, false)⟩, ⟨none, .bin .neq (.tmp 9) (.cst (.int .i64 260)), some (.tmp 2, false)⟩, ⟨none, .pick (.tmp 2) (.cst (.bool true)) (.tmp 10), none⟩, ⟨none, .mv (.tmp 11), none⟩, ⟨none, .mv (.var 9), some (.tmp 12, false)⟩, ⟨none, .call (.fn 27) [.tmp 13], some (.tmp 12, false)⟩, ⟨none, .bin .neq (.tmp 14) (.cst (.int .i64 0)), some (.tmp 12, false)⟩, ⟨some 14, .pick (.tmp 12) (.cst (.bool true)) (.tmp 15), none⟩]) (.cond (.var 14) (.seq (.region [⟨some 4, .mv (.cst (.bool false)), none⟩]) .ret) .skip)) (.seq (.seq (.region [⟨some 10, .mv (.cst (.int .i64 0)), none⟩]) (.seq (.block 0 (.loop [0, 1, 2, 4, 6, 7, 8, 11, 12, 13, 14, 15, 16] lp11x0)) (.kill [0, 1, 2, 4, 6, 7, 8, 10, 11, 12, 13, 14, 15, 16]))) (.seq (.region [⟨none, .mv (.var 9), none⟩, ⟨none, .call (.fn 16) [.tmp 0, .cst (.str [120])], none⟩, ⟨some 11, .mv (.tmp 1), none⟩]) (.seq (.region [⟨some 12, .mv (.cst .nilP), none⟩]) (.seq (.region [⟨none, .mv (.var 5), none⟩, ⟨none, .mv (.tmp 0), none⟩, ⟨none, .mv (.var 11), some (.tmp 1, true)⟩, ⟨none, .bin .eql (.tmp 2) (.cst (.int .i64 260)), some (.tmp 1, true)⟩, ⟨none, .pick (.tmp 1) (.tmp 3) (.cst (.bool false)), none⟩, ⟨none, .mv (.tmp 4), none⟩, ⟨none, .mv (.var 9), some (.tmp 5, true)⟩, ⟨none, .call (.fn 27) [.tmp 6], some (.tmp 5, true)⟩, ⟨none, .bin .eql (.tmp 7) (.cst (.int .i64 64)), some (.tmp 5, true)⟩, ⟨none, .pick (.tmp 5) (.tmp 8) (.cst (.bool false)), none⟩, ⟨none, .mv (.tmp 9), none⟩, ⟨none, .mv (.var 12), some (.tmp 10, true)⟩, ⟨none, .call (.fn 16) [.tmp 11, .cst (.str [120])], some (.tmp 10, true)⟩, ⟨none, .bin .eql (.tmp 12) (.cst (.int .i64 1)), some (.tmp 10, true)⟩, ⟨none, .pick (.tmp 10) (.tmp 13) (.cst (.bool false)), none⟩, ⟨none, .mv (.tmp 14), none⟩, ⟨none, .mv (.var 12), some (.tmp 15, true)⟩, ⟨none, .load true 5 (.var 3), some (.tmp 15, true)⟩, ⟨none, .call (.fn 23) [.tmp 16, .tmp 17], some (.tmp 15, true)⟩, ⟨none, .lenSl (.tmp 18), some (.tmp 15, true)⟩, ⟨none, .bin .eql (.tmp 19) (.cst (.int .i64 0)), some (.tmp 15, true)⟩, ⟨none, .pick (.tmp 15) (.tmp 20) (.cst (.bool false)), none⟩, ⟨none, .mv (.tmp 21), none⟩, ⟨none, .mv (.var 12), some (.tmp 22, true)⟩, ⟨none, .call (.fn 19) [.tmp 23], some (.tmp 22, true)⟩, ⟨none, .lenSl (.tmp 24), some (.tmp 22, true)⟩, ⟨none, .bin .eql (.tmp 25) (.cst (.int .i64 0)), some (.tmp 22, true)⟩, ⟨none, .pick (.tmp 22) (.tmp 26) (.cst (.bool false)), none⟩, ⟨none, .mv (.tmp 27), none⟩, ⟨none, .mv (.var 12), some (.tmp 28, true)⟩, ⟨none, .call (.fn 25) [.tmp 29], some (.tmp 28, true)⟩, ⟨none, .bin .eql (.tmp 30) (.cst (.int .i64 0)), some (.tmp 28, true)⟩, ⟨none, .pick (.tmp 28) (.tmp 31) (.cst (.bool false)), none⟩, ⟨none, .mv (.tmp 32), none⟩, ⟨none, .mv (.var 12), some (.tmp 33, true)⟩, ⟨none, .call (.fn 26) [.tmp 34], some (.tmp 33, true)⟩, ⟨none, .bin .eql (.tmp 35) (.cst (.int .i64 0)), some (.tmp 33, true)⟩, ⟨none, .pick (.tmp 33) (.tmp 36) (.cst (.bool false)), none⟩, ⟨none, .mv (.tmp 37), none⟩, ⟨none, .mv (.var 12), some (.tmp 38, true)⟩, ⟨none, .call (.fn 28) [.tmp 39], some (.tmp 38, true)⟩, ⟨none, .lenSl (.tmp 40), some (.tmp 38, true)⟩, ⟨none, .bin .eql (.tmp 41) (.cst (.int .i64 0)), some (.tmp 38, true)⟩, ⟨none, .pick (.tmp 38) (.tmp 42) (.cst (.bool false)), none⟩, ⟨none, .mv (.tmp 43), none⟩, ⟨none, .mv (.var 12), some (.tmp 44, true)⟩, ⟨none, .call (.fn 27) [.tmp 45], some (.tmp 44, true)⟩, ⟨none, .bin .eql (.tmp 46) (.cst (.int .i64 0)), some (.tmp 44, true)⟩, ⟨none, .pick (.tmp 44) (.tmp 47) (.cst (.bool false)), none⟩, ⟨some 4, .mv (.tmp 48), none⟩]) .ret)))))))))), [.tmp 4]⟩
def mask11x0 : List Nat := [0, 1, 2, 4, 6, 7, 8, 11, 12, 13, 14, 15, 16]
abbrev st11x0 (v3 v5 v9 v10 : AV) : List AV := [.undef, .undef, .undef, v3, .undef, v5, .undef, .undef, .undef, v9, v10, .undef, .undef, .undef, .undef, .undef, .undef]
theorem cl11x0 {d0 d1 d2 v3 d4 v5 d6 d7 d8 v9 v10 d11 d12 d13 d14 d15 d16 : AV} : clear mask11x0 [d0, d1, d2, v3, d4, v5, d6, d7, d8, v9, v10, d11, d12, d13, d14, d15, d16] = st11x0 v3 v5 v9 v10 := by simp only [mask11x0, clear, List.foldl_cons, List.foldl_nil, List.set_cons_zero, List.set_cons_succ]
theorem go11x0 {E : Env} {fuel : Nat} {A : Arena} {o : Out} {k : List KC} {d0 d1 d2 v3 d4 v5 d6 d7 d8 v9 v10 d11 d12 d13 d14 d15 d16 : AV} (h : iter (evC E fuel lp11x0) mask11x0 fuel (st11x0 v3 v5 v9 v10) A = some o) :
    run E fuel (.code (.loop [0, 1, 2, 4, 6, 7, 8, 11, 12, 13, 14, 15, 16] lp11x0) :: k) [d0, d1, d2, v3, d4, v5, d6, d7, d8, v9, v10, d11, d12, d13, d14, d15, d16] A = after E fuel k o := run_loopC mask11x0 _ _ (by rw [cl11x0]; exact h)
set_option maxHeartbeats 4000000 in
theorem comp11 : compFun Try.prog Try.f11 3 [0, 1, 2, 5, 6, 7, 8, 9, 10, 11, 13, 14, 15, 45, 66, 68, 75] [] true ([[0, 1, 2, 4, 6, 7, 8, 11, 12, 13, 14, 15, 16]], [[0, 1, 2, 4, 6, 7, 8, 11, 12, 13, 14, 15, 16], [0, 1, 2, 4, 6, 7, 8, 10, 11, 12, 13, 14, 15, 16]]) = some mf11 := by kernel_rfl
theorem at11 : Try.prog.funcs[11]? = some Try.f11 := by kernel_rfl
def mf36 : MFun := ⟨0, 6, .seq (.region [⟨some 0, .mv (.cst .nilP), none⟩]) (.seq (.region [⟨none, .call (.fn 13) [.cst (.int .i64 1)], none⟩, ⟨none, .mv (.tmp 0), none⟩, ⟨none, .extract (.tmp 1) 0, none⟩, ⟨none, .extract (.tmp 1) 1, none⟩, ⟨some 1, .mv (.tmp 2), none⟩, ⟨some 2, .mv (.tmp 3), none⟩]) (.seq (.region [⟨none, .call (.fn 13) [.cst (.int .i64 1)], none⟩, ⟨none, .mv (.tmp 0), none⟩, ⟨none, .extract (.tmp 1) 0, none⟩, ⟨none, .extract (.tmp 1) 1, none⟩, ⟨some 3, .mv (.tmp 2), none⟩, ⟨some 4, .mv (.tmp 3), none⟩]) (.seq (.region [⟨none, .mv (.var 1), none⟩, ⟨none, .mv (.var 3), none⟩, ⟨none, .build [.nilP, .nilP] [(0, (1, .tmp 0)), (1, (1, .tmp 1))], none⟩, ⟨none, .mv (.var 2), none⟩, ⟨none, .bin .eql (.tmp 3) (.cst (.int .i64 0)), none⟩, ⟨none, .mv (.tmp 4), none⟩, ⟨none, .mv (.var 4), some (.tmp 5, true)⟩, ⟨none, .bin .eql (.tmp 6) (.cst (.int .i64 0)), some (.tmp 5, true)⟩, ⟨none, .pick (.tmp 5) (.tmp 7) (.cst (.bool false)), none⟩, ⟨none, .mv (.tmp 8), none⟩, ⟨none, .mv (.var 1), some (.tmp 9, true)⟩, ⟨none, .eqNil 0 true (.tmp 10), some (.tmp 9, true)⟩, ⟨none, .pick (.tmp 9) (.tmp 11) (.cst (.bool false)), none⟩, ⟨none, .mv (.tmp 12), none⟩, ⟨none, .mv (.var 3), some (.tmp 13, true)⟩, ⟨none, .eqNil 0 true (.tmp 14), some (.tmp 13, true)⟩, ⟨none, .pick (.tmp 13) (.tmp 15) (.cst (.bool false)), none⟩, ⟨none, .build [.nilP, .nilP, .nilS, .nilS, .nilS, .nilS, .nilS, .nilS, .int .i64 0, .int .i64 0, .bool false] [(0, (2, .tmp 2)), (10, (1, .tmp 16))], none⟩, ⟨none, .box (.tmp 17), none⟩, ⟨some 5, .mv (.tmp 18), none⟩]) (.seq (.region [⟨none, .mv (.var 5), none⟩, ⟨none, .buildSlice 1 [.cst (.int .i64 0)], none⟩, ⟨none, .nilCheck (.tmp 0), none⟩, ⟨none, .fieldAddr 3 (.tmp 2), none⟩, ⟨none, .store 1 (.tmp 3) (.tmp 1), none⟩]) (.seq (.region [⟨none, .mv (.var 5), none⟩, ⟨none, .buildSlice 1 [.cst (.int .i64 0)], none⟩, ⟨none, .nilCheck (.tmp 0), none⟩, ⟨none, .fieldAddr 4 (.tmp 2), none⟩, ⟨none, .store 1 (.tmp 3) (.tmp 1), none⟩]) (.seq (.region [⟨none, .mv (.var 5), none⟩, ⟨none, .buildSlice 1 [.cst (.int .i64 0)], none⟩, ⟨none, .nilCheck (.tmp 0), none⟩, ⟨none, .fieldAddr 5 (.tmp 2), none⟩, ⟨none, .store 1 (.tmp 3) (.tmp 1), none⟩]) (.seq (.region [⟨none, .mv (.var 5), none⟩, ⟨none, .buildSlice 1 [.cst (.int .i64 0)], none⟩, ⟨none, .nilCheck (.tmp 0), none⟩, ⟨none, .fieldAddr 6 (.tmp 2), none⟩, ⟨none, .store 1 (.tmp 3) (.tmp 1), none⟩]) (.seq (.region [⟨none, .mv (.var 5), none⟩, ⟨none, .buildSlice 1 [.cst (.bool false)], none⟩, ⟨none, .nilCheck (.tmp 0), none⟩, ⟨none, .fieldAddr 7 (.tmp 2), none⟩, ⟨none, .store 1 (.tmp 3) (.tmp 1), none⟩]) (.seq (.region [⟨none, .mv (.var 5), none⟩, ⟨some 0, .mv (.tmp 0), none⟩]) .ret))))))))), [.tmp 0]⟩
set_option maxHeartbeats 4000000 in
theorem comp36 : compFun Try.prog Try.f36 0 [0, 1, 2, 3, 4, 5] [] true ([], []) = some mf36 := by kernel_rfl
theorem at36 : Try.prog.funcs[36]? = some Try.f36 := by kernel_rfl
def mf38 : MFun := ⟨2, 3, .seq (.region [⟨some 2, .mv (.cst .nilS), none⟩]) (.seq (.region [⟨none, .mv (.var 2), none⟩, ⟨none, .mv (.var 0), none⟩, ⟨none, .nilCheck (.tmp 1), none⟩, ⟨none, .fieldAddr 2 (.tmp 2), none⟩, ⟨none, .load false 1 (.tmp 3), none⟩, ⟨none, .mv (.var 1), none⟩, ⟨none, .sliceSl 6 (.tmp 4) none (some (.tmp 5)), none⟩, ⟨none, .appendN 6 56 (.tmp 0) (.tmp 6), none⟩, ⟨some 2, .mv (.tmp 7), none⟩]) (.region [⟨none, .mv (.var 0), none⟩, ⟨none, .mv (.var 2), none⟩, ⟨none, .mv (.var 0), none⟩, ⟨none, .nilCheck (.tmp 2), none⟩, ⟨none, .fieldAddr 2 (.tmp 3), none⟩, ⟨none, .load false 1 (.tmp 4), none⟩, ⟨none, .mv (.var 1), none⟩, ⟨none, .bin .add (.tmp 6) (.cst (.int .i64 1)), none⟩, ⟨none, .sliceSl 6 (.tmp 5) (some (.tmp 7)) none, none⟩, ⟨none, .appendN 6 56 (.tmp 1) (.tmp 8), none⟩, ⟨none, .nilCheck (.tmp 0), none⟩, ⟨none, .fieldAddr 2 (.tmp 10), none⟩, ⟨none, .store 1 (.tmp 11) (.tmp 9), none⟩])), []⟩
set_option maxHeartbeats 4000000 in
theorem comp38 : compFun Try.prog Try.f38 2 [0, 1, 4] [] true ([], []) = some mf38 := by kernel_rfl
theorem at38 : Try.prog.funcs[38]? = some Try.f38 := by kernel_rfl
def lp40x0 : MC := .seq (.seq (.region [⟨none, .mv (.var 3), none⟩, ⟨none, .mv (.var 2), none⟩, ⟨none, .lenSl (.tmp 1), none⟩, ⟨some 5, .bin .lss (.tmp 0) (.tmp 2), none⟩]) (.cond (.var 5) .skip (.exit 0))) (.seq (.seq (.block 1 (.seq (.seq (.region [⟨none, .mv (.var 2), none⟩, ⟨none, .mv (.var 3), none⟩, ⟨none, .indexSl 5 (.tmp 0) (.tmp 1), none⟩, ⟨none, .load true 5 (.tmp 2), none⟩, ⟨none, .call (.fn 34) [.tmp 3], none⟩, ⟨none, .un .not (.tmp 4), none⟩, ⟨none, .mv (.tmp 5), none⟩, ⟨none, .mv (.var 2), some (.tmp 6, false)⟩, ⟨none, .mv (.var 3), some (.tmp 6, false)⟩, ⟨none, .indexSl 5 (.tmp 7) (.tmp 8), some (.tmp 6, false)⟩, ⟨none, .fieldAddr 0 (.tmp 9), some (.tmp 6, false)⟩, ⟨none, .load false 1 (.tmp 10), some (.tmp 6, false)⟩, ⟨none, .mv (.var 0), some (.tmp 6, false)⟩, ⟨none, .mv (.var 1), some (.tmp 6, false)⟩, ⟨none, .nilCheck (.tmp 12), some (.tmp 6, false)⟩, ⟨none, .fieldAddr 0 (.tmp 14), some (.tmp 6, false)⟩, ⟨none, .indexArr 2 1 (.tmp 15) (.tmp 13), some (.tmp 6, false)⟩, ⟨none, .load false 1 (.tmp 16), some (.tmp 6, false)⟩, ⟨none, .call (.fn 26) [.tmp 17], some (.tmp 6, false)⟩, ⟨none, .bin .neq (.tmp 11) (.tmp 18), some (.tmp 6, false)⟩, ⟨some 6, .pick (.tmp 6) (.cst (.bool true)) (.tmp 19), none⟩]) (.cond (.var 6) (.region [⟨none, .mv (.var 0), none⟩, ⟨none, .nilCheck (.tmp 0), none⟩, ⟨none, .fieldAddr 10 (.tmp 1), none⟩, ⟨none, .store 1 (.tmp 2) (.cst (.bool false)), none⟩]) .skip)) (.seq (.seq (.region [⟨none, .mv (.var 2), none⟩, ⟨none, .mv (.var 3), none⟩, ⟨none, .indexSl 5 (.tmp 0) (.tmp 1), none⟩, ⟨none, .fieldAddr 2 (.tmp 2), none⟩, ⟨none, .load false 1 (.tmp 3), none⟩, ⟨some 7, .bin .gtr (.tmp 4) (.cst (.int .i64 0)), none⟩]) (.cond (.var 7) (.seq (.region [⟨none, .mv (.var 2), none⟩, ⟨none, .mv (.var 3), none⟩, ⟨none, .indexSl 5 (.tmp 0) (.tmp 1), none⟩, ⟨none, .fieldAddr 4 (.tmp 2), none⟩, ⟨none, .load false 1 (.tmp 3), none⟩, ⟨none, .call (.fn 56) [.tmp 4], none⟩, ⟨some 4, .mv (.tmp 5), none⟩]) (.seq (.seq (.region [⟨none, .mv (.var 4), none⟩, ⟨none, .bin .lss (.tmp 0) (.cst (.int .i64 1)), none⟩, ⟨none, .mv (.tmp 1), none⟩, ⟨none, .mv (.var 4), some (.tmp 2, false)⟩, ⟨none, .mv (.var 0), some (.tmp 2, false)⟩, ⟨none, .nilCheck (.tmp 4), some (.tmp 2, false)⟩, ⟨none, .fieldAddr 5 (.tmp 5), some (.tmp 2, false)⟩, ⟨none, .load false 1 (.tmp 6), some (.tmp 2, false)⟩, ⟨none, .lenSl (.tmp 7), some (.tmp 2, false)⟩, ⟨none, .bin .geq (.tmp 3) (.tmp 8), some (.tmp 2, false)⟩, ⟨none, .pick (.tmp 2) (.cst (.bool true)) (.tmp 9), none⟩, ⟨none, .mv (.tmp 10), none⟩, ⟨none, .mv (.var 0), some (.tmp 11, false)⟩, ⟨none, .nilCheck (.tmp 12), some (.tmp 11, false)⟩, ⟨none, .fieldAddr 5 (.tmp 13), some (.tmp 11, false)⟩, ⟨none, .load false 1 (.tmp 14), some (.tmp 11, false)⟩, ⟨none, .mv (.var 4), some (.tmp 11, false)⟩, ⟨none, .indexSl 1 (.tmp 15) (.tmp 16), some (.tmp 11, false)⟩, ⟨none, .load false 1 (.tmp 17), some (.tmp 11, false)⟩, ⟨none, .bin .neq (.tmp 18) (.cst (.int .i64 0)), some (.tmp 11, false)⟩, ⟨none, .mv (.tmp 19), some (.tmp 11, false)⟩, ⟨none, .mv (.var 0), some (.tmp 20, true)⟩, ⟨none, .nilCheck (.tmp 21), some (.tmp 20, true)⟩, ⟨none, .fieldAddr 5 (.tmp 22), some (.tmp 20, true)⟩, ⟨none, .load false 1 (.tmp 23), some (.tmp 20, true)⟩, ⟨none, .mv (.var 4), some (.tmp 20, true)⟩, ⟨none, .indexSl 1 (.tmp 24) (.tmp 25), some (.tmp 20, true)⟩, ⟨none, .load false 1 (.tmp 26), some (.tmp 20, true)⟩, ⟨none, .mv (.var 2), some (.tmp 20, true)⟩, ⟨none, .mv (.var 3), some (.tmp 20, true)⟩, ⟨none, .indexSl 5 (.tmp 28) (.tmp 29), some (.tmp 20, true)⟩, ⟨none, .fieldAddr 1 (.tmp 30), some (.tmp 20, true)⟩, ⟨none, .load false 1 (.tmp 31), some (.tmp 20, true)⟩, ⟨none, .bin .neq (.tmp 27) (.tmp 32), some (.tmp 20, true)⟩, ⟨none, .pick (.tmp 20) (.tmp 33) (.cst (.bool false)), some (.tmp 11, false)⟩, ⟨some 8, .pick (.tmp 11) (.cst (.bool true)) (.tmp 34), none⟩]) (.cond (.var 8) (.seq (.region [⟨none, .mv (.var 0), none⟩, ⟨none, .nilCheck (.tmp 0), none⟩, ⟨none, .fieldAddr 10 (.tmp 1), none⟩, ⟨none, .store 1 (.tmp 2) (.cst (.bool false)), none⟩]) .ret) .skip)) (.region [⟨none, .mv (.var 0), none⟩, ⟨none, .nilCheck (.tmp 0), none⟩, ⟨none, .fieldAddr 5 (.tmp 1), none⟩, ⟨none, .load false 1 (.tmp 2), none⟩, ⟨none, .mv (.var 4), none⟩, ⟨none, .mv (.var 2), none⟩, ⟨none, .mv (.var 3), none⟩, ⟨none, .indexSl 5 (.tmp 5) (.tmp 6), none⟩, ⟨none, .fieldAddr 1 (.tmp 7), none⟩, ⟨none, .load false 1 (.tmp 8), none⟩, ⟨none, .indexSl 1 (.tmp 3) (.tmp 4), none⟩, ⟨none, .store 1 (.tmp 10) (.tmp 9), none⟩]))) .skip)) (.region [⟨none, .mv (.var 0), none⟩, ⟨none, .mv (.var 0), none⟩, ⟨none, .nilCheck (.tmp 1), none⟩, ⟨none, .fieldAddr 2 (.tmp 2), none⟩, ⟨none, .load false 1 (.tmp 3), none⟩, ⟨none, .mv (.var 1), none⟩, ⟨none, .bin .sub (.cst (.int .i64 1)) (.tmp 5), none⟩, ⟨none, .mv (.var 2), none⟩, ⟨none, .mv (.var 3), none⟩, ⟨none, .indexSl 5 (.tmp 7) (.tmp 8), none⟩, ⟨none, .load true 5 (.tmp 9), none⟩, ⟨none, .build [.int .i64 0, .int .i64 0, .int .i64 0, .int .i64 0, .int .i64 0, .str []] [(0, (1, .tmp 6)), (1, (5, .tmp 10))], none⟩, ⟨none, .buildF 6 [.tmp 11], none⟩, ⟨none, .appendN 6 56 (.tmp 4) (.tmp 12), none⟩, ⟨none, .nilCheck (.tmp 0), none⟩, ⟨none, .fieldAddr 2 (.tmp 14), none⟩, ⟨none, .store 1 (.tmp 15) (.tmp 13), none⟩])))) (.kill [4, 5, 6, 7, 8])) (.region [⟨none, .mv (.var 3), none⟩, ⟨none, .bin .add (.tmp 0) (.cst (.int .i64 1)), none⟩, ⟨some 3, .mv (.tmp 1), none⟩]))
def mf40 : MFun := ⟨2, 9, .seq (.region [⟨none, .mv (.var 0), none⟩, ⟨none, .mv (.var 1), none⟩, ⟨none, .nilCheck (.tmp 0), none⟩, ⟨none, .fieldAddr 0 (.tmp 2), none⟩, ⟨none, .indexArr 2 1 (.tmp 3) (.tmp 1), none⟩, ⟨none, .load false 1 (.tmp 4), none⟩, ⟨none, .call (.fn 19) [.tmp 5], none⟩, ⟨some 2, .mv (.tmp 6), none⟩]) (.seq (.region [⟨some 3, .mv (.cst (.int .i64 0)), none⟩]) (.seq (.block 0 (.loop [4, 5, 6, 7, 8] lp40x0)) (.kill [0, 1, 2, 3, 4, 5, 6, 7, 8]))), []⟩
def mask40x0 : List Nat := [4, 5, 6, 7, 8]
abbrev st40x0 (v0 v1 v2 v3 : AV) : List AV := [v0, v1, v2, v3, .undef, .undef, .undef, .undef, .undef]
theorem cl40x0 {v0 v1 v2 v3 d4 d5 d6 d7 d8 : AV} : clear mask40x0 [v0, v1, v2, v3, d4, d5, d6, d7, d8] = st40x0 v0 v1 v2 v3 := by simp only [mask40x0, clear, List.foldl_cons, List.foldl_nil, List.set_cons_zero, List.set_cons_succ]
theorem go40x0 {E : Env} {fuel : Nat} {A : Arena} {o : Out} {k : List KC} {v0 v1 v2 v3 d4 d5 d6 d7 d8 : AV} (h : iter (evC E fuel lp40x0) mask40x0 fuel (st40x0 v0 v1 v2 v3) A = some o) :
    run E fuel (.code (.loop [4, 5, 6, 7, 8] lp40x0) :: k) [v0, v1, v2, v3, d4, d5, d6, d7, d8] A = after E fuel k o := run_loopC mask40x0 _ _ (by rw [cl40x0]; exact h)
set_option maxHeartbeats 4000000 in
theorem comp40 : compFun Try.prog Try.f40 2 [0, 1, 4, 5, 6, 17, 40, 49, 91] [34, 26] true ([[4, 5, 6, 7, 8]], [[4, 5, 6, 7, 8], [0, 1, 2, 3, 4, 5, 6, 7, 8]]) = some mf40 := by kernel_rfl
theorem at40 : Try.prog.funcs[40]? = some Try.f40 := by kernel_rfl
end Go.Proofs.Ytfidjdlmmcaplaa
/-
  Link: what the laws call; messages sent one after the other.
-/
namespace Go.Proofs.Ytfidjdlmmcaplaa
open Go

noncomputable def fsL : List (FuncId × HModel) := [(12, pureH 4 M12), (13, H13), (15, pureH 4 M15), (16, H16), (17, pureH 4 M17), (19, H19), (23, H23), (25, pureH 4 M25), (26, pureH 4 M26), (27, H27), (28, H28), (34, pureH 4 M34), (41, H41)]
@[simp] theorem fsL_12 : lookM fsL 12 = some (pureH 4 M12) := rfl
@[simp] theorem fsL_13 : lookM fsL 13 = some H13 := rfl
@[simp] theorem fsL_15 : lookM fsL 15 = some (pureH 4 M15) := rfl
@[simp] theorem fsL_16 : lookM fsL 16 = some H16 := rfl
@[simp] theorem fsL_17 : lookM fsL 17 = some (pureH 4 M17) := rfl
@[simp] theorem fsL_19 : lookM fsL 19 = some H19 := rfl
@[simp] theorem fsL_23 : lookM fsL 23 = some H23 := rfl
@[simp] theorem fsL_25 : lookM fsL 25 = some (pureH 4 M25) := rfl
@[simp] theorem fsL_26 : lookM fsL 26 = some (pureH 4 M26) := rfl
@[simp] theorem fsL_27 : lookM fsL 27 = some H27 := rfl
@[simp] theorem fsL_28 : lookM fsL 28 = some H28 := rfl
@[simp] theorem fsL_34 : lookM fsL 34 = some (pureH 4 M34) := rfl
@[simp] theorem fsL_41 : lookM fsL 41 = some H41 := rfl
theorem soundL : ∀ f M, lookM fsL f = some M → FnSpecY Try.prog GW f M :=
  lookM_cons (FnSpecY.of_pure (PureSpec.of_ev (E := envOf GW fs12) (envOf_sound sound12) rfl at12 comp12 5 fun _ _ h => ⟨300, h⟩) 4) (lookM_cons spec13 (lookM_cons (FnSpecY.of_pure spec15 4) (lookM_cons spec16 (lookM_cons (FnSpecY.of_pure spec17 4) (lookM_cons spec19 (lookM_cons spec23 (lookM_cons (FnSpecY.of_pure spec25 4) (lookM_cons (FnSpecY.of_pure spec26 4) (lookM_cons spec27 (lookM_cons spec28 (lookM_cons (FnSpecY.of_pure spec34 4) (lookM_cons spec41 lookM_nil))))))))))))
theorem M15_eq {a n : Int} (ha : inI a) (hn : 0 < n) : M15 [.int .i64 a, .int .i64 n] = some (.int .i64 (pick a n)) := by
  simp only [M15]; exact if_pos ⟨ha, hn⟩

theorem evLoad_row5 {A : Arena} {i : Nat} {f : FrS} (h : A[i]? = some (.row 5 false [frA f])) : evLoad true 5 A (.ptr i 0 0) = some (frA f) := by
  simp only [evLoad, h]
  rfl

theorem pH0 (M : PModel) (h : Handler) (A : Arena) : pureH 4 M h [] A = (M []).map (·, A) := by
  simp
  split <;> simp [*]
theorem pH1 (M : PModel) (h : Handler) (A : Arena) (k : IntKind) (a : Int) : pureH 4 M h [.int k a] A = (M [.int k a]).map (·, A) := by
  simp
  split <;> simp [*]
theorem pH2 (M : PModel) (h : Handler) (A : Arena) (k k' : IntKind) (a b : Int) : pureH 4 M h [.int k a, .int k' b] A = (M [.int k a, .int k' b]).map (·, A) := by
  simp
  split <;> simp [*]
theorem pHf (M : PModel) (h : Handler) (A : Arena) (k1 k2 k3 k4 : IntKind) (a b c d : Int) (s : Bytes) : pureH 4 M h [.agg [.int k1 a, .int k2 b, .int k3 c, .int k4 d, .str s]] A = (M [.agg [.int k1 a, .int k2 b, .int k3 c, .int k4 d, .str s]]).map (·, A) := by
  simp
  split <;> simp [*]

theorem ownK : ownKnob Try.prog.godebug = none := by kernel_rfl
theorem grel0 {W : World} {OK : Nat → Prop} : GRel GW W OK := fun gl cs h => by simp [GW] at h
/-- a world for the witness -/
noncomputable def laidWorld (os : Os) : World := World.holding Try.prog os ⟨#[], #[], []⟩

/-- n messages, sent one after the other -/
def msgs (n : Nat) : List QE := (List.range n).map fun (i : Nat) => (⟨1 + (i : Int), txt (i + 1), 0⟩ : QE)
def stN (S : EndS) (n : Nat) : EndS := { S with queue := msgs n, next := 1 + n }
theorem msgs_len (n : Nat) : (msgs n).length = n := by simp [msgs]
theorem stN_zero {S : EndS} (h : S.queue = []) (h2 : S.next = 1) : stN S 0 = S := by
  unfold stN msgs
  cases S
  simp only at h h2
  simp [h, h2]
theorem stN_succ (S : EndS) (n : Nat) : sendS (stN S n) (txt (n + 1)) = stN S (n + 1) := by
  unfold sendS stN msgs
  simp only [List.range_succ, List.map_append, List.map_cons, List.map_nil]
  congr 1
theorem msgs_at {n : Nat} : ∀ q ∈ msgs n, q.at_ = 0 := by
  intro q hq
  unfold msgs at hq
  obtain ⟨i, _, rfl⟩ := List.mem_map.1 hq
  rfl
theorem send_step {A : Arena} {id : Nat} {S : EndS} {n : Nat} {qv lv : AV} (hE : EndAt A id (stN S n) qv lv) (hn : n < 64) (h : Handler) :
    ∃ B qv', H16 h [.ptr id 0 0, .str (txt (n + 1))] A = some (.int .i64 0, B) ∧ EndAt B id (stN S (n + 1)) qv' lv ∧ Fr A B (own id qv lv) ∧ ∀ j, j ∈ own id qv' lv → j ∈ own id qv lv ∨ A.length ≤ j := by
  have hl := txt_len (n + 1)
  obtain ⟨B, qv', h1, h2, h3, h4⟩ := ev16 hE h (b := txt (n + 1)) ⟨by omega, by unfold stN; rw [msgs_len]; exact hn⟩ (by unfold stN; simp only; omega)
  rw [stN_succ] at h2
  refine ⟨B, qv', h1, h2, h3.mono fun j _ hj => ?_, fun j hj => ?_⟩
  · rw [List.mem_cons] at hj
    exact mem_own.2 (hj.imp (fun h => h) .inl)
  · rcases mem_own.1 hj with hj | hj | hj
    · exact .inl (mem_own.2 (.inl hj))
    · exact .inr (h4 j hj)
    · exact .inl (mem_own.2 (.inr (.inr hj)))
end Go.Proofs.Ytfidjdlmmcaplaa
