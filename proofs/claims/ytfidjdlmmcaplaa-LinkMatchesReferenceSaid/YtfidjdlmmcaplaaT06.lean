/-
  What the proof is built on (L31 to L39).
-/
import Derived.Test.YtfidjdlmmcaplaaT05
import Derived.Test.YtfidjdlmmcaplaaT04
import Derived.Test.YtfidjdlmmcaplaaChecked
import Derived.KernelRfl
/-
  Link: the reference's Tick, a round.
-/
namespace Go.Proofs.Ytfidjdlmmcaplaa
open Go

section
variable {A : Arena} {id : Nat} {S : EndS} {qv lv : AV}
set_option maxRecDepth 100000 in
set_option maxHeartbeats 4000000 in
theorem round20 (fuel : Nat) {i : Nat} (hi : i < S.queue.length) (hi8 : i < 8) (hh : S.heard = true) (htb : 0 ≤ S.ticks ∧ S.ticks ≤ 1152921504606846976) (hq : ∀ q ∈ S.queue, 0 ≤ q.at_ ∧ q.at_ ≤ 1152921504606846976)
    (hE : EndAt A id { S with queue := qS S.ticks S.heard i S.queue } qv lv) {out : AV} {xs : List FrS} (hO : SlP 5 A out (xs.map frA)) (hx8 : xs.length ≤ 8) (hOi : ∀ j, j ∈ own id qv lv → j ∉ idsOf out) :
    ∃ A' out', run (envOf GW fs20) fuel [.code lp20x0] (st20x0 (.ptr id 0 0) out (.int .i64 (i : Int))) A = some (.normal (st20x0 (.ptr id 0 0) out' (.int .i64 ((i + 1 : Nat) : Int))) A') ∧
      EndAt A' id { S with queue := qS S.ticks S.heard (i + 1) S.queue } qv lv ∧ SlP 5 A' out' ((xs ++ if (S.heard && dueS S.ticks (S.queue[i]'hi).at_) = true then [frameS S (S.queue[i]'hi)] else []).map frA) ∧ (∀ j, j ∈ idsOf out' → j ∈ idsOf out ∨ A.length ≤ j) ∧ Fr A A' (own id qv lv ++ idsOf out) := by
  obtain ⟨q, hqd⟩ : ∃ q, q = S.queue[i] := ⟨_, rfl⟩
  rw [← hqd]
  have hqb := hq q (by rw [hqd]; exact List.getElem_mem hi)
  have hrow : A[id]? = some (.row 10 false [.agg [.int .i64 S.epoch, .int .i64 S.peer, qv, .int .i64 S.next, .int .i64 S.received, .bool S.owes, .int .i64 S.ticks, .bool S.heard, .int .i64 S.hello, lv]]) := hE.row
  have hid := (List.getElem?_eq_some_iff.1 hrow).1
  have hE0 := hE
  obtain ⟨_, h2, h3, h4, h5, h6⟩ := hE
  have hql : ((qS S.ticks S.heard i S.queue).map qA).length = S.queue.length := by rw [List.length_map, qS_len]
  have hlen := h2.len
  rw [hql] at hlen
  have hxi : ((qS S.ticks S.heard i S.queue).map qA)[i]? = some (qA q) := by rw [List.getElem?_map, qS_at _ _ hi, hqd]; rfl
  obtain ⟨r, es, e1, e2, e3, e4⟩ := h2.index (i := i) (by rw [hql]; exact hi) (by omega) .i64
  rw [show ((qS S.ticks S.heard i S.queue).map qA)[i]'(by rw [hql]; exact hi) = qA q from by
    have := hxi
    rw [List.getElem?_eq_getElem (by rw [hql]; exact hi)] at this
    exact Option.some.inj this] at e3
  have hes : es.take ((qS S.ticks S.heard i S.queue).map qA).length = (qS S.ticks S.heard i S.queue).map qA := by
    rcases h2 with ⟨hh, _⟩ | ⟨r', es', g1, g2, g3⟩
    · rw [e1] at hh; cases hh
    · rw [e1] at g1
      injection g1 with g1
      subst g1
      rw [e2] at g2
      injection g2 with g2
      injection g2 with _ _ g2
      rw [g2]; exact g3
  have b1 := evLss (i : Int) (S.queue.length : Int)
  rw [decide_eq_true (by omega)] at b1
  have b2 := evLss (i : Int) 8
  rw [decide_eq_true (by omega)] at b2
  have b3 := evAdd (a := (i : Int)) (b := 1) (by omega)
  rw [show (i : Int) + 1 = ((i + 1 : Nat) : Int) by omega] at b3
  have b4 := evEql q.at_ 0
  have b5 := evSub (a := S.ticks) (b := q.at_) (by omega)
  have b6 := evGeq (S.ticks - q.at_) 3
  obtain ⟨w, hw⟩ : ∃ w, w = S.ticks - q.at_ := ⟨_, rfl⟩
  rw [← hw] at b5 b6
  -- the copy
  obtain ⟨A0, hA0⟩ : ∃ A0, A0 = A ++ [Ent.row 3 false [qA q]] := ⟨_, rfl⟩
  have hA0l : A0.length = A.length + 1 := by rw [hA0]; simp
  have hF0 : Fr A A0 [] := by rw [hA0]; exact Fr.app _ _ _
  have hrow0 : A0[id]? = _ := (hF0.2 id hid (by simp)).trans hrow
  have hrl := (List.getElem?_eq_some_iff.1 e2).1
  have e20 : A0[r]? = some (.row 3 false es) := (hF0.2 r hrl (by simp)).trans e2
  have hcp : A0[A.length]? = some (.row 3 false [.agg [.int .i64 q.seq, .str q.body, .int .i64 q.at_]]) := by rw [hA0]; simp [qA]
  have hst0 : evStore 3 (A ++ [Ent.row 3 false [.agg [.int .i64 0, .str [], .int .i64 0]]]) (.ptr A.length 0 0) (.agg [.int .i64 q.seq, .str q.body, .int .i64 q.at_]) = some A0 := by
    rw [hA0]; simp [qA]
  have e3' : es[i]? = some (.agg [.int .i64 q.seq, .str q.body, .int .i64 q.at_]) := e3
  have lde : loadElem (.agg [.int .i64 q.seq, .str q.body, .int .i64 q.at_]) 3 0 true 3 = some (.agg [.int .i64 q.seq, .str q.body, .int .i64 q.at_]) := rfl
  have hE1 : EndAt A0 id { S with queue := qS S.ticks S.heard i S.queue } qv lv := hE0.beside hF0 (fun j _ => by simp)
  have hO0 : SlP 5 A0 out (xs.map frA) := hO.keep fun j hj => hF0.2 j (hO.low j hj) (by simp)
  have e40 : evIndexSl 3 A0 qv (.int .i64 (i : Int)) = some (.ptr r i 0) := by
    rw [e1] at e4 ⊢
    rw [evIndexSl_congr (A := A) (B := A0) (fun j hj => by simp [idsOf] at hj; subst hj; rw [e20, e2])]
    exact e4
  obtain ⟨j1, hj1⟩ : ∃ j1 : Nat, j1 = i + 1 := ⟨_, rfl⟩
  by_cases hdue : dueS S.ticks q.at_ = true
  rotate_left
  · have hdf : (S.heard && dueS S.ticks q.at_) = false := by rw [hh, Bool.true_and]; simpa using hdue
    have hsq : sentQ S.ticks S.heard S.queue[i] = S.queue[i] := by unfold sentQ; rw [← hqd, if_neg (by rw [hdf]; simp)]
    rw [if_neg (by rw [hdf]; simp), List.append_nil, qS_same _ _ hi hsq]
    refine ⟨A0, out, ?_, hE1, hO0, fun j hj => .inl hj, hF0.mono fun j _ hj => by simp at hj⟩
    rw [← hj1] at b3 ⊢
    unfold dueS at hdue
    rw [Bool.or_eq_true, not_or] at hdue
    rw [Bool.not_eq_true, Bool.not_eq_true] at hdue
    rw [← hw] at hdue
    rw [hdue.1] at b4
    rw [hdue.2] at b6
    simp [lp20x0, b1, b2, b3, b4, b5, b6, hrow, hh, hlen, e4, e2, e3', lde, hst0, hcp, hrow0, -evBin, -evIndexSl, -evLenSl, -evStore]
  · have hdt : (S.heard && dueS S.ticks q.at_) = true := by rw [hh, hdue]; rfl
    rw [if_pos hdt]
    have hsq : sentQ S.ticks S.heard S.queue[i] = { q with at_ := S.ticks } := by unfold sentQ; rw [← hqd, if_pos hdt]
    have hrid : r ≠ id := fun e => h4 (by rw [e1, e]; simp [idsOf])
    obtain ⟨A1, hA1⟩ : ∃ A1, A1 = A0.set r (.row 3 false (es.set i (qA { q with at_ := S.ticks }))) := ⟨_, rfl⟩
    have hA1l : A1.length = A.length + 1 := by rw [hA1, List.length_set, hA0l]
    have hA1o : ∀ j, j ≠ r → A1[j]? = A0[j]? := fun j hj => by rw [hA1, List.getElem?_set_ne (Ne.symm hj)]
    have hE2 : EndAt A1 id { S with queue := qS S.ticks S.heard (i + 1) S.queue } qv lv := by
      refine ⟨by rw [hA1o id (Ne.symm hrid)]; exact hE1.row, ?_, hE1.2.2.1.keep fun j hj => hA1o j (fun e => h6 r (by rw [e1]; simp [idsOf]) (e ▸ hj)), h4, h5, h6⟩
      have := SlP.store (i := i) (x := qA { q with at_ := S.ticks }) e20 hes rfl (by rw [hql]; exact hi)
      rw [← hA1, ← e1] at this
      rw [qS_succ _ _ hi, hsq, List.map_set]
      exact this
    have hO1 : SlP 5 A1 out (xs.map frA) := hO0.keep fun j hj => hA1o j (fun e => hOi r (mem_own.2 (.inr (.inl (by rw [e1]; simp [idsOf])))) (e ▸ hj))
    obtain ⟨B, k1, k2, k3, k4, _⟩ := hO1.appendN (bytes := 48) (x := .fs 5 [frA (frameS S q)]) (ys := [frA (frameS S q)]) rfl (by simp) (by omega) (by omega) (by simp; omega)
    have hE3 : EndAt B id { S with queue := qS S.ticks S.heard (i + 1) S.queue } qv lv := hE2.keep fun j hj => k3.2 j (hE2.low j hj) (hOi j hj)
    have hxl : (xs.map frA ++ [frA (frameS S q)]) = (xs ++ [frameS S q]).map frA := by simp
    refine ⟨B, .sl A1.length 0 (xs.map frA ++ [frA (frameS S q)]).length, ?_, hE3, by rw [← hxl]; exact k2, fun j hj => ?_, ?_⟩
    · have hlen2 : (xs.map frA ++ [frA (frameS S q)]).length = xs.length + 1 := by simp
      rw [hlen2] at k1 ⊢
      have hA1' : A0.set r (.row 3 false (es.set i (.agg [.int .i64 q.seq, .str q.body, .int .i64 S.ticks]))) = A1 := by rw [hA1]; rfl
      have hst : evStore 1 A0 (.ptr r i 2) (.int .i64 S.ticks) = some A1 := by
        simp [e20, e3', hA1']
      have hrow1 : A1[id]? = some (.row 10 false [.agg [.int .i64 S.epoch, .int .i64 S.peer, qv, .int .i64 S.next, .int .i64 S.received, .bool S.owes, .int .i64 S.ticks, .bool S.heard, .int .i64 S.hello, lv]]) := hE2.row
      have hcp1 : A1[A.length]? = some (.row 3 false [.agg [.int .i64 q.seq, .str q.body, .int .i64 q.at_]]) := by
        rw [hA1o A.length (by omega)]; exact hcp
      have ef : frA (frameS S q) = .agg [.int .i64 S.epoch, .int .i64 S.peer, .int .i64 q.seq, .int .i64 S.received, .str q.body] := rfl
      rw [ef] at k1
      obtain ⟨N, hN⟩ : ∃ N, N = xs.length + 1 := ⟨_, rfl⟩
      rw [← hN] at k1 ⊢
      rw [← hj1] at b3 ⊢
      unfold dueS at hdue
      rw [← hw] at hdue
      cases ha : decide (q.at_ = 0) with
      | true =>
        rw [ha] at b4
        simp [lp20x0, b1, b2, b3, b4, hrow, hh, hlen, e4, e2, e3', lde, hst0, hcp, hrow0, e20, e40, hst, hrow1, hcp1, k1, -evBin, -evIndexSl, -evLenSl, -evStore]
      | false =>
        rw [ha] at b4 hdue
        rw [Bool.false_or] at hdue
        rw [hdue] at b6
        simp [lp20x0, b1, b2, b3, b4, b5, b6, hrow, hh, hlen, e4, e2, e3', lde, hst0, hcp, hrow0, e20, e40, hst, hrow1, hcp1, k1, -evBin, -evIndexSl, -evLenSl, -evStore]
    · simp [idsOf] at hj; exact .inr (by omega)
    · refine ⟨by omega, fun j hj hn => ?_⟩
      rw [List.mem_append, not_or] at hn
      rw [k3.2 j (by omega) hn.2, hA1o j (fun e => hn.1 (mem_own.2 (.inr (.inl (by rw [e1, e]; simp [idsOf]))))), hF0.2 j hj (by simp)]
end
section
variable {A : Arena} {id : Nat} {S : EndS} {qv lv : AV} (hE : EndAt A id S qv lv)
include hE
set_option maxRecDepth 100000 in
theorem loop20 (htb : 0 ≤ S.ticks ∧ S.ticks ≤ 1152921504606846976) (hq : ∀ q ∈ S.queue, 0 ≤ q.at_ ∧ q.at_ ≤ 1152921504606846976) :
    ∃ B out i v5, iter (evC (envOf GW fs20) 300 lp20x0) mask20x0 300 (st20x0 (.ptr id 0 0) .nilS (.int .i64 0)) A = some (.exit 0 ((st20x0 (.ptr id 0 0) out (.int .i64 i)).set 5 v5) B) ∧
      EndAt B id { S with queue := (S.queue.take 8).map (sentQ S.ticks S.heard) ++ S.queue.drop 8 } qv lv ∧ SlP 5 B out ((outS S S.ticks).map frA) ∧ (∀ j, j ∈ idsOf out → A.length ≤ j) ∧ Fr A B (own id qv lv) := by
  obtain ⟨k, hk⟩ : ∃ k, k = if S.heard = true then min S.queue.length 8 else 0 := ⟨_, rfl⟩
  have hqs : qS S.ticks S.heard k S.queue = (S.queue.take 8).map (sentQ S.ticks S.heard) ++ S.queue.drop 8 := by
    unfold qS
    by_cases h : S.heard = true
    · rw [if_pos h] at hk
      by_cases h8 : S.queue.length ≤ 8
      · have : k = S.queue.length := by omega
        rw [this, List.take_of_length_le h8, List.drop_of_length_le h8, List.take_of_length_le (Nat.le_refl _), List.drop_of_length_le (Nat.le_refl _)]
      · rw [show k = 8 by omega]
    · rw [if_neg h] at hk
      have hs : ∀ l : List QE, l.map (sentQ S.ticks S.heard) = l := fun l => by
        conv => rhs; rw [← List.map_id l]
        refine List.map_congr_left fun q _ => ?_
        unfold sentQ
        rw [Bool.not_eq_true] at h
        rw [h]
        rfl
      rw [hs, hs, List.take_append_drop, List.take_append_drop]
  have hos : outI S S.ticks k = outS S S.ticks := by
    unfold outI outS
    by_cases h : S.heard = true
    · rw [if_pos h] at hk
      by_cases h8 : S.queue.length ≤ 8
      · rw [show k = S.queue.length by omega, List.take_of_length_le h8, List.take_of_length_le (Nat.le_refl _)]
      · rw [show k = 8 by omega]
    · rw [Bool.not_eq_true] at h
      have hf : ∀ l : List QE, l.filter (fun q => S.heard && dueS S.ticks q.at_) = [] := fun l => by
        rw [List.filter_eq_nil_iff]
        intro q _
        rw [h]
        simp
      rw [hf, hf]
  have hk8 : k ≤ 8 ∧ k ≤ S.queue.length := by rw [hk]; split <;> omega
  obtain ⟨o, h1, B, out, v5, rfl, h2⟩ := iter_inv (E := envOf GW fs20) (fuel := 300) (a := lp20x0) (mask := mask20x0)
    (fun κ σ A' => ∃ i out, i + κ = k ∧ σ = st20x0 (.ptr id 0 0) out (.int .i64 (i : Int)) ∧ EndAt A' id { S with queue := qS S.ticks S.heard i S.queue } qv lv ∧ SlP 5 A' out ((outI S S.ticks i).map frA) ∧ (∀ j, j ∈ idsOf out → A.length ≤ j) ∧ Fr A A' (own id qv lv))
    (fun o => ∃ B out v5, o = .exit 0 ((st20x0 (.ptr id 0 0) out (.int .i64 (k : Int))).set 5 v5) B ∧ EndAt B id { S with queue := qS S.ticks S.heard k S.queue } qv lv ∧ SlP 5 B out ((outI S S.ticks k).map frA) ∧ (∀ j, j ∈ idsOf out → A.length ≤ j) ∧ Fr A B (own id qv lv))
    (by
      rintro κ σ A' ⟨i, out, hik, rfl, g1, g2, g3, g4⟩
      rw [cl20x0]
      by_cases hi : i < k
      · have hheard : S.heard = true := by
          cases h : S.heard with
          | true => rfl
          | false => rw [h] at hk; simp at hk; omega
        have hO : ∀ j, j ∈ own id qv lv → j ∉ idsOf out := fun j hj hj2 => by
          have := hE.low j hj
          have := g3 j hj2
          omega
        obtain ⟨A2, out2, c1, c2, c3, c4, c5⟩ := round20 300 (show i < S.queue.length by omega) (by omega) hheard htb hq g1 g2 (Nat.le_trans (outI_len _ _ _) (by omega)) hO
        refine .inl ⟨_, _, c1, κ - 1, by omega, i + 1, out2, by omega, rfl, c2, by rw [outI_succ S S.ticks (by omega)]; exact c3, fun j hj => (c4 j hj).elim (g3 j) (fun h => Nat.le_trans g4.1 h), ?_⟩
        exact g4.trans c5 fun j hj => by
          rw [List.mem_append] at hj
          exact hj.imp (fun h => h) (g3 j)
      · obtain rfl : i = k := by omega
        have hrow : A'[id]? = some (.row 10 false [.agg [.int .i64 S.epoch, .int .i64 S.peer, qv, .int .i64 S.next, .int .i64 S.received, .bool S.owes, .int .i64 S.ticks, .bool S.heard, .int .i64 S.hello, lv]]) := g1.row
        have hlen := g1.2.1.len
        rw [List.length_map, qS_len] at hlen
        have b1 := evLss (i : Int) (S.queue.length : Int)
        have b2 := evLss (i : Int) 8
        by_cases h1 : i < S.queue.length
        · rw [decide_eq_true (by omega)] at b1
          by_cases h2 : i < 8
          · rw [decide_eq_true (by omega)] at b2
            have hheard : S.heard = false := by
              cases h : S.heard with
              | false => rfl
              | true => rw [h] at hk; simp at hk; omega
            refine .inr ⟨_, ?_, (fun _ _ h => by cases h), A', out, .bool false, rfl, g1, g2, g3, g4⟩
            simp [lp20x0, hrow, hlen, b1, b2, hheard, -evBin, -evLenSl]
          · rw [decide_eq_false (by omega)] at b2
            refine .inr ⟨_, ?_, (fun _ _ h => by cases h), A', out, .bool false, rfl, g1, g2, g3, g4⟩
            simp [lp20x0, hrow, hlen, b1, b2, -evBin, -evLenSl]
        · rw [decide_eq_false (by omega)] at b1
          refine .inr ⟨_, ?_, (fun _ _ h => by cases h), A', out, .bool false, rfl, g1, g2, g3, g4⟩
          simp [lp20x0, hrow, hlen, b1, -evBin, -evLenSl])
    300 k (st20x0 (.ptr id 0 0) .nilS (.int .i64 0)) A (by omega) ⟨0, .nilS, by omega, rfl, by
      have : qS S.ticks S.heard 0 S.queue = S.queue := by simp [qS]
      rw [this]; exact hE, .inl ⟨rfl, rfl⟩, by simp, Fr.refl _ _⟩
  rw [hqs, hos] at h2
  exact ⟨B, out, _, v5, h1, h2⟩
end
end Go.Proofs.Ytfidjdlmmcaplaa
/-
  Link: the reference's Tick, whole.
-/
namespace Go.Proofs.Ytfidjdlmmcaplaa
open Go

def T20_0 : MC := .region [⟨some 1, .mv (.cst .nilS), none⟩]
def T20_1 : MC := .region [⟨none, .mv (.var 0), none⟩, ⟨none, .nilCheck (.tmp 0), none⟩, ⟨none, .fieldAddr 6 (.tmp 1), none⟩, ⟨none, .load false 1 (.tmp 2), none⟩, ⟨none, .bin .add (.tmp 3) (.cst (.int .i64 1)), none⟩, ⟨none, .nilCheck (.tmp 0), none⟩, ⟨none, .fieldAddr 6 (.tmp 5), none⟩, ⟨none, .store 1 (.tmp 6) (.tmp 4), none⟩]
def T20_2 : MC := .region [⟨some 2, .mv (.cst .nilS), none⟩]
def T20_3 : MC := .seq (.region [⟨some 3, .mv (.cst (.int .i64 0)), none⟩]) (.seq (.block 0 (.loop [1, 4, 5, 6, 7, 8, 9] lp20x0)) (.kill [1, 3, 4, 5, 6, 7, 8, 9]))
def T20_4 : MC := .seq (.region [⟨none, .mv (.var 2), none⟩, ⟨none, .lenSl (.tmp 0), none⟩, ⟨none, .bin .eql (.tmp 1) (.cst (.int .i64 0)), none⟩, ⟨none, .mv (.tmp 2), none⟩, ⟨none, .mv (.var 0), some (.tmp 3, true)⟩, ⟨none, .nilCheck (.tmp 4), some (.tmp 3, true)⟩, ⟨none, .fieldAddr 5 (.tmp 5), some (.tmp 3, true)⟩, ⟨none, .load false 1 (.tmp 6), some (.tmp 3, true)⟩, ⟨none, .pick (.tmp 3) (.tmp 7) (.cst (.bool false)), none⟩, ⟨none, .mv (.tmp 8), none⟩, ⟨none, .mv (.var 0), some (.tmp 9, true)⟩, ⟨none, .nilCheck (.tmp 10), some (.tmp 9, true)⟩, ⟨none, .fieldAddr 1 (.tmp 11), some (.tmp 9, true)⟩, ⟨none, .load false 1 (.tmp 12), some (.tmp 9, true)⟩, ⟨none, .bin .gtr (.tmp 13) (.cst (.int .i64 0)), some (.tmp 9, true)⟩, ⟨some 7, .pick (.tmp 9) (.tmp 14) (.cst (.bool false)), none⟩]) (.cond (.var 7) (.region [⟨none, .mv (.var 2), none⟩, ⟨none, .mv (.var 0), none⟩, ⟨none, .nilCheck (.tmp 1), none⟩, ⟨none, .fieldAddr 0 (.tmp 2), none⟩, ⟨none, .load false 1 (.tmp 3), none⟩, ⟨none, .mv (.var 0), none⟩, ⟨none, .nilCheck (.tmp 5), none⟩, ⟨none, .fieldAddr 1 (.tmp 6), none⟩, ⟨none, .load false 1 (.tmp 7), none⟩, ⟨none, .mv (.var 0), none⟩, ⟨none, .nilCheck (.tmp 9), none⟩, ⟨none, .fieldAddr 4 (.tmp 10), none⟩, ⟨none, .load false 1 (.tmp 11), none⟩, ⟨none, .build [.int .i64 0, .int .i64 0, .int .i64 0, .int .i64 0, .str []] [(0, (1, .tmp 4)), (1, (1, .tmp 8)), (3, (1, .tmp 12))], none⟩, ⟨none, .buildF 5 [.tmp 13], none⟩, ⟨none, .appendN 5 48 (.tmp 0) (.tmp 14), none⟩, ⟨some 2, .mv (.tmp 15), none⟩]) .skip)
def T20_5 : MC := .seq (.region [⟨none, .mv (.var 2), none⟩, ⟨none, .lenSl (.tmp 0), none⟩, ⟨some 8, .bin .gtr (.tmp 1) (.cst (.int .i64 0)), none⟩]) (.cond (.var 8) (.region [⟨none, .mv (.var 0), none⟩, ⟨none, .nilCheck (.tmp 0), none⟩, ⟨none, .fieldAddr 5 (.tmp 1), none⟩, ⟨none, .store 1 (.tmp 2) (.cst (.bool false)), none⟩]) .skip)
def T20_6 : MC := .seq (.region [⟨none, .mv (.var 0), none⟩, ⟨none, .nilCheck (.tmp 0), none⟩, ⟨none, .fieldAddr 7 (.tmp 1), none⟩, ⟨none, .load false 1 (.tmp 2), none⟩, ⟨none, .un .not (.tmp 3), none⟩, ⟨none, .mv (.tmp 4), none⟩, ⟨none, .mv (.var 0), some (.tmp 5, true)⟩, ⟨none, .nilCheck (.tmp 6), some (.tmp 5, true)⟩, ⟨none, .fieldAddr 8 (.tmp 7), some (.tmp 5, true)⟩, ⟨none, .load false 1 (.tmp 8), some (.tmp 5, true)⟩, ⟨none, .bin .eql (.tmp 9) (.cst (.int .i64 0)), some (.tmp 5, true)⟩, ⟨none, .mv (.tmp 10), some (.tmp 5, true)⟩, ⟨none, .mv (.var 0), some (.tmp 11, false)⟩, ⟨none, .nilCheck (.tmp 12), some (.tmp 11, false)⟩, ⟨none, .fieldAddr 6 (.tmp 13), some (.tmp 11, false)⟩, ⟨none, .load false 1 (.tmp 14), some (.tmp 11, false)⟩, ⟨none, .mv (.var 0), some (.tmp 11, false)⟩, ⟨none, .nilCheck (.tmp 16), some (.tmp 11, false)⟩, ⟨none, .fieldAddr 8 (.tmp 17), some (.tmp 11, false)⟩, ⟨none, .load false 1 (.tmp 18), some (.tmp 11, false)⟩, ⟨none, .bin .sub (.tmp 15) (.tmp 19), some (.tmp 11, false)⟩, ⟨none, .bin .geq (.tmp 20) (.cst (.int .i64 3)), some (.tmp 11, false)⟩, ⟨none, .pick (.tmp 11) (.cst (.bool true)) (.tmp 21), some (.tmp 5, true)⟩, ⟨some 9, .pick (.tmp 5) (.tmp 22) (.cst (.bool false)), none⟩]) (.cond (.var 9) (.seq (.region [⟨none, .mv (.var 2), none⟩, ⟨none, .mv (.var 0), none⟩, ⟨none, .nilCheck (.tmp 1), none⟩, ⟨none, .fieldAddr 0 (.tmp 2), none⟩, ⟨none, .load false 1 (.tmp 3), none⟩, ⟨none, .build [.int .i64 0, .int .i64 0, .int .i64 0, .int .i64 0, .str []] [(0, (1, .tmp 4))], none⟩, ⟨none, .buildF 5 [.tmp 5], none⟩, ⟨none, .appendN 5 48 (.tmp 0) (.tmp 6), none⟩, ⟨some 2, .mv (.tmp 7), none⟩]) (.region [⟨none, .mv (.var 0), none⟩, ⟨none, .mv (.var 0), none⟩, ⟨none, .nilCheck (.tmp 1), none⟩, ⟨none, .fieldAddr 6 (.tmp 2), none⟩, ⟨none, .load false 1 (.tmp 3), none⟩, ⟨none, .nilCheck (.tmp 0), none⟩, ⟨none, .fieldAddr 8 (.tmp 5), none⟩, ⟨none, .store 1 (.tmp 6) (.tmp 4), none⟩])) .skip)
def T20_7 : MC := .region [⟨none, .mv (.var 2), none⟩, ⟨some 1, .mv (.tmp 0), none⟩]
def T20_8 : MC := .ret
theorem T20__eq : mf20 = ⟨1, 10, .seq T20_0 (.seq T20_1 (.seq T20_2 (.seq T20_3 (.seq T20_4 (.seq T20_5 (.seq T20_6 (.seq T20_7 T20_8))))))), [.tmp 1]⟩ := rfl
section
variable {A : Arena} {id : Nat} {S : EndS} {qv lv : AV} (hE : EndAt A id S qv lv)
include hE
set_option maxRecDepth 100000 in
theorem r20_4 {K : List KC} {fuel : Nat} {out : AV} {xs : List FrS} (hO : SlP 5 A out (xs.map frA)) (hOi : ∀ j, j ∈ own id qv lv → j ∉ idsOf out) (hx : xs.length ≤ 100) (d1 d3 d4 d5 d6 d7 d8 d9 : AV) :
    ∃ B out' d7', run (envOf GW fs20) fuel (.code T20_4 :: K) [.ptr id 0 0, d1, out, d3, d4, d5, d6, d7, d8, d9] A = run (envOf GW fs20) fuel K [.ptr id 0 0, d1, out', d3, d4, d5, d6, d7', d8, d9] B ∧
      EndAt B id S qv lv ∧ SlP 5 B out' ((if xs.length = 0 ∧ S.owes = true ∧ S.peer > 0 then [⟨S.epoch, S.peer, 0, S.received, []⟩] else xs).map frA) ∧ (∀ j, j ∈ idsOf out' → j ∈ idsOf out ∨ A.length ≤ j) ∧ Fr A B (own id qv lv ++ idsOf out) := by
  have hrow := hE.row
  have hlen := frLen hO
  have b1 := evEql (xs.length : Int) 0
  have b2 := evGtr S.peer 0
  by_cases hc : xs.length = 0 ∧ S.owes = true ∧ S.peer > 0
  rotate_left
  · rw [if_neg hc]
    refine ⟨A, out, .bool false, ?_, hE, hO, fun j hj => .inl hj, Fr.refl _ _⟩
    by_cases h1 : xs.length = 0
    · rw [decide_eq_true (by omega)] at b1
      cases h2 : S.owes with
      | false => simp [T20_4, hrow, hlen, b1, h2, -evBin, -evLenSl]
      | true =>
        rw [decide_eq_false (fun h => hc ⟨h1, h2, h⟩)] at b2
        simp [T20_4, hrow, hlen, b1, b2, h2, -evBin, -evLenSl]
    · rw [decide_eq_false (by omega)] at b1
      simp [T20_4, hrow, hlen, b1, -evBin, -evLenSl]
  · rw [if_pos hc]
    obtain ⟨h1, h2, h3⟩ := hc
    rw [decide_eq_true (by omega)] at b1
    rw [decide_eq_true h3] at b2
    have hx0 : xs = [] := List.length_eq_zero_iff.1 h1
    subst hx0
    obtain ⟨B, k1, k2, k3, k4, _⟩ := hO.appendN (bytes := 48) (x := .fs 5 [frA ⟨S.epoch, S.peer, 0, S.received, []⟩]) (ys := [frA ⟨S.epoch, S.peer, 0, S.received, []⟩]) rfl (by simp) (by omega) (by omega) (by simp)
    refine ⟨B, .sl A.length 0 1, .bool true, ?_, hE.keep fun j hj => k3.2 j (hE.low j hj) (hOi j hj), k2, fun j hj => ?_, ⟨by omega, fun j hj hn => k3.2 j hj (fun h => hn (List.mem_append.2 (.inr h)))⟩⟩
    · have e0 : frA ⟨S.epoch, S.peer, 0, S.received, []⟩ = .agg [.int .i64 S.epoch, .int .i64 S.peer, .int .i64 0, .int .i64 S.received, .str []] := rfl
      rw [e0] at k1
      have k1' : evAppendN 5 48 A out (.fs 5 [.agg [.int .i64 S.epoch, .int .i64 S.peer, .int .i64 0, .int .i64 S.received, .str []]]) = some (.sl A.length 0 1, B) := k1
      have hlen' : evLenSl out = some (.int .i64 0) := hlen
      have b1' : evBin .eql (.int .i64 0) (.int .i64 0) = some (.bool true) := rfl
      simp [T20_4, hrow, hlen', b1', b2, h2, k1', -evBin, -evLenSl]
    · simp [idsOf] at hj; exact .inr (by omega)
set_option maxRecDepth 100000 in
theorem r20_5 {K : List KC} {fuel : Nat} {out : AV} {xs : List FrS} (hO : SlP 5 A out (xs.map frA)) (hOi : ∀ j, j ∈ own id qv lv → j ∉ idsOf out) (d1 d3 d4 d5 d6 d7 d8 d9 : AV) :
    ∃ B d8', run (envOf GW fs20) fuel (.code T20_5 :: K) [.ptr id 0 0, d1, out, d3, d4, d5, d6, d7, d8, d9] A = run (envOf GW fs20) fuel K [.ptr id 0 0, d1, out, d3, d4, d5, d6, d7, d8', d9] B ∧
      EndAt B id { S with owes := S.owes && decide (xs.length = 0) } qv lv ∧ SlP 5 B out (xs.map frA) ∧ Fr A B [id] := by
  have hrow := hE.row
  have hid := (List.getElem?_eq_some_iff.1 hrow).1
  have hlen := frLen hO
  have b1 := evGtr (xs.length : Int) 0
  by_cases hc : xs.length = 0
  · rw [decide_eq_false (by omega)] at b1
    refine ⟨A, .bool false, ?_, ?_, hO, Fr.refl _ _⟩
    · simp [T20_5, hrow, hlen, b1, -evBin, -evLenSl]
    · rw [decide_eq_true hc, Bool.and_true]; exact hE
  · rw [decide_eq_true (by omega)] at b1
    obtain ⟨A1, hA1⟩ : ∃ A1, A1 = A.set id (.row 10 false [.agg [.int .i64 S.epoch, .int .i64 S.peer, qv, .int .i64 S.next, .int .i64 S.received, .bool false, .int .i64 S.ticks, .bool S.heard, .int .i64 S.hello, lv]]) := ⟨_, rfl⟩
    have hA1o : ∀ j, j ≠ id → A1[j]? = A[j]? := fun j hj => by rw [hA1, List.getElem?_set_ne (Ne.symm hj)]
    have hst : evStore 1 A (.ptr id 0 5) (.bool false) = some A1 := by
      rw [hA1]; simp [hrow]
    refine ⟨A1, .bool true, ?_, ?_, hO.keep fun j hj => hA1o j (fun e => hOi id (mem_own.2 (.inl rfl)) (e ▸ hj)), by rw [hA1]; exact Fr.set _ _ _⟩
    · simp [T20_5, hrow, hlen, b1, hst, -evBin, -evLenSl, -evStore]
    · rw [decide_eq_false hc, Bool.and_false]
      refine hE.turn (by rw [hA1, List.getElem?_set_self hid]) ?_ ?_ (fun j hj => .inl hj) (fun j hj => .inl hj) hE.2.2.2.2.2
      · exact hE.2.1.keep fun j hj => hA1o j (fun e => hE.2.2.2.1 (e ▸ hj))
      · exact hE.2.2.1.keep fun j hj => hA1o j (fun e => hE.2.2.2.2.1 (e ▸ hj))
set_option maxRecDepth 100000 in
theorem r20_6 {K : List KC} {fuel : Nat} {out : AV} {xs : List FrS} (hO : SlP 5 A out (xs.map frA)) (hOi : ∀ j, j ∈ own id qv lv → j ∉ idsOf out) (hx : xs.length ≤ 100) (htb : 0 ≤ S.ticks ∧ S.ticks ≤ 1152921504606846976) (hh : 0 ≤ S.hello ∧ S.hello ≤ 1152921504606846976) (d1 d3 d4 d5 d6 d7 d8 d9 : AV) :
    ∃ B out' d9', run (envOf GW fs20) fuel (.code T20_6 :: K) [.ptr id 0 0, d1, out, d3, d4, d5, d6, d7, d8, d9] A = run (envOf GW fs20) fuel K [.ptr id 0 0, d1, out', d3, d4, d5, d6, d7, d8, d9'] B ∧
      EndAt B id (if S.heard = false ∧ dueS S.ticks S.hello = true then { S with hello := S.ticks } else S) qv lv ∧ SlP 5 B out' ((if S.heard = false ∧ dueS S.ticks S.hello = true then xs ++ [⟨S.epoch, 0, 0, 0, []⟩] else xs).map frA) ∧ (∀ j, j ∈ idsOf out' → j ∈ idsOf out ∨ A.length ≤ j) ∧ Fr A B (own id qv lv ++ idsOf out) := by
  have hrow := hE.row
  have hid := (List.getElem?_eq_some_iff.1 hrow).1
  have b4 := evEql S.hello 0
  have b5 := evSub (a := S.ticks) (b := S.hello) (by omega)
  have b6 := evGeq (S.ticks - S.hello) 3
  obtain ⟨w, hw⟩ : ∃ w, w = S.ticks - S.hello := ⟨_, rfl⟩
  rw [← hw] at b5 b6
  have hdd : dueS S.ticks S.hello = (decide (S.hello = 0) || decide (w ≥ 3)) := by rw [hw]; rfl
  by_cases hc : S.heard = false ∧ dueS S.ticks S.hello = true
  rotate_left
  · rw [if_neg hc, if_neg hc]
    refine ⟨A, out, .bool false, ?_, hE, hO, fun j hj => .inl hj, Fr.refl _ _⟩
    cases ht : S.heard with
    | true => simp [T20_6, hrow, ht, -evBin]
    | false =>
      have hdue : dueS S.ticks S.hello = false := by
        cases h : dueS S.ticks S.hello with
        | false => rfl
        | true => exact absurd ⟨ht, h⟩ hc
      rw [hdd, Bool.or_eq_false_iff] at hdue
      rw [hdue.1] at b4
      rw [hdue.2] at b6
      simp [T20_6, hrow, ht, b4, b5, b6, -evBin]
  rw [if_pos hc, if_pos hc]
  obtain ⟨ht, hdue⟩ := hc
  rw [hdd] at hdue
  obtain ⟨A2, k1, k2, k3, k4, _⟩ := hO.appendN (bytes := 48) (x := .fs 5 [frA ⟨S.epoch, 0, 0, 0, []⟩]) (ys := [frA ⟨S.epoch, 0, 0, 0, []⟩]) rfl (by simp) (by omega) (by omega) (by simp; omega)
  have hxl : (xs.map frA ++ [frA ⟨S.epoch, 0, 0, 0, []⟩]) = (xs ++ [(⟨S.epoch, 0, 0, 0, []⟩ : FrS)]).map frA := by simp
  have hE2 : EndAt A2 id S qv lv := hE.keep fun j hj => k3.2 j (hE.low j hj) (hOi j hj)
  have hrow2 := hE2.row
  have hid2 := (List.getElem?_eq_some_iff.1 hrow2).1
  obtain ⟨B, hB⟩ : ∃ B, B = A2.set id (.row 10 false [.agg [.int .i64 S.epoch, .int .i64 S.peer, qv, .int .i64 S.next, .int .i64 S.received, .bool S.owes, .int .i64 S.ticks, .bool S.heard, .int .i64 S.ticks, lv]]) := ⟨_, rfl⟩
  have hBo : ∀ j, j ≠ id → B[j]? = A2[j]? := fun j hj => by rw [hB, List.getElem?_set_ne (Ne.symm hj)]
  have hst : evStore 1 A2 (.ptr id 0 8) (.int .i64 S.ticks) = some B := by
    rw [hB]; simp [hrow2]
  refine ⟨B, .sl A.length 0 (xs.map frA ++ [frA ⟨S.epoch, 0, 0, 0, []⟩]).length, .bool true, ?_, ?_, ?_, fun j hj => ?_, ?_⟩
  · have e0 : frA ⟨S.epoch, 0, 0, 0, []⟩ = .agg [.int .i64 S.epoch, .int .i64 0, .int .i64 0, .int .i64 0, .str []] := rfl
    have hlen2 : (xs.map frA ++ [frA ⟨S.epoch, 0, 0, 0, []⟩]).length = xs.length + 1 := by simp
    rw [hlen2] at k1 ⊢
    rw [e0] at k1
    obtain ⟨N, hN⟩ : ∃ N, N = xs.length + 1 := ⟨_, rfl⟩
    rw [← hN] at k1 ⊢
    cases ha : decide (S.hello = 0) with
    | true =>
      rw [ha] at b4
      simp [T20_6, hrow, ht, b4, k1, hst, hrow2, -evBin, -evStore]
    | false =>
      rw [ha] at b4 hdue
      rw [Bool.false_or] at hdue
      rw [hdue] at b6
      simp [T20_6, hrow, ht, b4, b5, b6, k1, hst, hrow2, -evBin, -evStore]
  · refine hE2.turn (by rw [hB, List.getElem?_set_self hid2]) ?_ ?_ (fun j hj => .inl hj) (fun j hj => .inl hj) hE2.2.2.2.2.2
    · exact hE2.2.1.keep fun j hj => hBo j (fun e => hE2.2.2.2.1 (e ▸ hj))
    · exact hE2.2.2.1.keep fun j hj => hBo j (fun e => hE2.2.2.2.2.1 (e ▸ hj))
  · rw [← hxl]
    refine k2.keep fun j hj => hBo j (fun e => ?_)
    subst e
    simp [idsOf] at hj
    omega
  · simp [idsOf] at hj; exact .inr (by omega)
  · refine ⟨by rw [hB, List.length_set]; omega, fun j hj hn => ?_⟩
    rw [List.mem_append, not_or] at hn
    rw [hBo j (fun e => hn.1 (mem_own.2 (.inl e))), k3.2 j hj hn.2]
set_option maxRecDepth 100000 in
theorem ev20 (h : Handler) (hb : Bd S) (hp : S.heard = true → S.peer > 0) : ∃ B out, H20 h [.ptr id 0 0] A = some (out, B) ∧ EndAt B id (tickS S).1 qv lv ∧ SlP 5 B out ((tickS S).2.map frA) ∧ (∀ j, j ∈ idsOf out → A.length ≤ j) ∧ Fr A B (own id qv lv) := by
  have hrow := hE.row
  have hid := (List.getElem?_eq_some_iff.1 hrow).1
  obtain ⟨hb1, hb2, hb3⟩ := hb
  have b1 := evAdd (a := S.ticks) (b := 1) (by omega)
  obtain ⟨A1, hA1⟩ : ∃ A1, A1 = A.set id (.row 10 false [.agg [.int .i64 S.epoch, .int .i64 S.peer, qv, .int .i64 S.next, .int .i64 S.received, .bool S.owes, .int .i64 (S.ticks + 1), .bool S.heard, .int .i64 S.hello, lv]]) := ⟨_, rfl⟩
  have hA1l : A1.length = A.length := by rw [hA1]; simp
  have hA1o : ∀ j, j ≠ id → A1[j]? = A[j]? := fun j hj => by rw [hA1, List.getElem?_set_ne (Ne.symm hj)]
  have hrow1 : A1[id]? = some (.row 10 false [.agg [.int .i64 S.epoch, .int .i64 S.peer, qv, .int .i64 S.next, .int .i64 S.received, .bool S.owes, .int .i64 (S.ticks + 1), .bool S.heard, .int .i64 S.hello, lv]]) := by rw [hA1, List.getElem?_set_self hid]
  have hE1 : EndAt A1 id { S with ticks := S.ticks + 1 } qv lv := by
    refine hE.turn hrow1 ?_ ?_ (fun j hj => .inl hj) (fun j hj => .inl hj) hE.2.2.2.2.2
    · exact hE.2.1.keep fun j hj => hA1o j (fun e => hE.2.2.2.1 (e ▸ hj))
    · exact hE.2.2.1.keep fun j hj => hA1o j (fun e => hE.2.2.2.2.1 (e ▸ hj))
  have hF1 : Fr A A1 (own id qv lv) := ⟨by omega, fun j hj hn => hA1o j fun e => hn (mem_own.2 (.inl e))⟩
  obtain ⟨A2, o2, i2, v5, lp, g2, s2, i2o, F2⟩ := loop20 hE1 (by simp only; omega) (fun q hq => by have := hb2 q hq; omega)
  have dis : ∀ {B : Arena} {o : AV}, (∀ j, j ∈ idsOf o → A.length ≤ j) → ∀ j, j ∈ own id qv lv → j ∉ idsOf o := fun hh j hj hj2 => by
    have := hE.low j hj
    have := hh j hj2
    omega
  have i2' : ∀ j, j ∈ idsOf o2 → A.length ≤ j := fun j hj => by have := i2o j hj; omega
  obtain ⟨xs1, hxs1⟩ : ∃ xs, xs = outS { S with ticks := S.ticks + 1 } (S.ticks + 1) := ⟨_, rfl⟩
  have hx1 : xs1.length ≤ 8 := by
    rw [hxs1]
    unfold outS
    rw [List.length_map]
    exact Nat.le_trans (List.length_filter_le _ _) (by simp; omega)
  have s2' : SlP 5 A2 o2 (xs1.map frA) := by rw [hxs1]; exact s2
  obtain ⟨S2, hS2⟩ : ∃ S2 : EndS, S2 = { S with ticks := S.ticks + 1, queue := (S.queue.take 8).map (sentQ (S.ticks + 1) S.heard) ++ S.queue.drop 8 } := ⟨_, rfl⟩
  have g2' : EndAt A2 id S2 qv lv := by rw [hS2]; exact g2
  obtain ⟨A3, o3, d7, r3, g3, s3, i3, F3⟩ := r20_4 g2' (K := [KC.code (.seq T20_5 (.seq T20_6 (.seq T20_7 T20_8)))]) (fuel := 300) s2' (dis (B := A2) i2') (by omega) .undef .undef .undef .undef .undef .undef .undef .undef
  have i3' : ∀ j, j ∈ idsOf o3 → A.length ≤ j := fun j hj => (i3 j hj).elim (i2' j) (fun h => by have := F2.1; omega)
  obtain ⟨xs2, hxs2⟩ : ∃ xs, xs = (if xs1.length = 0 ∧ S2.owes = true ∧ S2.peer > 0 then [⟨S2.epoch, S2.peer, 0, S2.received, []⟩] else xs1) := ⟨_, rfl⟩
  rw [← hxs2] at s3
  have hx2 : xs2.length ≤ 8 := by
    rw [hxs2]
    split
    · simp
    · exact hx1
  obtain ⟨A4, d8, r4, g4, s4, F4⟩ := r20_5 g3 (K := [KC.code (.seq T20_6 (.seq T20_7 T20_8))]) (fuel := 300) s3 (dis (B := A2) i3') .undef .undef .undef .undef .undef d7 .undef .undef
  obtain ⟨X, hX⟩ : ∃ X, X = p1 { S with ticks := S.ticks + 1 } := ⟨_, rfl⟩
  have eX : X = ({ S2 with owes := S2.owes && decide (xs2.length = 0) }, xs2) := by
    rw [hX]
    unfold p1
    by_cases hpp : S.peer > 0
    · rw [if_pos (show ({ S with ticks := S.ticks + 1 } : EndS).peer > 0 from hpp)]
      have e2 : xs2 = outO { S with ticks := S.ticks + 1 } (S.ticks + 1) := by
        rw [hxs2, hxs1, hS2]
        unfold outO
        have : (S.owes = true ∧ S.peer > 0) ↔ S.owes = true := ⟨fun h => h.1, fun h => ⟨h, hpp⟩⟩
        simp only [this]
      rw [e2, hS2]
    · rw [if_neg (show ¬ ({ S with ticks := S.ticks + 1 } : EndS).peer > 0 from hpp)]
      have hh : S.heard = false := by
        cases h : S.heard with
        | false => rfl
        | true => exact absurd (hp h) hpp
      have hf : ∀ l : List QE, l.filter (fun q => S.heard && dueS (S.ticks + 1) q.at_) = [] := fun l => by
        rw [List.filter_eq_nil_iff]
        intro q _
        rw [hh]
        simp
      have e1 : xs1 = [] := by
        rw [hxs1]
        unfold outS
        simp only
        rw [hf]
        rfl
      have e2 : xs2 = [] := by
        rw [hxs2, e1, if_neg (by rintro ⟨_, _, h⟩; rw [hS2] at h; exact hpp h)]
      have hs : ∀ l : List QE, l.map (sentQ (S.ticks + 1) S.heard) = l := fun l => by
        conv => rhs; rw [← List.map_id l]
        refine List.map_congr_left fun q _ => ?_
        unfold sentQ
        rw [hh]
        rfl
      rw [e2, hS2, hs, List.take_append_drop]
      simp
  rw [show ({ S2 with owes := S2.owes && decide (xs2.length = 0) } : EndS) = X.1 by rw [eX]] at g4
  rw [show xs2 = X.2 by rw [eX]] at s4
  have hp1 : X.1.ticks = S.ticks + 1 ∧ X.1.hello = S.hello ∧ X.1.heard = S.heard ∧ X.1.epoch = S.epoch := by
    rw [eX, hS2]
    exact ⟨rfl, rfl, rfl, rfl⟩
  have hl2 : X.2.length ≤ 100 := by rw [eX]; exact Nat.le_trans hx2 (by omega)
  obtain ⟨A5, o5, d9, r5, k1, k2, k3, k4⟩ := r20_6 g4 (K := [KC.code (.seq T20_7 T20_8)]) (fuel := 300) s4 (dis (B := A2) i3') hl2 (by rw [hp1.1]; omega) (by rw [hp1.2.1]; omega) .undef .undef .undef .undef .undef d7 d8 .undef
  have eT : tickS S = if S.heard = false ∧ dueS (S.ticks + 1) S.hello = true then ({ X.1 with hello := S.ticks + 1 }, X.2 ++ [⟨S.epoch, 0, 0, 0, []⟩]) else X := by unfold tickS; rw [tick1_eq, ← hX]
  have eC : (X.1.heard = false ∧ dueS X.1.ticks X.1.hello = true) ↔ (S.heard = false ∧ dueS (S.ticks + 1) S.hello = true) := by rw [hp1.1, hp1.2.1, hp1.2.2.1]
  have f2 : Fr A A2 (own id qv lv) := hF1.trans F2 fun j hj => .inl hj
  have f3 : Fr A A3 (own id qv lv) := f2.trans F3 fun j hj => (List.mem_append.1 hj).imp (fun h => h) (fun h => i2' j h)
  have f4 : Fr A A4 (own id qv lv) := f3.trans F4 fun j hj => .inl (by rw [List.mem_singleton] at hj; exact mem_own.2 (.inl hj))
  have f5 : Fr A A5 (own id qv lv) := f4.trans k4 fun j hj => (List.mem_append.1 hj).imp (fun h => h) (fun h => i3' j h)
  refine ⟨A5, o5, ?_, ?_, ?_, fun j hj => (k3 j hj).elim (i3' j) (fun h => by have := f4.1; omega), f5⟩
  · unfold H20
    rw [evFun_run _ _ rfl, T20__eq]
    have hst : evStore 1 A (.ptr id 0 6) (.int .i64 (S.ticks + 1)) = some A1 := by
      rw [hA1]; simp [hrow]
    obtain ⟨t1, ht1⟩ : ∃ t1, t1 = S.ticks + 1 := ⟨_, rfl⟩
    rw [← ht1] at b1 hst
    have e1 : run (envOf GW fs20) 300 [.code (.seq T20_0 (.seq T20_1 (.seq T20_2 (.seq T20_3 (.seq T20_4 (.seq T20_5 (.seq T20_6 (.seq T20_7 T20_8))))))))] [.ptr id 0 0, .undef, .undef, .undef, .undef, .undef, .undef, .undef, .undef, .undef] A = run (envOf GW fs20) 300 (.code T20_4 :: [.code (.seq T20_5 (.seq T20_6 (.seq T20_7 T20_8)))]) [.ptr id 0 0, .undef, o2, .undef, .undef, .undef, .undef, .undef, .undef, .undef] A2 := by
      simp [T20_0, T20_1, T20_2, T20_3, hrow, b1, hst, go20x0 lp, -evBin, -evStore]
    have e6 : run (envOf GW fs20) 300 [KC.code (.seq T20_7 T20_8)] [.ptr id 0 0, .undef, o5, .undef, .undef, .undef, .undef, d7, d8, d9] A5 = some (.ret [.ptr id 0 0, o5, o5, .undef, .undef, .undef, .undef, d7, d8, d9] A5) := by
      simp [T20_7, T20_8]
    have e4 : ([.ptr id 0 0] ++ List.replicate (10 - 1) .undef : List AV) = [.ptr id 0 0, .undef, .undef, .undef, .undef, .undef, .undef, .undef, .undef, .undef] := rfl
    simp only
    rw [e4, e1, r3, run_seq, r4, run_seq, r5, e6]
    rfl
  · rw [eT]
    by_cases hc : S.heard = false ∧ dueS (S.ticks + 1) S.hello = true
    · rw [if_pos hc]
      rw [if_pos (eC.2 hc)] at k1
      show EndAt A5 id { X.1 with hello := S.ticks + 1 } qv lv
      rw [← hp1.1]
      exact k1
    · rw [if_neg hc]
      rw [if_neg (fun h => hc (eC.1 h))] at k1
      exact k1
  · rw [eT]
    by_cases hc : S.heard = false ∧ dueS (S.ticks + 1) S.hello = true
    · rw [if_pos hc]
      rw [if_pos (eC.2 hc), hp1.2.2.2] at k2
      exact k2
    · rw [if_neg hc]
      rw [if_neg (fun h => hc (eC.1 h))] at k2
      exact k2
end
end Go.Proofs.Ytfidjdlmmcaplaa
/-
  Link: the reference's Receive, its loops.
-/
namespace Go.Proofs.Ytfidjdlmmcaplaa
open Go

set_option maxRecDepth 100000 in
theorem round24 (fuel : Nat) {A : Arena} {id : Nat} {S : EndS} {qv lv : AV} {ls : List Bytes} (hE : EndAt A id { S with lost := ls } qv lv) (hl : ls.length ≤ 2000000) {i : Nat} (hi : i < S.queue.length) (hq : S.queue.length ≤ 1000) (hp : S.peer > 0) (v2 : AV) :
    ∃ B lv', run (envOf GW fs24) fuel [.code lp24x0] (st24x0 (.ptr id 0 0) v2 (.int .i64 (i : Int))) A = some (.normal (st24x0 (.ptr id 0 0) v2 (.int .i64 ((i + 1 : Nat) : Int))) B) ∧
      EndAt B id { S with lost := ls ++ [S.queue[i].body] } qv lv' ∧ (∀ j, j ∈ idsOf lv' → A.length ≤ j) ∧ Fr A B (id :: idsOf lv) := by
  have hrow : A[id]? = some (.row 10 false [.agg [.int .i64 S.epoch, .int .i64 S.peer, qv, .int .i64 S.next, .int .i64 S.received, .bool S.owes, .int .i64 S.ticks, .bool S.heard, .int .i64 S.hello, lv]]) := hE.row
  have hid := (List.getElem?_eq_some_iff.1 hrow).1
  obtain ⟨q, hqd⟩ : ∃ q, q = S.queue[i] := ⟨_, rfl⟩
  rw [← hqd]
  have hql : (S.queue.map qA).length = S.queue.length := List.length_map _
  have hlen := hE.2.1.len
  rw [hql] at hlen
  have b1 := evLss (i : Int) (S.queue.length : Int)
  rw [decide_eq_true (by omega)] at b1
  have b2 := evGtr S.peer 0
  rw [decide_eq_true hp] at b2
  have b3 := evAdd (a := (i : Int)) (b := 1) (by omega)
  rw [show (i : Int) + 1 = ((i + 1 : Nat) : Int) by omega] at b3
  obtain ⟨r, es, e1, e2, e3, e4⟩ := hE.2.1.index (i := i) (by rw [hql]; exact hi) (by omega) .i64
  rw [show (S.queue.map qA)[i]'(by rw [hql]; exact hi) = qA q by simp [hqd]] at e3
  have e3' : es[i]? = some (.agg [.int .i64 q.seq, .str q.body, .int .i64 q.at_]) := e3
  have hls : ((ls.map AV.str)).length = ls.length := List.length_map _
  obtain ⟨B, k1, k2, k3, k4, _⟩ := hE.2.2.1.appendN (bytes := 16) (x := .fs 1 [.str q.body]) (ys := [.str q.body]) rfl (by simp) (by omega) (by omega) (by simp only [hls, List.length_cons, List.length_nil]; omega)
  have hrowB : B[id]? = some (.row 10 false [.agg [.int .i64 S.epoch, .int .i64 S.peer, qv, .int .i64 S.next, .int .i64 S.received, .bool S.owes, .int .i64 S.ticks, .bool S.heard, .int .i64 S.hello, lv]]) := (k3.2 id hid hE.2.2.2.2.1).trans hrow
  have hidB := (List.getElem?_eq_some_iff.1 hrowB).1
  have hxl : ls.map AV.str ++ [.str q.body] = (ls ++ [q.body]).map .str := by simp
  have hlen2 : (ls.map AV.str ++ [AV.str q.body]).length = ls.length + 1 := by simp
  rw [hlen2] at k1 k2
  obtain ⟨N, hN⟩ : ∃ N, N = ls.length + 1 := ⟨_, rfl⟩
  rw [← hN] at k1 k2
  have hiN : id ∉ idsOf (.sl A.length 0 N) := by simp [idsOf]; omega
  refine ⟨B.set id (.row 10 false [.agg [.int .i64 S.epoch, .int .i64 S.peer, qv, .int .i64 S.next, .int .i64 S.received, .bool S.owes, .int .i64 S.ticks, .bool S.heard, .int .i64 S.hello, .sl A.length 0 N]]), .sl A.length 0 N, ?_, ?_, fun j hj => ?_, ?_⟩
  · obtain ⟨j1, hj1⟩ : ∃ j1 : Nat, j1 = i + 1 := ⟨_, rfl⟩
    rw [← hj1] at b3 ⊢
    simp [lp24x0, b1, b2, b3, hrow, hlen, e4, e2, e3', k1, hrowB, -evBin, -evIndexSl, -evLenSl]
  · refine hE.turn (by rw [List.getElem?_set_self hidB]) ?_ ?_ (fun j hj => .inl hj) (fun j hj => .inr (by simp [idsOf] at hj; omega)) (fun j hj hj2 => ?_)
    · exact hE.2.1.keep fun j hj => (set_ne hE.2.2.2.1 hj).trans (k3.2 j (hE.2.1.low j hj) (hE.2.2.2.2.2 j hj))
    · rw [hxl] at k2
      exact k2.keep fun j hj => set_ne hiN hj
    · have := hE.2.1.low j hj
      simp [idsOf] at hj2; omega
  · simp [idsOf] at hj; omega
  · refine ⟨by simp; omega, fun j hj hn => ?_⟩
    rw [List.mem_cons, not_or] at hn
    rw [List.getElem?_set_ne (Ne.symm hn.1), k3.2 j hj hn.2]
theorem loop24 {A : Arena} {id : Nat} {S : EndS} {qv lv : AV} (hE : EndAt A id S qv lv) (hl : S.lost.length ≤ 1000000) (hq : S.queue.length ≤ 100) (hp : S.peer > 0) (v2 : AV) :
    ∃ B lv', iter (evC (envOf GW fs24) 300 lp24x0) mask24x0 300 (st24x0 (.ptr id 0 0) v2 (.int .i64 0)) A = some (.exit 0 ((st24x0 (.ptr id 0 0) v2 (.int .i64 (S.queue.length : Int))).set 9 (.bool false)) B) ∧
      EndAt B id { S with lost := S.lost ++ S.queue.map (·.body) } qv lv' ∧ (∀ j, j ∈ idsOf lv' → j ∈ idsOf lv ∨ A.length ≤ j) ∧ Fr A B (id :: idsOf lv) := by
  obtain ⟨o, h1, B, lv', rfl, h2⟩ := iter_inv (E := envOf GW fs24) (fuel := 300) (a := lp24x0) (mask := mask24x0)
    (fun κ σ A' => ∃ i lvi, i + κ = S.queue.length ∧ σ = st24x0 (.ptr id 0 0) v2 (.int .i64 (i : Int)) ∧ EndAt A' id { S with lost := S.lost ++ (S.queue.take i).map (·.body) } qv lvi ∧ (∀ j, j ∈ idsOf lvi → j ∈ idsOf lv ∨ A.length ≤ j) ∧ Fr A A' (id :: idsOf lv))
    (fun o => ∃ B lv', o = .exit 0 ((st24x0 (.ptr id 0 0) v2 (.int .i64 (S.queue.length : Int))).set 9 (.bool false)) B ∧ EndAt B id { S with lost := S.lost ++ S.queue.map (·.body) } qv lv' ∧ (∀ j, j ∈ idsOf lv' → j ∈ idsOf lv ∨ A.length ≤ j) ∧ Fr A B (id :: idsOf lv))
    (by
      rintro κ σ A' ⟨i, lvi, hik, rfl, g1, g2, g3⟩
      rw [cl24x0]
      by_cases hi : i < S.queue.length
      · obtain ⟨B, lv', c1, c2, c3, c4⟩ := round24 300 g1 (by simp; omega) hi (by omega) hp v2
        refine .inl ⟨_, B, c1, κ - 1, by omega, i + 1, lv', by omega, rfl, ?_, fun j hj => .inr (Nat.le_trans g3.1 (c3 j hj)), g3.trans c4 fun j hj => ?_⟩
        · rw [List.take_succ_eq_append_getElem hi, List.map_append, ← List.append_assoc]
          exact c2
        · rw [List.mem_cons] at hj
          rcases hj with rfl | hj
          · exact .inl (by simp)
          · exact (g2 j hj).imp (fun h => List.mem_cons_of_mem _ h) (fun h => h)
      · obtain rfl : i = S.queue.length := by omega
        rw [List.take_length] at g1
        have hrow : A'[id]? = some (.row 10 false [.agg [.int .i64 S.epoch, .int .i64 S.peer, qv, .int .i64 S.next, .int .i64 S.received, .bool S.owes, .int .i64 S.ticks, .bool S.heard, .int .i64 S.hello, lvi]]) := g1.row
        have hlen := g1.2.1.len
        rw [List.length_map] at hlen
        have b1 := evLss (S.queue.length : Int) (S.queue.length : Int)
        rw [decide_eq_false (by omega)] at b1
        refine .inr ⟨.exit 0 ((st24x0 (.ptr id 0 0) v2 (.int .i64 (S.queue.length : Int))).set 9 (.bool false)) A', ?_, (fun _ _ h => by cases h), A', lvi, rfl, g1, g2, g3⟩
        simp [lp24x0, hrow, hlen, b1, -evBin, -evLenSl])
    300 S.queue.length (st24x0 (.ptr id 0 0) v2 (.int .i64 0)) A (by omega) ⟨0, lv, by omega, rfl, by simpa using hE, fun j hj => .inl hj, Fr.refl _ _⟩
  exact ⟨B, lv', h1, h2⟩
theorem keepQ_ref {k : Int} {q : QE} (h : 0 ≤ q.at_) : keepQ k q = (decide (q.at_ = 0) || decide (q.seq > k)) := by
  unfold keepQ
  by_cases h1 : q.at_ = 0
  · rw [decide_eq_true h1, decide_eq_false (show ¬ q.at_ > 0 by omega)]
    rfl
  · rw [decide_eq_false h1, decide_eq_true (show q.at_ > 0 by omega), Bool.true_and, Bool.false_or]
    rw [Bool.eq_iff_iff]
    simp
set_option maxRecDepth 100000 in
theorem round24b (fuel : Nat) {A : Arena} {id fr : Nat} {S : EndS} {qv lv left : AV} {f : FrS} {xs : List QE} (hE : EndAt A id S qv lv) (hf : A[fr]? = some (.row 5 false [frA f])) (hfi : fr ∉ own id qv lv ∧ fr ∉ idsOf left) (hL : SlP 3 A left (xs.map qA)) (hLi : ∀ j, j ∈ own id qv lv → j ∉ idsOf left) (hx : xs.length ≤ 1000) {i : Nat} (hi : i < S.queue.length) (hq : S.queue.length ≤ 1000) (ha : 0 ≤ S.queue[i].at_) :
    ∃ B left', run (envOf GW fs24) fuel [.code lp24x1] (st24x1 (.ptr id 0 0) (.ptr fr 0 0) left (.int .i64 (i : Int))) A = some (.normal (st24x1 (.ptr id 0 0) (.ptr fr 0 0) left' (.int .i64 ((i + 1 : Nat) : Int))) B) ∧
      SlP 3 B left' ((xs ++ if keepQ f.ack S.queue[i] = true then [S.queue[i]] else []).map qA) ∧ (∀ j, j ∈ idsOf left' → j ∈ idsOf left ∨ A.length ≤ j) ∧ Fr A B (idsOf left) := by
  have hrow := hE.row
  obtain ⟨q, hqd⟩ : ∃ q, q = S.queue[i] := ⟨_, rfl⟩
  rw [← hqd] at ha ⊢
  have hql : (S.queue.map qA).length = S.queue.length := List.length_map _
  have hlen := hE.2.1.len
  rw [hql] at hlen
  have b1 := evLss (i : Int) (S.queue.length : Int)
  rw [decide_eq_true (by omega)] at b1
  have b2 := evEql q.at_ 0
  have b4 := evGtr q.seq f.ack
  have b3 := evAdd (a := (i : Int)) (b := 1) (by omega)
  rw [show (i : Int) + 1 = ((i + 1 : Nat) : Int) by omega] at b3
  obtain ⟨r, es, e1, e2, e3, e4⟩ := hE.2.1.index (i := i) (by rw [hql]; exact hi) (by omega) .i64
  rw [show (S.queue.map qA)[i]'(by rw [hql]; exact hi) = qA q by simp [hqd]] at e3
  have e3' : es[i]? = some (.agg [.int .i64 q.seq, .str q.body, .int .i64 q.at_]) := e3
  have lde : loadElem (.agg [.int .i64 q.seq, .str q.body, .int .i64 q.at_]) 3 0 true 3 = some (.agg [.int .i64 q.seq, .str q.body, .int .i64 q.at_]) := rfl
  have hf' : A[fr]? = some (.row 5 false [.agg [.int .i64 f.fr, .int .i64 f.to, .int .i64 f.seq, .int .i64 f.ack, .str f.body]]) := hf
  obtain ⟨j1, hj1⟩ : ∃ j1 : Nat, j1 = i + 1 := ⟨_, rfl⟩
  rw [← hj1] at b3 ⊢
  rw [keepQ_ref ha]
  by_cases hk : (decide (q.at_ = 0) || decide (q.seq > f.ack)) = true
  · rw [if_pos hk]
    obtain ⟨B, k1, k2, k3, k4, _⟩ := hL.appendN (bytes := 32) (x := .fs 3 [qA q]) (ys := [qA q]) rfl (by simp) (by omega) (by omega) (by simp; omega)
    have hxl : xs.map qA ++ [qA q] = (xs ++ [q]).map qA := by simp
    refine ⟨B, .sl A.length 0 (xs.map qA ++ [qA q]).length, ?_, by rw [← hxl]; exact k2, fun j hj => by simp [idsOf] at hj; exact .inr (by omega), k3⟩
    have hlen2 : (xs.map qA ++ [qA q]).length = xs.length + 1 := by simp
    rw [hlen2] at k1 ⊢
    have eq0 : qA q = .agg [.int .i64 q.seq, .str q.body, .int .i64 q.at_] := rfl
    rw [eq0] at k1
    obtain ⟨N, hN⟩ : ∃ N, N = xs.length + 1 := ⟨_, rfl⟩
    rw [← hN] at k1 ⊢
    cases h1 : decide (q.at_ = 0) with
    | true =>
      rw [h1] at b2
      simp [lp24x1, b1, b2, b3, hrow, hlen, e4, e2, e3', lde, k1, -evBin, -evIndexSl, -evLenSl]
    | false =>
      rw [h1] at b2 hk
      rw [Bool.false_or] at hk
      rw [hk] at b4
      simp [lp24x1, b1, b2, b3, b4, hrow, hlen, e4, e2, e3', lde, hf', k1, -evBin, -evIndexSl, -evLenSl]
  · rw [if_neg hk, List.append_nil]
    rw [Bool.not_eq_true, Bool.or_eq_false_iff] at hk
    rw [hk.1] at b2
    rw [hk.2] at b4
    refine ⟨A, left, ?_, hL, fun j hj => .inl hj, Fr.refl _ _⟩
    simp [lp24x1, b1, b2, b3, b4, hrow, hlen, e4, e2, e3', lde, hf', -evBin, -evIndexSl, -evLenSl]
theorem loop24b {A : Arena} {id fr : Nat} {S : EndS} {qv lv : AV} {f : FrS} (hE : EndAt A id S qv lv) (hf : A[fr]? = some (.row 5 false [frA f])) (hfi : fr ∉ own id qv lv) (hq : S.queue.length ≤ 100) (ha : ∀ q ∈ S.queue, 0 ≤ q.at_) :
    ∃ B left, iter (evC (envOf GW fs24) 300 lp24x1) mask24x1 300 (st24x1 (.ptr id 0 0) (.ptr fr 0 0) .nilS (.int .i64 0)) A = some (.exit 2 ((st24x1 (.ptr id 0 0) (.ptr fr 0 0) left (.int .i64 (S.queue.length : Int))).set 12 (.bool false)) B) ∧
      EndAt B id S qv lv ∧ SlP 3 B left ((S.queue.filter (keepQ f.ack)).map qA) ∧ (∀ j, j ∈ idsOf left → A.length ≤ j) ∧ Fr A B [] := by
  have hfl := (List.getElem?_eq_some_iff.1 hf).1
  obtain ⟨o, h1, B, left, rfl, h2⟩ := iter_inv (E := envOf GW fs24) (fuel := 300) (a := lp24x1) (mask := mask24x1)
    (fun κ σ A' => ∃ i left, i + κ = S.queue.length ∧ σ = st24x1 (.ptr id 0 0) (.ptr fr 0 0) left (.int .i64 (i : Int)) ∧ SlP 3 A' left (((S.queue.take i).filter (keepQ f.ack)).map qA) ∧ (∀ j, j ∈ idsOf left → A.length ≤ j) ∧ Fr A A' [])
    (fun o => ∃ B left, o = .exit 2 ((st24x1 (.ptr id 0 0) (.ptr fr 0 0) left (.int .i64 (S.queue.length : Int))).set 12 (.bool false)) B ∧ SlP 3 B left ((S.queue.filter (keepQ f.ack)).map qA) ∧ (∀ j, j ∈ idsOf left → A.length ≤ j) ∧ Fr A B [])
    (by
      rintro κ σ A' ⟨i, left, hik, rfl, g1, g2, g3⟩
      rw [cl24x1]
      have hE' : EndAt A' id S qv lv := hE.beside g3 (fun j _ => by simp)
      have hf' : A'[fr]? = some (.row 5 false [frA f]) := (g3.2 fr hfl (by simp)).trans hf
      by_cases hi : i < S.queue.length
      · obtain ⟨B, left', c1, c2, c3, c4⟩ := round24b 300 hE' hf' ⟨hfi, fun h => by have := g2 fr h; omega⟩ g1 (fun j hj hj2 => by
          have := hE.low j hj
          have := g2 j hj2
          omega) (by
          have := List.length_filter_le (keepQ f.ack) (S.queue.take i)
          have h2 : (S.queue.take i).length ≤ 100 := by rw [List.length_take]; omega
          omega) hi (by omega) (ha _ (List.getElem_mem hi))
        refine .inl ⟨_, B, c1, κ - 1, by omega, i + 1, left', by omega, rfl, by rw [filter_take_succ _ _ hi]; exact c2, fun j hj => (c3 j hj).elim (g2 j) (fun h => Nat.le_trans g3.1 h), g3.trans c4 fun j hj => .inr (g2 j hj)⟩
      · obtain rfl : i = S.queue.length := by omega
        rw [List.take_length] at g1
        have hrow := hE'.row
        have hlen := hE'.2.1.len
        rw [List.length_map] at hlen
        have b1 := evLss (S.queue.length : Int) (S.queue.length : Int)
        rw [decide_eq_false (by omega)] at b1
        refine .inr ⟨_, ?_, (fun _ _ h => by cases h), A', left, rfl, g1, g2, g3⟩
        simp [lp24x1, hrow, hlen, b1, -evBin, -evLenSl])
    300 S.queue.length (st24x1 (.ptr id 0 0) (.ptr fr 0 0) .nilS (.int .i64 0)) A (by omega) ⟨0, .nilS, by omega, rfl, .inl ⟨rfl, rfl⟩, by simp, Fr.refl _ _⟩
  exact ⟨B, left, h1, hE.beside h2.2.2 (fun j _ => by simp), h2⟩
end Go.Proofs.Ytfidjdlmmcaplaa
/-
  Link: the reference's Receive, whole.
-/
namespace Go.Proofs.Ytfidjdlmmcaplaa
open Go

def T24_0 : MC := .region [⟨some 2, .box (.var 1), none⟩, ⟨some 3, .mv (.cst .nilS), none⟩]
def T24_1 : MC := .seq (.region [⟨none, .load true 5 (.var 2), none⟩, ⟨none, .call (.fn 35) [.tmp 0], none⟩, ⟨none, .un .not (.tmp 1), none⟩, ⟨none, .mv (.tmp 2), none⟩, ⟨none, .fieldAddr 1 (.var 2), some (.tmp 3, false)⟩, ⟨none, .load false 1 (.tmp 4), some (.tmp 3, false)⟩, ⟨none, .bin .neq (.tmp 5) (.cst (.int .i64 0)), some (.tmp 3, false)⟩, ⟨none, .mv (.tmp 6), some (.tmp 3, false)⟩, ⟨none, .fieldAddr 1 (.var 2), some (.tmp 7, true)⟩, ⟨none, .load false 1 (.tmp 8), some (.tmp 7, true)⟩, ⟨none, .mv (.var 0), some (.tmp 7, true)⟩, ⟨none, .nilCheck (.tmp 10), some (.tmp 7, true)⟩, ⟨none, .fieldAddr 0 (.tmp 11), some (.tmp 7, true)⟩, ⟨none, .load false 1 (.tmp 12), some (.tmp 7, true)⟩, ⟨none, .bin .neq (.tmp 9) (.tmp 13), some (.tmp 7, true)⟩, ⟨none, .pick (.tmp 7) (.tmp 14) (.cst (.bool false)), some (.tmp 3, false)⟩, ⟨none, .pick (.tmp 3) (.cst (.bool true)) (.tmp 15), none⟩, ⟨none, .mv (.tmp 16), none⟩, ⟨none, .fieldAddr 0 (.var 2), some (.tmp 17, false)⟩, ⟨none, .load false 1 (.tmp 18), some (.tmp 17, false)⟩, ⟨none, .mv (.var 0), some (.tmp 17, false)⟩, ⟨none, .nilCheck (.tmp 20), some (.tmp 17, false)⟩, ⟨none, .fieldAddr 1 (.tmp 21), some (.tmp 17, false)⟩, ⟨none, .load false 1 (.tmp 22), some (.tmp 17, false)⟩, ⟨none, .bin .lss (.tmp 19) (.tmp 23), some (.tmp 17, false)⟩, ⟨some 7, .pick (.tmp 17) (.cst (.bool true)) (.tmp 24), none⟩]) (.cond (.var 7) (.seq (.region [⟨some 3, .mv (.cst .nilS), none⟩]) .ret) .skip)
def T24_2 : MC := .seq (.region [⟨none, .fieldAddr 0 (.var 2), none⟩, ⟨none, .load false 1 (.tmp 0), none⟩, ⟨none, .mv (.var 0), none⟩, ⟨none, .nilCheck (.tmp 2), none⟩, ⟨none, .fieldAddr 1 (.tmp 3), none⟩, ⟨none, .load false 1 (.tmp 4), none⟩, ⟨some 8, .bin .gtr (.tmp 1) (.tmp 5), none⟩]) (.cond (.var 8) (.seq (.seq (.region [⟨some 4, .mv (.cst (.int .i64 0)), none⟩]) (.seq (.block 0 (.loop [1, 3, 5, 6, 7, 8, 9, 10, 11, 12, 13, 14, 15] lp24x0)) (.kill [1, 3, 4, 5, 6, 7, 8, 9, 10, 11, 12, 13, 14, 15]))) (.seq (.seq (.region [⟨none, .mv (.var 0), none⟩, ⟨none, .nilCheck (.tmp 0), none⟩, ⟨none, .fieldAddr 1 (.tmp 1), none⟩, ⟨none, .load false 1 (.tmp 2), none⟩, ⟨some 10, .bin .gtr (.tmp 3) (.cst (.int .i64 0)), none⟩]) (.cond (.var 10) (.seq (.region [⟨none, .mv (.var 0), none⟩, ⟨none, .nilCheck (.tmp 0), none⟩, ⟨none, .fieldAddr 2 (.tmp 1), none⟩, ⟨none, .store 1 (.tmp 2) (.cst .nilS), none⟩]) (.region [⟨none, .mv (.var 0), none⟩, ⟨none, .nilCheck (.tmp 0), none⟩, ⟨none, .fieldAddr 3 (.tmp 1), none⟩, ⟨none, .store 1 (.tmp 2) (.cst (.int .i64 1)), none⟩])) .skip)) (.seq (.region [⟨none, .mv (.var 0), none⟩, ⟨none, .fieldAddr 0 (.var 2), none⟩, ⟨none, .load false 1 (.tmp 1), none⟩, ⟨none, .nilCheck (.tmp 0), none⟩, ⟨none, .fieldAddr 1 (.tmp 3), none⟩, ⟨none, .store 1 (.tmp 4) (.tmp 2), none⟩]) (.seq (.region [⟨none, .mv (.var 0), none⟩, ⟨none, .nilCheck (.tmp 0), none⟩, ⟨none, .fieldAddr 4 (.tmp 1), none⟩, ⟨none, .store 1 (.tmp 2) (.cst (.int .i64 0)), none⟩]) (.region [⟨none, .mv (.var 0), none⟩, ⟨none, .nilCheck (.tmp 0), none⟩, ⟨none, .fieldAddr 7 (.tmp 1), none⟩, ⟨none, .store 1 (.tmp 2) (.cst (.bool false)), none⟩]))))) .skip)
def T24_3 : MC := .seq (.region [⟨none, .fieldAddr 1 (.var 2), none⟩, ⟨none, .load false 1 (.tmp 0), none⟩, ⟨some 11, .bin .eql (.tmp 1) (.cst (.int .i64 0)), none⟩]) (.cond (.var 11) (.seq (.region [⟨none, .mv (.var 0), none⟩, ⟨none, .nilCheck (.tmp 0), none⟩, ⟨none, .fieldAddr 5 (.tmp 1), none⟩, ⟨none, .store 1 (.tmp 2) (.cst (.bool true)), none⟩]) (.seq (.region [⟨some 3, .mv (.cst .nilS), none⟩]) .ret)) .skip)
def T24_4 : MC := .region [⟨none, .mv (.var 0), none⟩, ⟨none, .nilCheck (.tmp 0), none⟩, ⟨none, .fieldAddr 7 (.tmp 1), none⟩, ⟨none, .store 1 (.tmp 2) (.cst (.bool true)), none⟩]
def T24_5 : MC := .region [⟨some 5, .mv (.cst .nilS), none⟩]
def T24_6 : MC := .seq (.region [⟨some 6, .mv (.cst (.int .i64 0)), none⟩]) (.seq (.block 2 (.loop [1, 3, 4, 7, 8, 9, 10, 11, 12, 13, 14, 15] lp24x1)) (.kill [1, 3, 4, 6, 7, 8, 9, 10, 11, 12, 13, 14, 15]))
def T24_7 : MC := .region [⟨none, .mv (.var 0), none⟩, ⟨none, .mv (.var 5), none⟩, ⟨none, .nilCheck (.tmp 0), none⟩, ⟨none, .fieldAddr 2 (.tmp 2), none⟩, ⟨none, .store 1 (.tmp 3) (.tmp 1), none⟩]
def T24_8 : MC := .seq (.region [⟨none, .fieldAddr 2 (.var 2), none⟩, ⟨none, .load false 1 (.tmp 0), none⟩, ⟨some 14, .bin .eql (.tmp 1) (.cst (.int .i64 0)), none⟩]) (.cond (.var 14) (.seq (.region [⟨some 3, .mv (.cst .nilS), none⟩]) .ret) .skip)
def T24_9 : MC := .region [⟨none, .mv (.var 0), none⟩, ⟨none, .nilCheck (.tmp 0), none⟩, ⟨none, .fieldAddr 5 (.tmp 1), none⟩, ⟨none, .store 1 (.tmp 2) (.cst (.bool true)), none⟩]
def T24_10 : MC := .seq (.region [⟨none, .fieldAddr 2 (.var 2), none⟩, ⟨none, .load false 1 (.tmp 0), none⟩, ⟨none, .mv (.var 0), none⟩, ⟨none, .nilCheck (.tmp 2), none⟩, ⟨none, .fieldAddr 4 (.tmp 3), none⟩, ⟨none, .load false 1 (.tmp 4), none⟩, ⟨none, .bin .add (.tmp 5) (.cst (.int .i64 1)), none⟩, ⟨some 15, .bin .neq (.tmp 1) (.tmp 6), none⟩]) (.cond (.var 15) (.seq (.region [⟨some 3, .mv (.cst .nilS), none⟩]) .ret) .skip)
def T24_11 : MC := .region [⟨none, .mv (.var 0), none⟩, ⟨none, .fieldAddr 2 (.var 2), none⟩, ⟨none, .load false 1 (.tmp 1), none⟩, ⟨none, .nilCheck (.tmp 0), none⟩, ⟨none, .fieldAddr 4 (.tmp 3), none⟩, ⟨none, .store 1 (.tmp 4) (.tmp 2), none⟩]
def T24_12 : MC := .region [⟨none, .fieldAddr 4 (.var 2), none⟩, ⟨none, .load false 1 (.tmp 0), none⟩, ⟨none, .buildSlice 1 [.tmp 1], none⟩, ⟨some 3, .mv (.tmp 2), none⟩]
def T24_13 : MC := .ret
theorem T24__eq : mf24 = ⟨2, 16, .seq T24_0 (.seq T24_1 (.seq T24_2 (.seq T24_3 (.seq T24_4 (.seq T24_5 (.seq T24_6 (.seq T24_7 (.seq T24_8 (.seq T24_9 (.seq T24_10 (.seq T24_11 (.seq T24_12 T24_13)))))))))))), [.tmp 3]⟩ := rfl
section
variable {A : Arena} {id : Nat} {S : EndS} {qv lv : AV} (hE : EndAt A id S qv lv)
include hE
set_option maxRecDepth 100000 in
set_option maxHeartbeats 1000000 in
theorem r24_1 {K : List KC} {fuel fr : Nat} {f : FrS} (hf : A[fr]? = some (.row 5 false [frA f])) (v1 d4 d5 d6 d7 d8 d9 d10 d11 d12 d13 d14 d15 : AV) :
    run (envOf GW fs24) fuel (.code T24_1 :: K) [.ptr id 0 0, v1, .ptr fr 0 0, .nilS, d4, d5, d6, d7, d8, d9, d10, d11, d12, d13, d14, d15] A =
      if takes S f then run (envOf GW fs24) fuel K [.ptr id 0 0, v1, .ptr fr 0 0, .nilS, d4, d5, d6, .bool false, d8, d9, d10, d11, d12, d13, d14, d15] A else some (.ret [.ptr id 0 0, v1, .ptr fr 0 0, .nilS, d4, d5, d6, .bool true, d8, d9, d10, d11, d12, d13, d14, d15] A) := by
  have hrow := hE.row
  have m := M35_eq f
  have b1 := evNeq f.to 0
  have b2 := evNeq f.to S.epoch
  have b3 := evLss f.fr S.peer
  unfold frA at hf m
  have hle : loadElem (.agg [.int .i64 f.fr, .int .i64 f.to, .int .i64 f.seq, .int .i64 f.ack, .str f.body]) 5 0 true 5 = some (.agg [.int .i64 f.fr, .int .i64 f.to, .int .i64 f.seq, .int .i64 f.ack, .str f.body]) := rfl
  by_cases hok : okF f
  rotate_left
  · rw [decide_eq_false hok] at m
    rw [if_neg (fun h => hok h.1)]
    simp [T24_1, hf, hle, m, -evBin]
  rw [decide_eq_true hok] at m
  by_cases h1 : f.to = 0
  · rw [decide_eq_false (fun h => h h1)] at b1
    by_cases h3 : f.fr < S.peer
    · rw [decide_eq_true h3] at b3
      rw [if_neg (fun h => by have := h.2.2; omega)]
      simp [T24_1, hf, hle, m, hrow, b1, b3, -evBin]
    · rw [decide_eq_false h3] at b3
      rw [if_pos ⟨hok, .inl h1, by omega⟩]
      simp [T24_1, hf, hle, m, hrow, b1, b3, -evBin]
  · rw [decide_eq_true h1] at b1
    by_cases h2 : f.to = S.epoch
    · rw [decide_eq_false (fun h => h h2)] at b2
      by_cases h3 : f.fr < S.peer
      · rw [decide_eq_true h3] at b3
        rw [if_neg (fun h => by have := h.2.2; omega)]
        simp [T24_1, hf, hle, m, hrow, b1, b2, b3, -evBin]
      · rw [decide_eq_false h3] at b3
        rw [if_pos ⟨hok, .inr h2, by omega⟩]
        simp [T24_1, hf, hle, m, hrow, b1, b2, b3, -evBin]
    · rw [decide_eq_true h2] at b2
      rw [if_neg (fun h => h.2.1.elim h1 h2)]
      simp [T24_1, hf, hle, m, hrow, b1, b2, -evBin]
set_option maxRecDepth 100000 in
theorem loop24z {v2 : AV} (hp : ¬ S.peer > 0) : ∃ v9, iter (evC (envOf GW fs24) 300 lp24x0) mask24x0 300 (st24x0 (.ptr id 0 0) v2 (.int .i64 0)) A = some (.exit 0 ((st24x0 (.ptr id 0 0) v2 (.int .i64 0)).set 9 v9) A) := by
  have hrow := hE.row
  have hlen := hE.2.1.len
  rw [List.length_map] at hlen
  have b2 := evGtr S.peer 0
  rw [decide_eq_false hp] at b2
  have b1 := evLss 0 (S.queue.length : Int)
  refine ⟨.bool false, ?_⟩
  rw [iter_succ, cl24x0]
  cases h : decide ((0 : Int) < (S.queue.length : Int)) with
  | true =>
    rw [h] at b1
    simp [lp24x0, hrow, hlen, b1, b2, -evBin, -evLenSl]
  | false =>
    rw [h] at b1
    simp [lp24x0, hrow, hlen, b1, -evBin, -evLenSl]
/-- the peer's epoch -/
theorem r24_2 {K : List KC} {fr : Nat} {f : FrS} (hf : A[fr]? = some (.row 5 false [frA f])) (hfi : fr ∉ own id qv lv) (hl : S.lost.length ≤ 1000000) (hq : S.queue.length ≤ 100) (hfp : S.peer ≤ f.fr) (d1 d3 d4 d5 d6 d7 d8 d9 d10 d11 d12 d13 d14 d15 : AV) :
    ∃ B qv' lv' e1 e3 e4 e5 e6 e7 e8 e9 e10 e11 e12 e13 e14 e15, run (envOf GW fs24) 300 (.code T24_2 :: K) [.ptr id 0 0, d1, .ptr fr 0 0, d3, d4, d5, d6, d7, d8, d9, d10, d11, d12, d13, d14, d15] A = run (envOf GW fs24) 300 K [.ptr id 0 0, e1, .ptr fr 0 0, e3, e4, e5, e6, e7, e8, e9, e10, e11, e12, e13, e14, e15] B ∧
      EndAt B id (meetS S f.fr) qv' lv' ∧ (∀ j, j ∈ own id qv' lv' → j ∈ own id qv lv ∨ A.length ≤ j) ∧ Fr A B (own id qv lv) := by
  have hrow := hE.row
  have hid := (List.getElem?_eq_some_iff.1 hrow).1
  have hf' : A[fr]? = some (.row 5 false [.agg [.int .i64 f.fr, .int .i64 f.to, .int .i64 f.seq, .int .i64 f.ack, .str f.body]]) := hf
  have b1 := evGtr f.fr S.peer
  have b2 := evGtr S.peer 0
  have hfl := (List.getElem?_eq_some_iff.1 hf).1
  unfold meetS
  by_cases hp : f.fr = S.peer
  · rw [if_pos hp]
    rw [decide_eq_false (by omega)] at b1
    refine ⟨A, qv, lv, d1, d3, d4, d5, d6, d7, .bool false, d9, d10, d11, d12, d13, d14, d15, ?_, hE, fun j hj => .inl hj, Fr.refl _ _⟩
    simp [T24_2, hrow, hf', b1, -evBin]
  rw [if_neg hp]
  rw [decide_eq_true (show f.fr > S.peer by omega)] at b1
  by_cases h0 : S.peer > 0
  rotate_left
  · rw [if_neg h0]
    rw [decide_eq_false h0] at b2
    obtain ⟨v9, lp⟩ := loop24z hE (v2 := .ptr fr 0 0) h0
    have hset : ∀ R, (A.set id R)[id]? = some R := fun R => List.getElem?_set_self hid
    have hfs : ∀ R, (A.set id R)[fr]? = A[fr]? := fun R => List.getElem?_set_ne (fun e => hfi (mem_own.2 (.inl e.symm)))
    refine ⟨A.set id (.row 10 false [.agg [.int .i64 S.epoch, .int .i64 f.fr, qv, .int .i64 S.next, .int .i64 0, .bool S.owes, .int .i64 S.ticks, .bool false, .int .i64 S.hello, lv]]), qv, lv, .undef, .undef, .undef, .undef, .undef, .undef, .undef, .undef, .bool false, .undef, .undef, .undef, .undef, .undef, ?_, ?_, fun j hj => .inl hj, (Fr.set _ _ _).mono fun j _ hj => by
      rw [List.mem_singleton] at hj
      exact mem_own.2 (.inl hj)⟩
    · simp [T24_2, hrow, hf', b1, b2, go24x0 lp, hset, hfs, -evBin]
    · exact hE.turn (by rw [List.getElem?_set_self hid]) (hE.2.1.keep fun j hj => set_ne hE.2.2.2.1 hj) (hE.2.2.1.keep fun j hj => set_ne hE.2.2.2.2.1 hj) (fun j hj => .inl hj) (fun j hj => .inl hj) hE.2.2.2.2.2
  · rw [if_pos h0]
    rw [decide_eq_true h0] at b2
    obtain ⟨B, lv', lp, g1, g2, g3⟩ := loop24 hE hl hq h0 (.ptr fr 0 0)
    have hrowB : B[id]? = some (.row 10 false [.agg [.int .i64 S.epoch, .int .i64 S.peer, qv, .int .i64 S.next, .int .i64 S.received, .bool S.owes, .int .i64 S.ticks, .bool S.heard, .int .i64 S.hello, lv']]) := g1.row
    have hidB := (List.getElem?_eq_some_iff.1 hrowB).1
    have hset : ∀ R, (B.set id R)[id]? = some R := fun R => List.getElem?_set_self hidB
    have hfB : B[fr]? = some (.row 5 false [.agg [.int .i64 f.fr, .int .i64 f.to, .int .i64 f.seq, .int .i64 f.ack, .str f.body]]) := (g3.2 fr hfl (fun h => by
      rw [List.mem_cons] at h
      exact hfi (mem_own.2 (h.imp (fun h => h) .inr)))).trans hf'
    have hfs : ∀ R, (B.set id R)[fr]? = B[fr]? := fun R => List.getElem?_set_ne (fun e => hfi (mem_own.2 (.inl e.symm)))
    refine ⟨B.set id (.row 10 false [.agg [.int .i64 S.epoch, .int .i64 f.fr, .nilS, .int .i64 1, .int .i64 0, .bool S.owes, .int .i64 S.ticks, .bool false, .int .i64 S.hello, lv']]), .nilS, lv', .undef, .undef, .undef, .undef, .undef, .undef, .undef, .undef, .bool true, .undef, .undef, .undef, .undef, .undef, ?_, ?_, fun j hj => ?_, ?_⟩
    · obtain ⟨n, hnn⟩ : ∃ n, n = S.queue.length := ⟨_, rfl⟩
      rw [← hnn] at lp
      simp [T24_2, hrow, hf', b1, b2, go24x0 lp, hrowB, hset, hfs, hfB, -evBin]
    · exact g1.turn (by rw [List.getElem?_set_self hidB]) (.inl ⟨rfl, rfl⟩) (g1.2.2.1.keep fun j hj => set_ne g1.2.2.2.2.1 hj) (fun j hj => by simp [idsOf] at hj) (fun j hj => .inl hj) (fun j hj => by simp [idsOf] at hj)
    · rcases mem_own.1 hj with rfl | hj | hj
      · exact .inl (mem_own.2 (.inl rfl))
      · simp [idsOf] at hj
      · exact (g2 j hj).imp (fun h => mem_own.2 (.inr (.inr h))) (fun h => h)
    · refine (g3.mono fun j _ hj => ?_).trans (Fr.set B id _) fun j hj => .inl ?_
      · rw [List.mem_cons] at hj
        exact hj.elim (fun h => mem_own.2 (.inl h)) (fun h => mem_own.2 (.inr (.inr h)))
      · rw [List.mem_singleton] at hj
        exact mem_own.2 (.inl hj)
theorem r24_3 {K : List KC} {fr : Nat} {f : FrS} (hf : A[fr]? = some (.row 5 false [frA f])) (d1 d3 d4 d5 d6 d7 d8 d9 d10 d11 d12 d13 d14 d15 : AV) :
    (f.to = 0 → ∃ B, run (envOf GW fs24) 300 (.code T24_3 :: K) [.ptr id 0 0, d1, .ptr fr 0 0, d3, d4, d5, d6, d7, d8, d9, d10, d11, d12, d13, d14, d15] A = some (.ret [.ptr id 0 0, d1, .ptr fr 0 0, .nilS, d4, d5, d6, d7, d8, d9, d10, .bool true, d12, d13, d14, d15] B) ∧ EndAt B id { S with owes := true } qv lv ∧ Fr A B [id]) ∧
    (f.to ≠ 0 → run (envOf GW fs24) 300 (.code T24_3 :: K) [.ptr id 0 0, d1, .ptr fr 0 0, d3, d4, d5, d6, d7, d8, d9, d10, d11, d12, d13, d14, d15] A = run (envOf GW fs24) 300 K [.ptr id 0 0, d1, .ptr fr 0 0, d3, d4, d5, d6, d7, d8, d9, d10, .bool false, d12, d13, d14, d15] A) := by
  have hrow := hE.row
  have hid := (List.getElem?_eq_some_iff.1 hrow).1
  have hf' : A[fr]? = some (.row 5 false [.agg [.int .i64 f.fr, .int .i64 f.to, .int .i64 f.seq, .int .i64 f.ack, .str f.body]]) := hf
  have b1 := evEql f.to 0
  constructor
  · intro h
    rw [decide_eq_true h] at b1
    refine ⟨A.set id (.row 10 false [.agg [.int .i64 S.epoch, .int .i64 S.peer, qv, .int .i64 S.next, .int .i64 S.received, .bool true, .int .i64 S.ticks, .bool S.heard, .int .i64 S.hello, lv]]), ?_, ?_, Fr.set _ _ _⟩
    · simp [T24_3, hrow, hf', b1, -evBin]
    · exact hE.turn (by rw [List.getElem?_set_self hid]) (hE.2.1.keep fun j hj => set_ne hE.2.2.2.1 hj) (hE.2.2.1.keep fun j hj => set_ne hE.2.2.2.2.1 hj) (fun j hj => .inl hj) (fun j hj => .inl hj) hE.2.2.2.2.2
  · intro h
    rw [decide_eq_false h] at b1
    simp [T24_3, hrow, hf', b1, -evBin]
set_option maxRecDepth 100000 in
theorem r24_47 {K : MC} {fr : Nat} {f : FrS} (hf : A[fr]? = some (.row 5 false [frA f])) (hfi : fr ∉ own id qv lv) (hq : S.queue.length ≤ 100) (ha : ∀ q ∈ S.queue, 0 ≤ q.at_) (d1 d3 d4 d5 d6 d7 d8 d9 d10 d11 d12 d13 d14 d15 : AV) :
    ∃ B left e5, run (envOf GW fs24) 300 [.code (.seq T24_4 (.seq T24_5 (.seq T24_6 (.seq T24_7 K))))] [.ptr id 0 0, d1, .ptr fr 0 0, d3, d4, d5, d6, d7, d8, d9, d10, d11, d12, d13, d14, d15] A = run (envOf GW fs24) 300 [.code K] [.ptr id 0 0, .undef, .ptr fr 0 0, .undef, .undef, e5, .undef, .undef, .undef, .undef, .undef, .undef, .undef, .undef, .undef, .undef] B ∧
      EndAt B id { S with heard := true, queue := S.queue.filter (keepQ f.ack) } left lv ∧ (∀ j, j ∈ own id left lv → j ∈ own id qv lv ∨ A.length ≤ j) ∧ Fr A B [id] := by
  have hrow := hE.row
  have hid := (List.getElem?_eq_some_iff.1 hrow).1
  have hfl := (List.getElem?_eq_some_iff.1 hf).1
  obtain ⟨A1, hA1⟩ : ∃ A1, A1 = A.set id (.row 10 false [.agg [.int .i64 S.epoch, .int .i64 S.peer, qv, .int .i64 S.next, .int .i64 S.received, .bool S.owes, .int .i64 S.ticks, .bool true, .int .i64 S.hello, lv]]) := ⟨_, rfl⟩
  have hA1o : ∀ j, j ≠ id → A1[j]? = A[j]? := fun j hj => by rw [hA1, List.getElem?_set_ne (Ne.symm hj)]
  have hA1l : A1.length = A.length := by rw [hA1]; simp
  have hst : evStore 1 A (.ptr id 0 7) (.bool true) = some A1 := by
    rw [hA1]; simp [hrow]
  have hE1 : EndAt A1 id { S with heard := true } qv lv := by
    refine hE.turn (by rw [hA1, List.getElem?_set_self hid]) ?_ ?_ (fun j hj => .inl hj) (fun j hj => .inl hj) hE.2.2.2.2.2
    · exact hE.2.1.keep fun j hj => hA1o j (fun e => hE.2.2.2.1 (e ▸ hj))
    · exact hE.2.2.1.keep fun j hj => hA1o j (fun e => hE.2.2.2.2.1 (e ▸ hj))
  have hfid : fr ≠ id := fun e => hfi (mem_own.2 (.inl e))
  have hf1 : A1[fr]? = some (.row 5 false [frA f]) := (hA1o fr hfid).trans hf
  obtain ⟨B, left, lp, g1, g2, g3, g4⟩ := loop24b hE1 hf1 hfi hq ha
  have hrowB := g1.row
  have hidB := (List.getElem?_eq_some_iff.1 hrowB).1
  obtain ⟨C, hC⟩ : ∃ C, C = B.set id (.row 10 false [.agg [.int .i64 S.epoch, .int .i64 S.peer, left, .int .i64 S.next, .int .i64 S.received, .bool S.owes, .int .i64 S.ticks, .bool true, .int .i64 S.hello, lv]]) := ⟨_, rfl⟩
  have hCo : ∀ j, j ≠ id → C[j]? = B[j]? := fun j hj => by rw [hC, List.getElem?_set_ne (Ne.symm hj)]
  have hsc : cellsOf left = [left] ∧ left.solid = true := by
    rcases g2 with ⟨rfl, _⟩ | ⟨r, es, rfl, _⟩ <;> exact ⟨rfl, rfl⟩
  have hst2 : evStore 1 B (.ptr id 0 2) left = some C := by
    rw [hC]
    simp only [evStore, hrowB, List.getElem?_cons_zero]
    rw [if_pos ⟨trivial, hsc.2, by rw [hsc.1]; rfl, by omega⟩]
    simp only [storeElem, hsc.1]
    simp
  have hlo : ∀ j, j ∈ idsOf left → A.length ≤ j := fun j hj => by have := g3 j hj; omega
  refine ⟨C, left, left, ?_, ?_, fun j hj => ?_, ?_⟩
  · obtain ⟨n, hn⟩ : ∃ n, n = S.queue.length := ⟨_, rfl⟩
    have lp' := lp
    simp only at lp'
    rw [← hn] at lp'
    simp [T24_4, T24_5, T24_6, T24_7, hrow, hst, go24x1 lp', hrowB, hst2, -evStore]
  · refine ⟨by rw [hC, List.getElem?_set_self hidB], g2.keep fun j hj => hCo j (fun e => by have := hlo j hj; omega), g1.2.2.1.keep fun j hj => hCo j (fun e => hE.2.2.2.2.1 (e ▸ hj)), fun h => by have := hlo id h; omega, hE.2.2.2.2.1, fun j hj hj2 => ?_⟩
    have := hE.2.2.1.low j hj2
    have := hlo j hj
    omega
  · rcases mem_own.1 hj with h | h | h
    · exact .inl (mem_own.2 (.inl h))
    · exact .inr (hlo j h)
    · exact .inl (mem_own.2 (.inr (.inr h)))
  · refine ⟨by rw [hC, List.length_set]; have := g4.1; omega, fun j hj hn => ?_⟩
    rw [List.mem_singleton] at hn
    rw [hCo j hn, g4.2 j (by omega) (by simp), hA1o j hn]
/-- the end of it: the message -/
def endS (S : EndS) (f : FrS) : EndS × List Bytes := if f.seq = 0 then (S, []) else if f.seq ≠ S.received + 1 then ({ S with owes := true }, []) else ({ S with owes := true, received := f.seq }, [f.body])
set_option maxRecDepth 100000 in
theorem r24_8 {fr : Nat} {f : FrS} (hf : A[fr]? = some (.row 5 false [frA f])) (hfi : fr ≠ id) (hr : -9223372036854775808 ≤ S.received + 1 ∧ S.received + 1 ≤ 9223372036854775807) (d1 d3 d4 d5 d6 d7 d8 d9 d10 d11 d12 d13 d14 d15 : AV) :
    ∃ B out σ, run (envOf GW fs24) 300 [.code (.seq T24_8 (.seq T24_9 (.seq T24_10 (.seq T24_11 (.seq T24_12 T24_13)))))] [.ptr id 0 0, d1, .ptr fr 0 0, d3, d4, d5, d6, d7, d8, d9, d10, d11, d12, d13, d14, d15] A = some (.ret σ B) ∧ σ[3]? = some out ∧
      EndAt B id (endS S f).1 qv lv ∧ SlP 1 B out ((endS S f).2.map .str) ∧ (∀ j, j ∈ idsOf out → A.length ≤ j) ∧ Fr A B [id] := by
  have hrow := hE.row
  have hid := (List.getElem?_eq_some_iff.1 hrow).1
  have hf' : A[fr]? = some (.row 5 false [.agg [.int .i64 f.fr, .int .i64 f.to, .int .i64 f.seq, .int .i64 f.ack, .str f.body]]) := hf
  have b1 := evEql f.seq 0
  have b2 := evAdd (a := S.received) (b := 1) hr
  have b3 := evNeq f.seq (S.received + 1)
  unfold endS
  by_cases h0 : f.seq = 0
  · rw [if_pos h0]
    rw [decide_eq_true h0] at b1
    refine ⟨A, .nilS, [.ptr id 0 0, d1, .ptr fr 0 0, .nilS, d4, d5, d6, d7, d8, d9, d10, d11, d12, d13, .bool true, d15], ?_, rfl, hE, .inl ⟨rfl, rfl⟩, by simp, Fr.refl _ _⟩
    simp [T24_8, hf', b1, -evBin]
  rw [if_neg h0]
  rw [decide_eq_false h0] at b1
  obtain ⟨A1, hA1⟩ : ∃ A1, A1 = A.set id (.row 10 false [.agg [.int .i64 S.epoch, .int .i64 S.peer, qv, .int .i64 S.next, .int .i64 S.received, .bool true, .int .i64 S.ticks, .bool S.heard, .int .i64 S.hello, lv]]) := ⟨_, rfl⟩
  have hA1o : ∀ j, j ≠ id → A1[j]? = A[j]? := fun j hj => by rw [hA1, List.getElem?_set_ne (Ne.symm hj)]
  have hst : evStore 1 A (.ptr id 0 5) (.bool true) = some A1 := by
    rw [hA1]; simp [hrow]
  have hrow1 : A1[id]? = some (.row 10 false [.agg [.int .i64 S.epoch, .int .i64 S.peer, qv, .int .i64 S.next, .int .i64 S.received, .bool true, .int .i64 S.ticks, .bool S.heard, .int .i64 S.hello, lv]]) := by rw [hA1, List.getElem?_set_self hid]
  have hid1 := (List.getElem?_eq_some_iff.1 hrow1).1
  have hE1 : EndAt A1 id { S with owes := true } qv lv := by
    refine hE.turn hrow1 ?_ ?_ (fun j hj => .inl hj) (fun j hj => .inl hj) hE.2.2.2.2.2
    · exact hE.2.1.keep fun j hj => hA1o j (fun e => hE.2.2.2.1 (e ▸ hj))
    · exact hE.2.2.1.keep fun j hj => hA1o j (fun e => hE.2.2.2.2.1 (e ▸ hj))
  have hf1 : A1[fr]? = some (.row 5 false [.agg [.int .i64 f.fr, .int .i64 f.to, .int .i64 f.seq, .int .i64 f.ack, .str f.body]]) := (hA1o fr hfi).trans hf'
  have F1 : Fr A A1 [id] := by rw [hA1]; exact Fr.set _ _ _
  obtain ⟨w, hw⟩ : ∃ w, w = S.received + 1 := ⟨_, rfl⟩
  rw [← hw] at b2 b3
  by_cases h1 : f.seq ≠ S.received + 1
  · rw [if_pos h1]
    rw [decide_eq_true (by rw [hw]; exact h1)] at b3
    refine ⟨A1, .nilS, [.ptr id 0 0, d1, .ptr fr 0 0, .nilS, d4, d5, d6, d7, d8, d9, d10, d11, d12, d13, .bool false, .bool true], ?_, rfl, hE1, .inl ⟨rfl, rfl⟩, by simp, F1⟩
    simp [T24_8, T24_9, T24_10, hf', b1, b2, b3, hrow, hst, hf1, hrow1, -evBin, -evStore]
  · rw [if_neg h1]
    rw [decide_eq_false (by rw [hw]; exact h1)] at b3
    obtain ⟨A2, hA2⟩ : ∃ A2, A2 = A1.set id (.row 10 false [.agg [.int .i64 S.epoch, .int .i64 S.peer, qv, .int .i64 S.next, .int .i64 f.seq, .bool true, .int .i64 S.ticks, .bool S.heard, .int .i64 S.hello, lv]]) := ⟨_, rfl⟩
    have hA2o : ∀ j, j ≠ id → A2[j]? = A1[j]? := fun j hj => by rw [hA2, List.getElem?_set_ne (Ne.symm hj)]
    have hst2 : evStore 1 A1 (.ptr id 0 4) (.int .i64 f.seq) = some A2 := by
      rw [hA2]; simp [hrow1]
    have hE2 : EndAt A2 id { S with owes := true, received := f.seq } qv lv := by
      refine hE1.turn (by rw [hA2, List.getElem?_set_self hid1]) ?_ ?_ (fun j hj => .inl hj) (fun j hj => .inl hj) hE1.2.2.2.2.2
      · exact hE1.2.1.keep fun j hj => hA2o j (fun e => hE.2.2.2.1 (e ▸ hj))
      · exact hE1.2.2.1.keep fun j hj => hA2o j (fun e => hE.2.2.2.2.1 (e ▸ hj))
    have hf2 : A2[fr]? = some (.row 5 false [.agg [.int .i64 f.fr, .int .i64 f.to, .int .i64 f.seq, .int .i64 f.ack, .str f.body]]) := (hA2o fr hfi).trans hf1
    have F2 : Fr A A2 [id] := F1.trans (by rw [hA2]; exact Fr.set _ _ _) fun j hj => .inl hj
    have hl2 : A2.length = A.length := by rw [hA2, List.length_set, hA1, List.length_set]
    refine ⟨A2 ++ [.row 1 false [.str f.body]], .sl A2.length 0 1, [.ptr id 0 0, d1, .ptr fr 0 0, .sl A2.length 0 1, d4, d5, d6, d7, d8, d9, d10, d11, d12, d13, .bool false, .bool false], ?_, rfl, hE2.keep fun j hj => List.getElem?_append_left (hE2.low j hj), .inr ⟨A2.length, [.str f.body], rfl, by simp, rfl⟩, fun j hj => by simp [idsOf] at hj; omega, F2.trans (Fr.app _ _ []) fun j hj => by simp at hj⟩
    simp [T24_8, T24_9, T24_10, T24_11, T24_12, T24_13, hf', b1, b2, b3, hrow, hst, hf1, hrow1, hst2, hf2, -evBin, -evStore]
set_option maxRecDepth 100000 in
theorem ev24 (h : Handler) (hl : S.lost.length ≤ 1000000) (hq : S.queue.length ≤ 100) (hr : 0 ≤ S.received ∧ S.received ≤ 4611686018427387903) (ha : ∀ q ∈ S.queue, 0 ≤ q.at_) (f : FrS) :
    ∃ B out, H24 h [.ptr id 0 0, frA f] A = some (out, B) ∧ RecAt A B id (receiveS S f).1 (own id qv lv) out (receiveS S f).2 := by
  obtain ⟨A1, hA1⟩ : ∃ A1, A1 = A ++ [Ent.row 5 false [frA f]] := ⟨_, rfl⟩
  have hA1l : A1.length = A.length + 1 := by rw [hA1]; simp
  have hF1 : Fr A A1 (own id qv lv) := by rw [hA1]; exact Fr.app _ _ _
  have hf1 : A1[A.length]? = some (.row 5 false [frA f]) := by rw [hA1]; simp
  have hE1 : EndAt A1 id S qv lv := hE.keep fun j hj => by rw [hA1, List.getElem?_append_left (hE.low j hj)]
  have hfr1 : A.length ∉ own id qv lv := fun hj => by have := hE.low _ hj; omega
  obtain ⟨KA, hKA⟩ : ∃ K, K = MC.seq T24_8 (.seq T24_9 (.seq T24_10 (.seq T24_11 (.seq T24_12 T24_13)))) := ⟨_, rfl⟩
  obtain ⟨KB, hKB⟩ : ∃ K, K = MC.seq T24_4 (.seq T24_5 (.seq T24_6 (.seq T24_7 KA))) := ⟨_, rfl⟩
  have e0 : run (envOf GW fs24) 300 [.code (.seq T24_0 (.seq T24_1 (.seq T24_2 (.seq T24_3 KB))))] [.ptr id 0 0, frA f, .undef, .undef, .undef, .undef, .undef, .undef, .undef, .undef, .undef, .undef, .undef, .undef, .undef, .undef] A =
      run (envOf GW fs24) 300 (.code T24_1 :: [.code (.seq T24_2 (.seq T24_3 KB))]) [.ptr id 0 0, frA f, .ptr A.length 0 0, .nilS, .undef, .undef, .undef, .undef, .undef, .undef, .undef, .undef, .undef, .undef, .undef, .undef] A1 := by
    have b1 : evBox 5 (frA f) A = some (.ptr A.length 0 0, A1) := by rw [hA1]; simp [evBox, frA]
    rw [run_seq]
    obtain ⟨F, hF⟩ : ∃ F, F = frA f := ⟨_, rfl⟩
    have hc : (cellsOf F).length = 5 := by rw [hF]; rfl
    rw [← hF] at b1 ⊢
    simp [T24_0, hc, b1, -evBox, -cellsOf]
  have hrep : ([.ptr id 0 0, frA f] ++ List.replicate (16 - 2) .undef : List AV) = [.ptr id 0 0, frA f, .undef, .undef, .undef, .undef, .undef, .undef, .undef, .undef, .undef, .undef, .undef, .undef, .undef, .undef] := rfl
  have key : ∀ {out : AV} {B : Arena} {σ : List AV}, run (envOf GW fs24) 300 (.code T24_1 :: [.code (.seq T24_2 (.seq T24_3 KB))]) [.ptr id 0 0, frA f, .ptr A.length 0 0, .nilS, .undef, .undef, .undef, .undef, .undef, .undef, .undef, .undef, .undef, .undef, .undef, .undef] A1 = some (.ret σ B) → σ[3]? = some out → H24 h [.ptr id 0 0, frA f] A = some (out, B) := by
    intro out B σ hh hs
    have hs' : σ.getD 3 .undef = out := by simp [List.getD_eq_getElem?_getD, hs]
    unfold H24
    rw [evFun_run _ _ rfl, T24__eq]
    simp only
    rw [hrep, ← hKA, ← hKB, e0, hh]
    simp [evRes, pack, hs]
  have r1 := r24_1 hE1 (K := [.code (.seq T24_2 (.seq T24_3 KB))]) (fuel := 300) hf1 (frA f) .undef .undef .undef .undef .undef .undef .undef .undef .undef .undef .undef .undef
  have nilOut : ∀ {B : Arena} {T : EndS} {qv' lv' : AV}, EndAt B id T qv' lv' → (∀ j, j ∈ own id qv' lv' → j ∈ own id qv lv ∨ A.length ≤ j) → Fr A B (own id qv lv) → RecAt A B id T (own id qv lv) .nilS [] := fun h1 h2 h3 => ⟨_, _, h1, .inl ⟨rfl, rfl⟩, fun j hj => by simp [idsOf] at hj, h2, h3⟩
  unfold receiveS
  by_cases ht : takes S f
  rotate_left
  · rw [if_neg ht] at r1 ⊢
    exact ⟨A1, .nilS, key r1 rfl, nilOut hE1 (fun j hj => .inl hj) hF1⟩
  rw [if_pos ht] at r1 ⊢
  obtain ⟨A2, q2, l2, e1, e3, e4, e5, e6, e7, e8, e9, e10, e11, e12, e13, e14, e15, v2, g2, i2, F2⟩ := r24_2 hE1 (K := [.code (.seq T24_3 KB)]) hf1 hfr1 hl hq ht.2.2 (frA f) .nilS .undef .undef .undef (.bool false) .undef .undef .undef .undef .undef .undef .undef .undef
  rw [run_seq, v2, run_seq] at r1
  have hf2 : A2[A.length]? = some (.row 5 false [frA f]) := (F2.2 A.length (by omega) hfr1).trans hf1
  have hfr2 : A.length ∉ own id q2 l2 := fun hj => (i2 _ hj).elim hfr1 (fun h => by omega)
  have hF2 : Fr A A2 (own id qv lv) := hF1.trans F2 fun j hj => .inl hj
  have o2 : ∀ j, j ∈ own id q2 l2 → j ∈ own id qv lv ∨ A.length ≤ j := fun j hj => (i2 j hj).imp (fun h => h) (fun h => by omega)
  have one : ∀ {B C : Arena}, Fr A B (own id qv lv) → Fr B C [id] → Fr A C (own id qv lv) := fun h1 h2 => h1.trans h2 fun j hj => .inl (by rw [List.mem_singleton] at hj; exact mem_own.2 (.inl hj))
  obtain ⟨r3a, r3b⟩ := r24_3 g2 (K := [.code KB]) hf2 e1 e3 e4 e5 e6 e7 e8 e9 e10 e11 e12 e13 e14 e15
  by_cases hto : f.to = 0
  · rw [if_pos hto]
    obtain ⟨A3, v3, g3, F3⟩ := r3a hto
    rw [v3] at r1
    have e : recS0 S f = { meetS S f.fr with owes := true } := by
      unfold recS0
      rw [decide_eq_true hto, Bool.true_or, Bool.or_true]
    rw [e]
    exact ⟨A3, .nilS, key r1 rfl, nilOut g3 o2 (one hF2 F3)⟩
  rw [if_neg hto]
  rw [r3b hto, hKB] at r1
  have hq2 : (meetS S f.fr).queue.length ≤ 100 ∧ ∀ q ∈ (meetS S f.fr).queue, 0 ≤ q.at_ := by
    unfold meetS
    split
    · exact ⟨hq, ha⟩
    · split
      · exact ⟨by simp, by simp⟩
      · exact ⟨hq, ha⟩
  obtain ⟨A4, left, c5, v4, g4, i4, F4⟩ := r24_47 g2 (K := KA) hf2 hfr2 hq2.1 hq2.2 e1 e3 e4 e5 e6 e7 e8 e9 e10 (.bool false) e12 e13 e14 e15
  rw [v4, hKA] at r1
  have hfid : A.length ≠ id := fun e => hfr1 (mem_own.2 (.inl e))
  have hf4 : A4[A.length]? = some (.row 5 false [frA f]) := (F4.2 A.length (by have := F2.1; omega) (by simpa using hfid)).trans hf2
  have hrec : (meetS S f.fr).received = S.received ∨ (meetS S f.fr).received = 0 := by
    unfold meetS
    split
    · exact .inl rfl
    · split
      · exact .inr rfl
      · exact .inr rfl
  have o4 : ∀ j, j ∈ own id left l2 → j ∈ own id qv lv ∨ A.length ≤ j := fun j hj => (i4 j hj).elim (o2 j) (fun h => .inr (by have := hF2.1; omega))
  have hF4 := one hF2 F4
  obtain ⟨A5, out, σ, v5, s5, g5, p5, i5, F5⟩ := r24_8 g4 hf4 hfid (by simp only; omega) .undef .undef .undef c5 .undef .undef .undef .undef .undef .undef .undef .undef .undef .undef
  rw [v5, ← hKA, ← hKB] at r1
  have hF5 := one hF4 F5
  refine ⟨A5, out, key r1 s5, ?_⟩
  have hok := ht.1
  have eE : endS { meetS S f.fr with heard := true, queue := (meetS S f.fr).queue.filter (keepQ f.ack) } f = if f.seq = 0 ∨ f.seq ≠ (recS1 S f).received + 1 then (recS1 S f, []) else ({ recS1 S f with received := f.seq }, [f.body]) := by
    have hrr : (recS1 S f).received = (meetS S f.fr).received := rfl
    have h1 : recS1 S f = { meetS S f.fr with heard := true, queue := (meetS S f.fr).queue.filter (keepQ f.ack), owes := (meetS S f.fr).owes || (decide (f.to = 0) || decide (f.seq > 0)) } := rfl
    unfold endS
    rw [hrr, h1]
    by_cases h0 : f.seq = 0
    · rw [if_pos h0, if_pos (.inl h0), decide_eq_false hto, decide_eq_false (by omega), Bool.false_or, Bool.or_false]
    · have hs : f.seq > 0 := by have := hok.2.2.1; omega
      rw [if_neg h0, decide_eq_false hto, decide_eq_true hs, Bool.false_or, Bool.or_true]
      by_cases h1 : f.seq ≠ (meetS S f.fr).received + 1
      · rw [if_pos h1, if_pos (.inr h1)]
      · rw [if_neg h1, if_neg (by rintro (h | h); exact h0 h; exact h1 h)]
  rw [← eE]
  exact ⟨left, l2, g5, p5, fun j hj => ⟨by have := i5 j hj; have := hF4.1; omega, fun hj2 => by
    have := i5 j hj
    have := g4.low j hj2
    omega⟩, o4, hF5⟩
end
end Go.Proofs.Ytfidjdlmmcaplaa
/-
  The functions, compiled; written by wip/gen.
-/
namespace Go.Proofs.Ytfidjdlmmcaplaa
open Go
def lp3x0 : MC := .seq (.seq (.region [⟨none, .mv (.var 6), none⟩, ⟨some 25, .bin .lss (.tmp 0) (.cst (.int .i64 2)), none⟩]) (.cond (.var 25) .skip (.exit 0))) (.seq (.seq (.block 1 (.seq (.region [⟨none, .call (.fn 13) [.cst (.int .i64 1)], none⟩, ⟨none, .mv (.tmp 0), none⟩, ⟨none, .extract (.tmp 1) 0, none⟩, ⟨none, .extract (.tmp 1) 1, none⟩, ⟨some 7, .mv (.tmp 2), none⟩, ⟨some 8, .mv (.tmp 3), none⟩]) (.seq (.region [⟨none, .call (.fn 14) [.cst (.int .i64 1)], none⟩, ⟨none, .mv (.tmp 0), none⟩, ⟨none, .extract (.tmp 1) 0, none⟩, ⟨none, .extract (.tmp 1) 1, none⟩, ⟨some 9, .mv (.tmp 2), none⟩, ⟨some 10, .mv (.tmp 3), none⟩]) (.seq (.seq (.region [⟨none, .mv (.var 8), none⟩, ⟨none, .bin .neq (.tmp 0) (.cst (.int .i64 0)), none⟩, ⟨none, .mv (.tmp 1), none⟩, ⟨none, .mv (.var 10), some (.tmp 2, false)⟩, ⟨none, .bin .neq (.tmp 3) (.cst (.int .i64 0)), some (.tmp 2, false)⟩, ⟨some 26, .pick (.tmp 2) (.cst (.bool true)) (.tmp 4), none⟩]) (.cond (.var 26) (.seq (.region [⟨some 2, .mv (.cst (.bool false)), none⟩]) .ret) .skip)) (.seq (.region [⟨none, .mv (.var 6), none⟩, ⟨none, .mv (.var 7), none⟩, ⟨none, .indexArr 2 1 (.var 4) (.tmp 0), none⟩, ⟨none, .store 1 (.tmp 2) (.tmp 1), none⟩]) (.region [⟨none, .mv (.var 6), none⟩, ⟨none, .mv (.var 9), none⟩, ⟨none, .indexArr 2 1 (.var 5) (.tmp 0), none⟩, ⟨none, .store 1 (.tmp 2) (.tmp 1), none⟩])))))) (.kill [2, 7, 8, 9, 10, 11, 12, 13, 14, 15, 16, 17, 18, 19, 20, 21, 22, 23, 24, 25, 26, 27, 28, 29, 30, 31, 32, 33, 34, 35, 36, 37, 38, 39, 40])) (.region [⟨none, .mv (.var 6), none⟩, ⟨none, .bin .add (.tmp 0) (.cst (.int .i64 1)), none⟩, ⟨some 6, .mv (.tmp 1), none⟩]))
def lp3x1 : MC := .seq (.seq (.region [⟨none, .mv (.var 17), none⟩, ⟨none, .mv (.var 16), none⟩, ⟨none, .lenSl (.tmp 1), none⟩, ⟨some 36, .bin .lss (.tmp 0) (.tmp 2), none⟩]) (.cond (.var 36) .skip (.exit 5))) (.seq (.seq (.block 6 (.region [⟨none, .mv (.var 11), none⟩, ⟨none, .mv (.var 14), none⟩, ⟨none, .bin .sub (.cst (.int .i64 1)) (.tmp 1), none⟩, ⟨none, .mv (.var 16), none⟩, ⟨none, .mv (.var 17), none⟩, ⟨none, .indexSl 5 (.tmp 3) (.tmp 4), none⟩, ⟨none, .load true 5 (.tmp 5), none⟩, ⟨none, .build [.int .i64 0, .int .i64 0, .int .i64 0, .int .i64 0, .int .i64 0, .str []] [(0, (1, .tmp 2)), (1, (5, .tmp 6))], none⟩, ⟨none, .buildF 6 [.tmp 7], none⟩, ⟨none, .appendN 6 56 (.tmp 0) (.tmp 8), none⟩, ⟨some 11, .mv (.tmp 9), none⟩])) (.kill [2, 6, 7, 8, 9, 10, 15, 18, 19, 20, 21, 22, 23, 24, 25, 26, 27, 28, 29, 30, 31, 32, 33, 34, 35, 36, 37, 38, 39, 40])) (.region [⟨none, .mv (.var 17), none⟩, ⟨none, .bin .add (.tmp 0) (.cst (.int .i64 1)), none⟩, ⟨some 17, .mv (.tmp 1), none⟩]))
def lp3x2 : MC := .seq (.seq (.region [⟨none, .mv (.var 24), none⟩, ⟨some 39, .bin .lss (.tmp 0) (.cst (.int .i64 2)), none⟩]) (.cond (.var 39) .skip (.exit 7))) (.seq (.seq (.block 8 (.seq (.regionD [17, 15, 22, 25, 26] [⟨none, .mv (.var 24), none⟩, ⟨none, .indexArr 2 1 (.var 4) (.tmp 0), none⟩, ⟨none, .load false 1 (.tmp 1), none⟩, ⟨none, .call (.fn 25) [.tmp 2], none⟩, ⟨none, .mv (.var 24), none⟩, ⟨none, .indexArr 2 1 (.var 5) (.tmp 4), none⟩, ⟨none, .load false 1 (.tmp 5), none⟩, ⟨none, .nilCheck (.tmp 6), none⟩, ⟨none, .fieldAddr 1 (.tmp 7), none⟩, ⟨none, .load false 1 (.tmp 8), none⟩, ⟨none, .bin .neq (.tmp 3) (.tmp 9), none⟩, ⟨none, .mv (.tmp 10), none⟩, ⟨none, .mv (.var 24), some (.tmp 11, false)⟩, ⟨none, .indexArr 2 1 (.var 4) (.tmp 12), some (.tmp 11, false)⟩, ⟨none, .load false 1 (.tmp 13), some (.tmp 11, false)⟩, ⟨none, .call (.fn 26) [.tmp 14], some (.tmp 11, false)⟩, ⟨none, .mv (.var 24), some (.tmp 11, false)⟩, ⟨none, .indexArr 2 1 (.var 5) (.tmp 16), some (.tmp 11, false)⟩, ⟨none, .load false 1 (.tmp 17), some (.tmp 11, false)⟩, ⟨none, .nilCheck (.tmp 18), some (.tmp 11, false)⟩, ⟨none, .fieldAddr 0 (.tmp 19), some (.tmp 11, false)⟩, ⟨none, .load false 1 (.tmp 20), some (.tmp 11, false)⟩, ⟨none, .bin .neq (.tmp 15) (.tmp 21), some (.tmp 11, false)⟩, ⟨none, .pick (.tmp 11) (.cst (.bool true)) (.tmp 22), none⟩, ⟨none, .mv (.tmp 23), none⟩, ⟨none, .mv (.var 24), some (.tmp 24, false)⟩, ⟨none, .indexArr 2 1 (.var 4) (.tmp 25), some (.tmp 24, false)⟩, ⟨none, .load false 1 (.tmp 26), some (.tmp 24, false)⟩, ⟨none, .call (.fn 27) [.tmp 27], some (.tmp 24, false)⟩, ⟨none, .mv (.var 24), some (.tmp 24, false)⟩, ⟨none, .indexArr 2 1 (.var 5) (.tmp 29), some (.tmp 24, false)⟩, ⟨none, .load false 1 (.tmp 30), some (.tmp 24, false)⟩, ⟨none, .nilCheck (.tmp 31), some (.tmp 24, false)⟩, ⟨none, .fieldAddr 2 (.tmp 32), some (.tmp 24, false)⟩, ⟨none, .load false 1 (.tmp 33), some (.tmp 24, false)⟩, ⟨none, .lenSl (.tmp 34), some (.tmp 24, false)⟩, ⟨none, .bin .neq (.tmp 28) (.tmp 35), some (.tmp 24, false)⟩, ⟨none, .pick (.tmp 24) (.cst (.bool true)) (.tmp 36), none⟩, ⟨none, .mv (.tmp 37), none⟩, ⟨none, .indexArr 3 1 (.var 13) (.cst (.int .i64 2)), some (.tmp 38, false)⟩, ⟨none, .load false 1 (.tmp 39), some (.tmp 38, false)⟩, ⟨none, .call (.fn 15) [.tmp 40, .cst (.int .i64 3)], some (.tmp 38, false)⟩, ⟨none, .bin .eql (.tmp 41) (.cst (.int .i64 0)), some (.tmp 38, false)⟩, ⟨none, .mv (.tmp 42), some (.tmp 38, false)⟩, ⟨none, .mv (.var 24), some (.tmp 43, true)⟩, ⟨none, .indexArr 2 1 (.var 4) (.tmp 44), some (.tmp 43, true)⟩, ⟨none, .load false 1 (.tmp 45), some (.tmp 43, true)⟩, ⟨none, .call (.fn 28) [.tmp 46], some (.tmp 43, true)⟩, ⟨none, .mv (.var 24), some (.tmp 43, true)⟩, ⟨none, .indexArr 2 1 (.var 5) (.tmp 48), some (.tmp 43, true)⟩, ⟨none, .load false 1 (.tmp 49), some (.tmp 43, true)⟩, ⟨none, .call (.fn 29) [.tmp 50], some (.tmp 43, true)⟩, ⟨none, .call (.fn 22) [.tmp 47, .tmp 51], some (.tmp 43, true)⟩, ⟨none, .un .not (.tmp 52), some (.tmp 43, true)⟩, ⟨none, .pick (.tmp 43) (.tmp 53) (.cst (.bool false)), some (.tmp 38, false)⟩, ⟨some 40, .pick (.tmp 38) (.cst (.bool true)) (.tmp 54), none⟩] [(28, 30), (28, 31), (28, 33), (28, 34), (47, 49), (47, 50)]) (.cond (.var 40) (.seq (.region [⟨some 2, .mv (.cst (.bool false)), none⟩]) .ret) .skip))) (.kill [2, 6, 7, 8, 9, 10, 14, 15, 16, 17, 18, 19, 20, 21, 22, 23, 25, 26, 27, 28, 29, 30, 31, 32, 33, 34, 35, 36, 37, 38, 39, 40])) (.region [⟨none, .mv (.var 24), none⟩, ⟨none, .bin .add (.tmp 0) (.cst (.int .i64 1)), none⟩, ⟨some 24, .mv (.tmp 1), none⟩]))
def lp3x3 : MC := .seq (.seq (.region [⟨none, .mv (.var 12), none⟩, ⟨none, .mv (.var 0), none⟩, ⟨none, .lenSl (.tmp 1), none⟩, ⟨none, .bin .lss (.tmp 0) (.tmp 2), none⟩, ⟨none, .mv (.tmp 3), none⟩, ⟨none, .mv (.var 12), some (.tmp 4, true)⟩, ⟨none, .bin .lss (.tmp 5) (.cst (.int .i64 60)), some (.tmp 4, true)⟩, ⟨some 27, .pick (.tmp 4) (.tmp 6) (.cst (.bool false)), none⟩]) (.cond (.var 27) .skip (.exit 2))) (.seq (.seq (.block 3 (.seq (.region [⟨none, .mv (.var 0), none⟩, ⟨none, .mv (.var 12), none⟩, ⟨none, .indexSl 3 (.tmp 0) (.tmp 1), none⟩, ⟨none, .load true 3 (.tmp 2), none⟩, ⟨some 13, .alloc 3 (.agg [.int .i64 0, .int .i64 0, .int .i64 0]), none⟩, ⟨none, .store 3 (.var 13) (.tmp 3), none⟩]) (.seq (.region [⟨none, .indexArr 3 1 (.var 13) (.cst (.int .i64 1)), none⟩, ⟨none, .load false 1 (.tmp 0), none⟩, ⟨none, .call (.fn 15) [.tmp 1, .cst (.int .i64 2)], none⟩, ⟨some 14, .mv (.tmp 2), none⟩]) (.seq (.seq (.region [⟨none, .indexArr 3 1 (.var 13) (.cst (.int .i64 0)), none⟩, ⟨none, .load false 1 (.tmp 0), none⟩, ⟨some 28, .call (.fn 15) [.tmp 1, .cst (.int .i64 10)], none⟩]) (.seq (.block 4 (.seq (.seq (.region [⟨none, .bin .eql (.var 28) (.cst (.int .i64 0)), none⟩, ⟨some 32, .mv (.tmp 0), none⟩]) (.cond (.var 32) .skip (.seq (.region [⟨none, .bin .eql (.var 28) (.cst (.int .i64 1)), none⟩, ⟨some 32, .mv (.tmp 0), none⟩]) (.cond (.var 32) .skip (.region [⟨none, .bin .eql (.var 28) (.cst (.int .i64 2)), none⟩, ⟨some 32, .mv (.tmp 0), none⟩]))))) (.cond (.var 32) (.seq (.regionD [17, 15, 22, 25, 26] [⟨none, .mv (.var 14), none⟩, ⟨none, .indexArr 2 1 (.var 4) (.tmp 0), none⟩, ⟨none, .load false 1 (.tmp 1), none⟩, ⟨none, .mv (.var 12), none⟩, ⟨none, .call (.fn 17) [.tmp 3], none⟩, ⟨none, .call (.fn 16) [.tmp 2, .tmp 4], none⟩, ⟨none, .mv (.var 14), none⟩, ⟨none, .indexArr 2 1 (.var 5) (.tmp 6), none⟩, ⟨none, .load false 1 (.tmp 7), none⟩, ⟨none, .mv (.var 12), none⟩, ⟨none, .call (.fn 17) [.tmp 9], none⟩, ⟨none, .call (.fn 18) [.tmp 8, .tmp 10], none⟩, ⟨some 33, .bin .neq (.tmp 5) (.tmp 11), none⟩] [(5, 7), (5, 8)]) (.cond (.var 33) (.seq (.region [⟨some 2, .mv (.cst (.bool false)), none⟩]) .ret) .skip)) (.seq (.seq (.region [⟨none, .bin .eql (.var 28) (.cst (.int .i64 3)), none⟩, ⟨some 34, .mv (.tmp 0), none⟩]) (.cond (.var 34) .skip (.seq (.region [⟨none, .bin .eql (.var 28) (.cst (.int .i64 4)), none⟩, ⟨some 34, .mv (.tmp 0), none⟩]) (.cond (.var 34) .skip (.region [⟨none, .bin .eql (.var 28) (.cst (.int .i64 5)), none⟩, ⟨some 34, .mv (.tmp 0), none⟩]))))) (.cond (.var 34) (.seq (.region [⟨none, .mv (.var 14), none⟩, ⟨none, .indexArr 2 1 (.var 4) (.tmp 0), none⟩, ⟨none, .load false 1 (.tmp 1), none⟩, ⟨none, .call (.fn 19) [.tmp 2], none⟩, ⟨some 15, .mv (.tmp 3), none⟩]) (.seq (.region [⟨none, .mv (.var 14), none⟩, ⟨none, .indexArr 2 1 (.var 5) (.tmp 0), none⟩, ⟨none, .load false 1 (.tmp 1), none⟩, ⟨none, .call (.fn 20) [.tmp 2], none⟩, ⟨some 16, .mv (.tmp 3), none⟩]) (.seq (.seq (.region [⟨none, .mv (.var 15), none⟩, ⟨none, .mv (.var 16), none⟩, ⟨none, .call (.fn 21) [.tmp 0, .tmp 1], none⟩, ⟨some 35, .un .not (.tmp 2), none⟩]) (.cond (.var 35) (.seq (.region [⟨some 2, .mv (.cst (.bool false)), none⟩]) .ret) .skip)) (.seq (.region [⟨some 17, .mv (.cst (.int .i64 0)), none⟩]) (.seq (.block 5 (.loop [2, 6, 7, 8, 9, 10, 15, 18, 19, 20, 21, 22, 23, 24, 25, 26, 27, 28, 29, 30, 31, 32, 33, 34, 35, 36, 37, 38, 39, 40] lp3x1)) (.kill [2, 6, 7, 8, 9, 10, 14, 15, 16, 17, 18, 19, 20, 21, 22, 23, 24, 25, 26, 27, 28, 29, 30, 31, 32, 33, 34, 35, 36, 37, 38, 39, 40])))))) (.seq (.region [⟨none, .bin .eql (.var 28) (.cst (.int .i64 9)), none⟩, ⟨some 37, .mv (.tmp 0), none⟩]) (.cond (.var 37) (.seq (.region [⟨none, .mv (.var 14), none⟩, ⟨none, .indexArr 2 1 (.var 5) (.tmp 0), none⟩, ⟨none, .load false 1 (.tmp 1), none⟩, ⟨none, .nilCheck (.tmp 2), none⟩, ⟨none, .fieldAddr 0 (.tmp 3), none⟩, ⟨none, .load false 1 (.tmp 4), none⟩, ⟨none, .indexArr 3 1 (.var 13) (.cst (.int .i64 2)), none⟩, ⟨none, .load false 1 (.tmp 6), none⟩, ⟨none, .call (.fn 15) [.tmp 7, .cst (.int .i64 4)], none⟩, ⟨none, .bin .add (.tmp 5) (.tmp 8), none⟩, ⟨some 18, .mv (.tmp 9), none⟩]) (.seq (.region [⟨none, .mv (.var 18), none⟩, ⟨none, .call (.fn 13) [.tmp 0], none⟩, ⟨none, .mv (.tmp 1), none⟩, ⟨none, .extract (.tmp 2) 0, none⟩, ⟨none, .extract (.tmp 2) 1, none⟩, ⟨some 19, .mv (.tmp 3), none⟩, ⟨some 20, .mv (.tmp 4), none⟩]) (.seq (.region [⟨none, .mv (.var 18), none⟩, ⟨none, .call (.fn 14) [.tmp 0], none⟩, ⟨none, .mv (.tmp 1), none⟩, ⟨none, .extract (.tmp 2) 0, none⟩, ⟨none, .extract (.tmp 2) 1, none⟩, ⟨some 21, .mv (.tmp 3), none⟩, ⟨some 22, .mv (.tmp 4), none⟩]) (.seq (.seq (.region [⟨none, .mv (.var 20), none⟩, ⟨none, .mv (.var 22), none⟩, ⟨some 38, .bin .neq (.tmp 0) (.tmp 1), none⟩]) (.cond (.var 38) (.seq (.region [⟨some 2, .mv (.cst (.bool false)), none⟩]) .ret) .skip)) (.seq (.region [⟨none, .mv (.var 14), none⟩, ⟨none, .mv (.var 19), none⟩, ⟨none, .indexArr 2 1 (.var 4) (.tmp 0), none⟩, ⟨none, .store 1 (.tmp 2) (.tmp 1), none⟩]) (.region [⟨none, .mv (.var 14), none⟩, ⟨none, .mv (.var 21), none⟩, ⟨none, .indexArr 2 1 (.var 5) (.tmp 0), none⟩, ⟨none, .store 1 (.tmp 2) (.tmp 1), none⟩])))))) (.seq (.region [⟨none, .mv (.var 14), none⟩, ⟨none, .build [.int .i64 0, .int .i64 0, .int .i64 0, .int .i64 0, .int .i64 0, .str []] [(0, (1, .tmp 0))], none⟩, ⟨some 23, .alloc 6 (.agg [.int .i64 0, .int .i64 0, .int .i64 0, .int .i64 0, .int .i64 0, .str []]), none⟩, ⟨none, .store 6 (.var 23) (.tmp 1), none⟩]) (.seq (.seq (.region [⟨none, .indexArr 3 1 (.var 13) (.cst (.int .i64 0)), none⟩, ⟨none, .load false 1 (.tmp 0), none⟩, ⟨none, .call (.fn 15) [.tmp 1, .cst (.int .i64 10)], none⟩, ⟨none, .bin .eql (.tmp 2) (.cst (.int .i64 8)), none⟩, ⟨none, .mv (.tmp 3), none⟩, ⟨none, .mv (.var 1), some (.tmp 4, true)⟩, ⟨none, .lenSl (.tmp 5), some (.tmp 4, true)⟩, ⟨none, .bin .gtr (.tmp 6) (.cst (.int .i64 0)), some (.tmp 4, true)⟩, ⟨some 29, .pick (.tmp 4) (.tmp 7) (.cst (.bool false)), none⟩]) (.cond (.var 29) (.region [⟨none, .mv (.var 1), none⟩, ⟨none, .indexArr 3 1 (.var 13) (.cst (.int .i64 2)), none⟩, ⟨none, .load false 1 (.tmp 1), none⟩, ⟨none, .mv (.var 1), none⟩, ⟨none, .lenSl (.tmp 3), none⟩, ⟨none, .call (.fn 15) [.tmp 2, .tmp 4], none⟩, ⟨none, .indexSl 5 (.tmp 0) (.tmp 5), none⟩, ⟨none, .load true 5 (.tmp 6), none⟩, ⟨none, .fieldAddr 1 (.var 23), none⟩, ⟨none, .store 5 (.tmp 8) (.tmp 7), none⟩]) (.seq (.region [⟨none, .mv (.var 11), none⟩, ⟨none, .lenSl (.tmp 0), none⟩, ⟨some 30, .bin .gtr (.tmp 1) (.cst (.int .i64 0)), none⟩]) (.cond (.var 30) (.region [⟨none, .mv (.var 11), none⟩, ⟨none, .indexArr 3 1 (.var 13) (.cst (.int .i64 2)), none⟩, ⟨none, .load false 1 (.tmp 1), none⟩, ⟨none, .mv (.var 11), none⟩, ⟨none, .lenSl (.tmp 3), none⟩, ⟨none, .call (.fn 15) [.tmp 2, .tmp 4], none⟩, ⟨none, .indexSl 6 (.tmp 0) (.tmp 5), none⟩, ⟨none, .load true 6 (.tmp 6), none⟩, ⟨none, .store 6 (.var 23) (.tmp 7), none⟩]) .skip)))) (.seq (.regionD [17, 15, 22, 25, 26] [⟨none, .fieldAddr 0 (.var 23), none⟩, ⟨none, .load false 1 (.tmp 0), none⟩, ⟨none, .indexArr 2 1 (.var 4) (.tmp 1), none⟩, ⟨none, .load false 1 (.tmp 2), none⟩, ⟨none, .fieldAddr 1 (.var 23), none⟩, ⟨none, .load true 5 (.tmp 4), none⟩, ⟨none, .call (.fn 23) [.tmp 3, .tmp 5], none⟩, ⟨none, .fieldAddr 0 (.var 23), none⟩, ⟨none, .load false 1 (.tmp 7), none⟩, ⟨none, .indexArr 2 1 (.var 5) (.tmp 8), none⟩, ⟨none, .load false 1 (.tmp 9), none⟩, ⟨none, .fieldAddr 1 (.var 23), none⟩, ⟨none, .load true 5 (.tmp 11), none⟩, ⟨none, .call (.fn 24) [.tmp 10, .tmp 12], none⟩, ⟨none, .call (.fn 22) [.tmp 6, .tmp 13], none⟩, ⟨some 31, .un .not (.tmp 14), none⟩] [(6, 7), (6, 8), (6, 9), (6, 10), (6, 11), (6, 12)]) (.cond (.var 31) (.seq (.region [⟨some 2, .mv (.cst (.bool false)), none⟩]) .ret) .skip))))))))))) (.kill [2, 6, 7, 8, 9, 10, 14, 15, 16, 17, 18, 19, 20, 21, 22, 23, 24, 25, 26, 27, 28, 29, 30, 31, 32, 33, 34, 35, 36, 37, 38, 39, 40]))) (.seq (.region [⟨some 24, .mv (.cst (.int .i64 0)), none⟩]) (.seq (.block 7 (.loop [2, 6, 7, 8, 9, 10, 14, 15, 16, 17, 18, 19, 20, 21, 22, 23, 25, 26, 27, 28, 29, 30, 31, 32, 33, 34, 35, 36, 37, 38, 39, 40] lp3x2)) (.kill [2, 6, 7, 8, 9, 10, 13, 14, 15, 16, 17, 18, 19, 20, 21, 22, 23, 24, 25, 26, 27, 28, 29, 30, 31, 32, 33, 34, 35, 36, 37, 38, 39, 40]))))))) (.kill [2, 6, 7, 8, 9, 10, 13, 14, 15, 16, 17, 18, 19, 20, 21, 22, 23, 24, 25, 26, 27, 28, 29, 30, 31, 32, 33, 34, 35, 36, 37, 38, 39, 40])) (.region [⟨none, .mv (.var 12), none⟩, ⟨none, .bin .add (.tmp 0) (.cst (.int .i64 1)), none⟩, ⟨some 12, .mv (.tmp 1), none⟩]))
def mf3 : MFun := ⟨2, 41, .seq (.region [⟨some 2, .mv (.cst (.bool false)), none⟩]) (.seq (.region [⟨none, .call (.fn 12) [], none⟩, ⟨some 3, .mv (.tmp 0), none⟩]) (.seq (.region [⟨some 4, .alloc 2 (.agg [.nilP, .nilP]), none⟩]) (.seq (.region [⟨some 5, .alloc 2 (.agg [.nilP, .nilP]), none⟩]) (.seq (.seq (.region [⟨some 6, .mv (.cst (.int .i64 0)), none⟩]) (.seq (.block 0 (.loop [2, 7, 8, 9, 10, 11, 12, 13, 14, 15, 16, 17, 18, 19, 20, 21, 22, 23, 24, 25, 26, 27, 28, 29, 30, 31, 32, 33, 34, 35, 36, 37, 38, 39, 40] lp3x0)) (.kill [2, 6, 7, 8, 9, 10, 11, 12, 13, 14, 15, 16, 17, 18, 19, 20, 21, 22, 23, 24, 25, 26, 27, 28, 29, 30, 31, 32, 33, 34, 35, 36, 37, 38, 39, 40]))) (.seq (.region [⟨some 11, .mv (.cst .nilS), none⟩]) (.seq (.seq (.region [⟨some 12, .mv (.cst (.int .i64 0)), none⟩]) (.seq (.block 2 (.loop [2, 6, 7, 8, 9, 10, 13, 14, 15, 16, 17, 18, 19, 20, 21, 22, 23, 24, 25, 26, 27, 28, 29, 30, 31, 32, 33, 34, 35, 36, 37, 38, 39, 40] lp3x3)) (.kill [0, 1, 2, 4, 5, 6, 7, 8, 9, 10, 11, 12, 13, 14, 15, 16, 17, 18, 19, 20, 21, 22, 23, 24, 25, 26, 27, 28, 29, 30, 31, 32, 33, 34, 35, 36, 37, 38, 39, 40]))) (.seq (.region [⟨none, .mv (.var 3), none⟩, ⟨some 2, .mv (.tmp 0), none⟩]) .ret))))))), [.tmp 2]⟩
def mask3x1 : List Nat := [2, 6, 7, 8, 9, 10, 15, 18, 19, 20, 21, 22, 23, 24, 25, 26, 27, 28, 29, 30, 31, 32, 33, 34, 35, 36, 37, 38, 39, 40]
abbrev st3x1 (v0 v1 v3 v4 v5 v11 v12 v13 v14 v16 v17 : AV) : List AV := [v0, v1, .undef, v3, v4, v5, .undef, .undef, .undef, .undef, .undef, v11, v12, v13, v14, .undef, v16, v17, .undef, .undef, .undef, .undef, .undef, .undef, .undef, .undef, .undef, .undef, .undef, .undef, .undef, .undef, .undef, .undef, .undef, .undef, .undef, .undef, .undef, .undef, .undef]
theorem cl3x1 {v0 v1 d2 v3 v4 v5 d6 d7 d8 d9 d10 v11 v12 v13 v14 d15 v16 v17 d18 d19 d20 d21 d22 d23 d24 d25 d26 d27 d28 d29 d30 d31 d32 d33 d34 d35 d36 d37 d38 d39 d40 : AV} : clear mask3x1 [v0, v1, d2, v3, v4, v5, d6, d7, d8, d9, d10, v11, v12, v13, v14, d15, v16, v17, d18, d19, d20, d21, d22, d23, d24, d25, d26, d27, d28, d29, d30, d31, d32, d33, d34, d35, d36, d37, d38, d39, d40] = st3x1 v0 v1 v3 v4 v5 v11 v12 v13 v14 v16 v17 := by simp only [mask3x1, clear, List.foldl_cons, List.foldl_nil, List.set_cons_zero, List.set_cons_succ]
theorem go3x1 {E : Env} {fuel : Nat} {A : Arena} {o : Out} {k : List KC} {v0 v1 d2 v3 v4 v5 d6 d7 d8 d9 d10 v11 v12 v13 v14 d15 v16 v17 d18 d19 d20 d21 d22 d23 d24 d25 d26 d27 d28 d29 d30 d31 d32 d33 d34 d35 d36 d37 d38 d39 d40 : AV} (h : iter (evC E fuel lp3x1) mask3x1 fuel (st3x1 v0 v1 v3 v4 v5 v11 v12 v13 v14 v16 v17) A = some o) :
    run E fuel (.code (.loop [2, 6, 7, 8, 9, 10, 15, 18, 19, 20, 21, 22, 23, 24, 25, 26, 27, 28, 29, 30, 31, 32, 33, 34, 35, 36, 37, 38, 39, 40] lp3x1) :: k) [v0, v1, d2, v3, v4, v5, d6, d7, d8, d9, d10, v11, v12, v13, v14, d15, v16, v17, d18, d19, d20, d21, d22, d23, d24, d25, d26, d27, d28, d29, d30, d31, d32, d33, d34, d35, d36, d37, d38, d39, d40] A = after E fuel k o := run_loopC mask3x1 _ _ (by rw [cl3x1]; exact h)
def mask3x2 : List Nat := [2, 6, 7, 8, 9, 10, 14, 15, 16, 17, 18, 19, 20, 21, 22, 23, 25, 26, 27, 28, 29, 30, 31, 32, 33, 34, 35, 36, 37, 38, 39, 40]
abbrev st3x2 (v0 v1 v3 v4 v5 v11 v12 v13 v24 : AV) : List AV := [v0, v1, .undef, v3, v4, v5, .undef, .undef, .undef, .undef, .undef, v11, v12, v13, .undef, .undef, .undef, .undef, .undef, .undef, .undef, .undef, .undef, .undef, v24, .undef, .undef, .undef, .undef, .undef, .undef, .undef, .undef, .undef, .undef, .undef, .undef, .undef, .undef, .undef, .undef]
theorem cl3x2 {v0 v1 d2 v3 v4 v5 d6 d7 d8 d9 d10 v11 v12 v13 d14 d15 d16 d17 d18 d19 d20 d21 d22 d23 v24 d25 d26 d27 d28 d29 d30 d31 d32 d33 d34 d35 d36 d37 d38 d39 d40 : AV} : clear mask3x2 [v0, v1, d2, v3, v4, v5, d6, d7, d8, d9, d10, v11, v12, v13, d14, d15, d16, d17, d18, d19, d20, d21, d22, d23, v24, d25, d26, d27, d28, d29, d30, d31, d32, d33, d34, d35, d36, d37, d38, d39, d40] = st3x2 v0 v1 v3 v4 v5 v11 v12 v13 v24 := by simp only [mask3x2, clear, List.foldl_cons, List.foldl_nil, List.set_cons_zero, List.set_cons_succ]
theorem go3x2 {E : Env} {fuel : Nat} {A : Arena} {o : Out} {k : List KC} {v0 v1 d2 v3 v4 v5 d6 d7 d8 d9 d10 v11 v12 v13 d14 d15 d16 d17 d18 d19 d20 d21 d22 d23 v24 d25 d26 d27 d28 d29 d30 d31 d32 d33 d34 d35 d36 d37 d38 d39 d40 : AV} (h : iter (evC E fuel lp3x2) mask3x2 fuel (st3x2 v0 v1 v3 v4 v5 v11 v12 v13 v24) A = some o) :
    run E fuel (.code (.loop [2, 6, 7, 8, 9, 10, 14, 15, 16, 17, 18, 19, 20, 21, 22, 23, 25, 26, 27, 28, 29, 30, 31, 32, 33, 34, 35, 36, 37, 38, 39, 40] lp3x2) :: k) [v0, v1, d2, v3, v4, v5, d6, d7, d8, d9, d10, v11, v12, v13, d14, d15, d16, d17, d18, d19, d20, d21, d22, d23, v24, d25, d26, d27, d28, d29, d30, d31, d32, d33, d34, d35, d36, d37, d38, d39, d40] A = after E fuel k o := run_loopC mask3x2 _ _ (by rw [cl3x2]; exact h)
def mask3x0 : List Nat := [2, 7, 8, 9, 10, 11, 12, 13, 14, 15, 16, 17, 18, 19, 20, 21, 22, 23, 24, 25, 26, 27, 28, 29, 30, 31, 32, 33, 34, 35, 36, 37, 38, 39, 40]
abbrev st3x0 (v0 v1 v3 v4 v5 v6 : AV) : List AV := [v0, v1, .undef, v3, v4, v5, v6, .undef, .undef, .undef, .undef, .undef, .undef, .undef, .undef, .undef, .undef, .undef, .undef, .undef, .undef, .undef, .undef, .undef, .undef, .undef, .undef, .undef, .undef, .undef, .undef, .undef, .undef, .undef, .undef, .undef, .undef, .undef, .undef, .undef, .undef]
theorem cl3x0 {v0 v1 d2 v3 v4 v5 v6 d7 d8 d9 d10 d11 d12 d13 d14 d15 d16 d17 d18 d19 d20 d21 d22 d23 d24 d25 d26 d27 d28 d29 d30 d31 d32 d33 d34 d35 d36 d37 d38 d39 d40 : AV} : clear mask3x0 [v0, v1, d2, v3, v4, v5, v6, d7, d8, d9, d10, d11, d12, d13, d14, d15, d16, d17, d18, d19, d20, d21, d22, d23, d24, d25, d26, d27, d28, d29, d30, d31, d32, d33, d34, d35, d36, d37, d38, d39, d40] = st3x0 v0 v1 v3 v4 v5 v6 := by simp only [mask3x0, clear, List.foldl_cons, List.foldl_nil, List.set_cons_zero, List.set_cons_succ]
theorem go3x0 {E : Env} {fuel : Nat} {A : Arena} {o : Out} {k : List KC} {v0 v1 d2 v3 v4 v5 v6 d7 d8 d9 d10 d11 d12 d13 d14 d15 d16 d17 d18 d19 d20 d21 d22 d23 d24 d25 d26 d27 d28 d29 d30 d31 d32 d33 d34 d35 d36 d37 d38 d39 d40 : AV} (h : iter (evC E fuel lp3x0) mask3x0 fuel (st3x0 v0 v1 v3 v4 v5 v6) A = some o) :
    run E fuel (.code (.loop [2, 7, 8, 9, 10, 11, 12, 13, 14, 15, 16, 17, 18, 19, 20, 21, 22, 23, 24, 25, 26, 27, 28, 29, 30, 31, 32, 33, 34, 35, 36, 37, 38, 39, 40] lp3x0) :: k) [v0, v1, d2, v3, v4, v5, v6, d7, d8, d9, d10, d11, d12, d13, d14, d15, d16, d17, d18, d19, d20, d21, d22, d23, d24, d25, d26, d27, d28, d29, d30, d31, d32, d33, d34, d35, d36, d37, d38, d39, d40] A = after E fuel k o := run_loopC mask3x0 _ _ (by rw [cl3x0]; exact h)
def mask3x3 : List Nat := [2, 6, 7, 8, 9, 10, 13, 14, 15, 16, 17, 18, 19, 20, 21, 22, 23, 24, 25, 26, 27, 28, 29, 30, 31, 32, 33, 34, 35, 36, 37, 38, 39, 40]
abbrev st3x3 (v0 v1 v3 v4 v5 v11 v12 : AV) : List AV := [v0, v1, .undef, v3, v4, v5, .undef, .undef, .undef, .undef, .undef, v11, v12, .undef, .undef, .undef, .undef, .undef, .undef, .undef, .undef, .undef, .undef, .undef, .undef, .undef, .undef, .undef, .undef, .undef, .undef, .undef, .undef, .undef, .undef, .undef, .undef, .undef, .undef, .undef, .undef]
theorem cl3x3 {v0 v1 d2 v3 v4 v5 d6 d7 d8 d9 d10 v11 v12 d13 d14 d15 d16 d17 d18 d19 d20 d21 d22 d23 d24 d25 d26 d27 d28 d29 d30 d31 d32 d33 d34 d35 d36 d37 d38 d39 d40 : AV} : clear mask3x3 [v0, v1, d2, v3, v4, v5, d6, d7, d8, d9, d10, v11, v12, d13, d14, d15, d16, d17, d18, d19, d20, d21, d22, d23, d24, d25, d26, d27, d28, d29, d30, d31, d32, d33, d34, d35, d36, d37, d38, d39, d40] = st3x3 v0 v1 v3 v4 v5 v11 v12 := by simp only [mask3x3, clear, List.foldl_cons, List.foldl_nil, List.set_cons_zero, List.set_cons_succ]
theorem go3x3 {E : Env} {fuel : Nat} {A : Arena} {o : Out} {k : List KC} {v0 v1 d2 v3 v4 v5 d6 d7 d8 d9 d10 v11 v12 d13 d14 d15 d16 d17 d18 d19 d20 d21 d22 d23 d24 d25 d26 d27 d28 d29 d30 d31 d32 d33 d34 d35 d36 d37 d38 d39 d40 : AV} (h : iter (evC E fuel lp3x3) mask3x3 fuel (st3x3 v0 v1 v3 v4 v5 v11 v12) A = some o) :
    run E fuel (.code (.loop [2, 6, 7, 8, 9, 10, 13, 14, 15, 16, 17, 18, 19, 20, 21, 22, 23, 24, 25, 26, 27, 28, 29, 30, 31, 32, 33, 34, 35, 36, 37, 38, 39, 40] lp3x3) :: k) [v0, v1, d2, v3, v4, v5, d6, d7, d8, d9, d10, v11, v12, d13, d14, d15, d16, d17, d18, d19, d20, d21, d22, d23, d24, d25, d26, d27, d28, d29, d30, d31, d32, d33, d34, d35, d36, d37, d38, d39, d40] A = after E fuel k o := run_loopC mask3x3 _ _ (by rw [cl3x3]; exact h)
set_option maxHeartbeats 4000000 in
theorem comp3 : compFun Try.prog Try.f3 2 [0, 1, 4, 5, 6, 7, 8, 9, 10, 11, 12, 13, 14, 15, 16, 17, 18, 19, 20, 21, 22, 23, 24, 25, 26, 29, 45, 59, 71, 82, 94, 118, 119, 135, 136, 151, 155, 168, 192, 200, 258] [17, 15, 22, 25, 26] true ([[2, 7, 8, 9, 10, 11, 12, 13, 14, 15, 16, 17, 18, 19, 20, 21, 22, 23, 24, 25, 26, 27, 28, 29, 30, 31, 32, 33, 34, 35, 36, 37, 38, 39, 40], [2, 6, 7, 8, 9, 10, 13, 14, 15, 16, 17, 18, 19, 20, 21, 22, 23, 24, 25, 26, 27, 28, 29, 30, 31, 32, 33, 34, 35, 36, 37, 38, 39, 40], [2, 6, 7, 8, 9, 10, 15, 18, 19, 20, 21, 22, 23, 24, 25, 26, 27, 28, 29, 30, 31, 32, 33, 34, 35, 36, 37, 38, 39, 40], [2, 6, 7, 8, 9, 10, 14, 15, 16, 17, 18, 19, 20, 21, 22, 23, 25, 26, 27, 28, 29, 30, 31, 32, 33, 34, 35, 36, 37, 38, 39, 40]], [[2, 7, 8, 9, 10, 11, 12, 13, 14, 15, 16, 17, 18, 19, 20, 21, 22, 23, 24, 25, 26, 27, 28, 29, 30, 31, 32, 33, 34, 35, 36, 37, 38, 39, 40], [2, 6, 7, 8, 9, 10, 11, 12, 13, 14, 15, 16, 17, 18, 19, 20, 21, 22, 23, 24, 25, 26, 27, 28, 29, 30, 31, 32, 33, 34, 35, 36, 37, 38, 39, 40], [2, 6, 7, 8, 9, 10, 15, 18, 19, 20, 21, 22, 23, 24, 25, 26, 27, 28, 29, 30, 31, 32, 33, 34, 35, 36, 37, 38, 39, 40], [2, 6, 7, 8, 9, 10, 14, 15, 16, 17, 18, 19, 20, 21, 22, 23, 24, 25, 26, 27, 28, 29, 30, 31, 32, 33, 34, 35, 36, 37, 38, 39, 40], [2, 6, 7, 8, 9, 10, 14, 15, 16, 17, 18, 19, 20, 21, 22, 23, 24, 25, 26, 27, 28, 29, 30, 31, 32, 33, 34, 35, 36, 37, 38, 39, 40], [2, 6, 7, 8, 9, 10, 14, 15, 16, 17, 18, 19, 20, 21, 22, 23, 25, 26, 27, 28, 29, 30, 31, 32, 33, 34, 35, 36, 37, 38, 39, 40], [2, 6, 7, 8, 9, 10, 13, 14, 15, 16, 17, 18, 19, 20, 21, 22, 23, 24, 25, 26, 27, 28, 29, 30, 31, 32, 33, 34, 35, 36, 37, 38, 39, 40], [2, 6, 7, 8, 9, 10, 13, 14, 15, 16, 17, 18, 19, 20, 21, 22, 23, 24, 25, 26, 27, 28, 29, 30, 31, 32, 33, 34, 35, 36, 37, 38, 39, 40], [0, 1, 2, 4, 5, 6, 7, 8, 9, 10, 11, 12, 13, 14, 15, 16, 17, 18, 19, 20, 21, 22, 23, 24, 25, 26, 27, 28, 29, 30, 31, 32, 33, 34, 35, 36, 37, 38, 39, 40]]) = some mf3 := by kernel_rfl
theorem at3 : Try.prog.funcs[3]? = some Try.f3 := by kernel_rfl
def lp7x0 : MC := .seq (.seq (.region [⟨none, .mv (.var 4), none⟩, ⟨none, .mv (.var 0), none⟩, ⟨none, .lenSl (.tmp 1), none⟩, ⟨none, .bin .lss (.tmp 0) (.tmp 2), none⟩, ⟨none, .mv (.tmp 3), none⟩, ⟨none, .mv (.var 4), some (.tmp 4, true)⟩, ⟨none, .bin .lss (.tmp 5) (.cst (.int .i64 120)), some (.tmp 4, true)⟩, ⟨none, .pick (.tmp 4) (.tmp 6) (.cst (.bool false)), none⟩, ⟨none, .mv (.tmp 7), none⟩, ⟨none, .mv (.var 3), some (.tmp 8, true)⟩, ⟨none, .nilCheck (.tmp 9), some (.tmp 8, true)⟩, ⟨none, .fieldAddr 10 (.tmp 10), some (.tmp 8, true)⟩, ⟨none, .load false 1 (.tmp 11), some (.tmp 8, true)⟩, ⟨some 9, .pick (.tmp 8) (.tmp 12) (.cst (.bool false)), none⟩]) (.cond (.var 9) .skip (.exit 0))) (.seq (.seq (.block 1 (.region [⟨none, .mv (.var 3), none⟩, ⟨none, .mv (.var 0), none⟩, ⟨none, .mv (.var 4), none⟩, ⟨none, .indexSl 3 (.tmp 1) (.tmp 2), none⟩, ⟨none, .load true 3 (.tmp 3), none⟩, ⟨none, .call (.fn 37) [.tmp 0, .tmp 4], none⟩])) (.kill [1, 5, 6, 7, 8, 9, 10, 11, 12, 13, 14, 15])) (.region [⟨none, .mv (.var 4), none⟩, ⟨none, .bin .add (.tmp 0) (.cst (.int .i64 1)), none⟩, ⟨some 4, .mv (.tmp 1), none⟩]))
def lp7x1 : MC := .seq (.seq (.region [⟨none, .mv (.var 3), none⟩, ⟨none, .nilCheck (.tmp 0), none⟩, ⟨none, .fieldAddr 2 (.tmp 1), none⟩, ⟨none, .load false 1 (.tmp 2), none⟩, ⟨none, .lenSl (.tmp 3), none⟩, ⟨some 12, .bin .gtr (.tmp 4) (.cst (.int .i64 0)), none⟩]) (.cond (.var 12) .skip (.exit 4))) (.seq (.block 5 (.seq (.region [⟨none, .mv (.var 3), none⟩, ⟨none, .nilCheck (.tmp 0), none⟩, ⟨none, .fieldAddr 2 (.tmp 1), none⟩, ⟨none, .load false 1 (.tmp 2), none⟩, ⟨none, .indexSl 6 (.tmp 3) (.cst (.int .i64 0)), none⟩, ⟨none, .load true 6 (.tmp 4), none⟩, ⟨some 7, .alloc 6 (.agg [.int .i64 0, .int .i64 0, .int .i64 0, .int .i64 0, .int .i64 0, .str []]), none⟩, ⟨none, .store 6 (.var 7) (.tmp 5), none⟩]) (.seq (.region [⟨none, .mv (.var 3), none⟩, ⟨none, .call (.fn 38) [.tmp 0, .cst (.int .i64 0)], none⟩]) (.region [⟨none, .mv (.var 3), none⟩, ⟨none, .load true 6 (.var 7), none⟩, ⟨none, .call (.fn 39) [.tmp 0, .tmp 1], none⟩])))) (.kill [0, 1, 4, 7, 8, 9, 10, 11, 12, 13, 14, 15]))
def lp7x2 : MC := .seq (.seq (.region [⟨none, .mv (.var 6), none⟩, ⟨none, .mv (.var 5), none⟩, ⟨some 11, .bin .lss (.tmp 0) (.tmp 1), none⟩]) (.cond (.var 11) .skip (.exit 2))) (.seq (.seq (.block 3 (.seq (.seq (.block 4 (.loop [0, 1, 4, 7, 8, 9, 10, 11, 12, 13, 14, 15] lp7x1)) (.kill [0, 1, 4, 7, 8, 9, 10, 11, 12, 13, 14, 15])) (.seq (.region [⟨none, .mv (.var 3), none⟩, ⟨none, .call (.fn 40) [.tmp 0, .cst (.int .i64 0)], none⟩]) (.region [⟨none, .mv (.var 3), none⟩, ⟨none, .call (.fn 40) [.tmp 0, .cst (.int .i64 1)], none⟩])))) (.kill [0, 1, 4, 7, 8, 9, 10, 11, 12, 13, 14, 15])) (.region [⟨none, .mv (.var 6), none⟩, ⟨none, .bin .add (.tmp 0) (.cst (.int .i64 1)), none⟩, ⟨some 6, .mv (.tmp 1), none⟩]))
def lp7x3 : MC := .seq (.seq (.region [⟨none, .mv (.var 8), none⟩, ⟨none, .mv (.var 3), none⟩, ⟨none, .nilCheck (.tmp 1), none⟩, ⟨none, .fieldAddr 3 (.tmp 2), none⟩, ⟨none, .load false 1 (.tmp 3), none⟩, ⟨none, .lenSl (.tmp 4), none⟩, ⟨some 14, .bin .lss (.tmp 0) (.tmp 5), none⟩]) (.cond (.var 14) .skip (.exit 6))) (.seq (.seq (.block 7 (.seq (.region [⟨none, .mv (.var 3), none⟩, ⟨none, .nilCheck (.tmp 0), none⟩, ⟨none, .fieldAddr 4 (.tmp 1), none⟩, ⟨none, .load false 1 (.tmp 2), none⟩, ⟨none, .mv (.var 8), none⟩, ⟨none, .indexSl 1 (.tmp 3) (.tmp 4), none⟩, ⟨none, .load false 1 (.tmp 5), none⟩, ⟨none, .mv (.var 3), none⟩, ⟨none, .mv (.var 3), none⟩, ⟨none, .nilCheck (.tmp 8), none⟩, ⟨none, .fieldAddr 3 (.tmp 9), none⟩, ⟨none, .load false 1 (.tmp 10), none⟩, ⟨none, .mv (.var 8), none⟩, ⟨none, .indexSl 1 (.tmp 11) (.tmp 12), none⟩, ⟨none, .load false 1 (.tmp 13), none⟩, ⟨none, .nilCheck (.tmp 7), none⟩, ⟨none, .fieldAddr 0 (.tmp 15), none⟩, ⟨none, .indexArr 2 1 (.tmp 16) (.tmp 14), none⟩, ⟨none, .load false 1 (.tmp 17), none⟩, ⟨none, .call (.fn 26) [.tmp 18], none⟩, ⟨none, .bin .eql (.tmp 6) (.tmp 19), none⟩, ⟨none, .mv (.tmp 20), none⟩, ⟨none, .mv (.var 3), some (.tmp 21, true)⟩, ⟨none, .nilCheck (.tmp 22), some (.tmp 21, true)⟩, ⟨none, .fieldAddr 6 (.tmp 23), some (.tmp 21, true)⟩, ⟨none, .load false 1 (.tmp 24), some (.tmp 21, true)⟩, ⟨none, .mv (.var 8), some (.tmp 21, true)⟩, ⟨none, .indexSl 1 (.tmp 25) (.tmp 26), some (.tmp 21, true)⟩, ⟨none, .load false 1 (.tmp 27), some (.tmp 21, true)⟩, ⟨none, .bin .eql (.tmp 28) (.cst (.int .i64 0)), some (.tmp 21, true)⟩, ⟨none, .pick (.tmp 21) (.tmp 29) (.cst (.bool false)), none⟩, ⟨none, .mv (.tmp 30), none⟩, ⟨none, .mv (.var 3), some (.tmp 31, true)⟩, ⟨none, .nilCheck (.tmp 32), some (.tmp 31, true)⟩, ⟨none, .fieldAddr 7 (.tmp 33), some (.tmp 31, true)⟩, ⟨none, .load false 1 (.tmp 34), some (.tmp 31, true)⟩, ⟨none, .mv (.var 8), some (.tmp 31, true)⟩, ⟨none, .indexSl 1 (.tmp 35) (.tmp 36), some (.tmp 31, true)⟩, ⟨none, .load false 1 (.tmp 37), some (.tmp 31, true)⟩, ⟨none, .un .not (.tmp 38), some (.tmp 31, true)⟩, ⟨some 15, .pick (.tmp 31) (.tmp 39) (.cst (.bool false)), none⟩]) (.cond (.var 15) (.seq (.region [⟨some 1, .mv (.cst (.bool false)), none⟩]) .ret) .skip))) (.kill [0, 1, 4, 5, 6, 7, 9, 10, 11, 12, 13, 14, 15])) (.region [⟨none, .mv (.var 8), none⟩, ⟨none, .bin .add (.tmp 0) (.cst (.int .i64 1)), none⟩, ⟨some 8, .mv (.tmp 1), none⟩]))
def mf7 : MFun := ⟨1, 16, .seq (.region [⟨some 1, .mv (.cst (.bool false)), none⟩]) (.seq (.region [⟨none, .call (.fn 12) [], none⟩, ⟨some 2, .mv (.tmp 0), none⟩]) (.seq (.region [⟨none, .call (.fn 36) [], none⟩, ⟨some 3, .mv (.tmp 0), none⟩]) (.seq (.seq (.region [⟨some 4, .mv (.cst (.int .i64 0)), none⟩]) (.seq (.block 0 (.loop [1, 5, 6, 7, 8, 9, 10, 11, 12, 13, 14, 15] lp7x0)) (.kill [0, 1, 4, 5, 6, 7, 8, 9, 10, 11, 12, 13, 14, 15]))) (.seq (.seq (.region [⟨none, .mv (.var 3), none⟩, ⟨none, .nilCheck (.tmp 0), none⟩, ⟨none, .fieldAddr 10 (.tmp 1), none⟩, ⟨none, .load false 1 (.tmp 2), none⟩, ⟨some 10, .un .not (.tmp 3), none⟩]) (.cond (.var 10) (.seq (.region [⟨some 1, .mv (.cst (.bool false)), none⟩]) .ret) .skip)) (.seq (.regionD [26, 25] [⟨none, .mv (.var 3), none⟩, ⟨none, .nilCheck (.tmp 0), none⟩, ⟨none, .fieldAddr 0 (.tmp 1), none⟩, ⟨none, .indexArr 2 1 (.tmp 2) (.cst (.int .i64 0)), none⟩, ⟨none, .load false 1 (.tmp 3), none⟩, ⟨none, .call (.fn 27) [.tmp 4], none⟩, ⟨none, .mv (.var 3), none⟩, ⟨none, .nilCheck (.tmp 6), none⟩, ⟨none, .fieldAddr 0 (.tmp 7), none⟩, ⟨none, .indexArr 2 1 (.tmp 8) (.cst (.int .i64 1)), none⟩, ⟨none, .load false 1 (.tmp 9), none⟩, ⟨none, .call (.fn 27) [.tmp 10], none⟩, ⟨none, .minmax true (.tmp 5) [.tmp 11], none⟩, ⟨none, .bin .mul (.cst (.int .i64 3)) (.tmp 12), none⟩, ⟨none, .bin .add (.cst (.int .i64 12)) (.tmp 13), none⟩, ⟨some 5, .mv (.tmp 14), none⟩] [(5, 8), (5, 9), (5, 10)]) (.seq (.seq (.region [⟨some 6, .mv (.cst (.int .i64 0)), none⟩]) (.seq (.block 2 (.loop [0, 1, 4, 7, 8, 9, 10, 11, 12, 13, 14, 15] lp7x2)) (.kill [0, 1, 4, 5, 6, 7, 8, 9, 10, 11, 12, 13, 14, 15]))) (.seq (.seq (.region [⟨none, .mv (.var 3), none⟩, ⟨none, .nilCheck (.tmp 0), none⟩, ⟨none, .fieldAddr 10 (.tmp 1), none⟩, ⟨none, .load false 1 (.tmp 2), none⟩, ⟨none, .un .not (.tmp 3), none⟩, ⟨none, .mv (.tmp 4), none⟩, ⟨none, .mv (.var 3), some (.tmp 5, false)⟩, ⟨none, .nilCheck (.tmp 6), some (.tmp 5, false)⟩, ⟨none, .fieldAddr 0 (.tmp 7), some (.tmp 5, false)⟩, ⟨none, .indexArr 2 1 (.tmp 8) (.cst (.int .i64 0)), some (.tmp 5, false)⟩, ⟨none, .load false 1 (.tmp 9), some (.tmp 5, false)⟩, ⟨none, .call (.fn 27) [.tmp 10], some (.tmp 5, false)⟩, ⟨none, .bin .neq (.tmp 11) (.cst (.int .i64 0)), some (.tmp 5, false)⟩, ⟨none, .pick (.tmp 5) (.cst (.bool true)) (.tmp 12), none⟩, ⟨none, .mv (.tmp 13), none⟩, ⟨none, .mv (.var 3), some (.tmp 14, false)⟩, ⟨none, .nilCheck (.tmp 15), some (.tmp 14, false)⟩, ⟨none, .fieldAddr 0 (.tmp 16), some (.tmp 14, false)⟩, ⟨none, .indexArr 2 1 (.tmp 17) (.cst (.int .i64 1)), some (.tmp 14, false)⟩, ⟨none, .load false 1 (.tmp 18), some (.tmp 14, false)⟩, ⟨none, .call (.fn 27) [.tmp 19], some (.tmp 14, false)⟩, ⟨none, .bin .neq (.tmp 20) (.cst (.int .i64 0)), some (.tmp 14, false)⟩, ⟨some 13, .pick (.tmp 14) (.cst (.bool true)) (.tmp 21), none⟩]) (.cond (.var 13) (.seq (.region [⟨some 1, .mv (.cst (.bool false)), none⟩]) .ret) .skip)) (.seq (.seq (.region [⟨some 8, .mv (.cst (.int .i64 1)), none⟩]) (.seq (.block 6 (.loop [0, 1, 4, 5, 6, 7, 9, 10, 11, 12, 13, 14, 15] lp7x3)) (.kill [0, 1, 4, 5, 6, 7, 8, 9, 10, 11, 12, 13, 14, 15]))) (.seq (.region [⟨none, .mv (.var 2), none⟩, ⟨none, .mv (.tmp 0), none⟩, ⟨none, .mv (.var 3), some (.tmp 1, true)⟩, ⟨none, .nilCheck (.tmp 2), some (.tmp 1, true)⟩, ⟨none, .fieldAddr 0 (.tmp 3), some (.tmp 1, true)⟩, ⟨none, .indexArr 2 1 (.tmp 4) (.cst (.int .i64 0)), some (.tmp 1, true)⟩, ⟨none, .load false 1 (.tmp 5), some (.tmp 1, true)⟩, ⟨none, .call (.fn 25) [.tmp 6], some (.tmp 1, true)⟩, ⟨none, .mv (.var 3), some (.tmp 1, true)⟩, ⟨none, .nilCheck (.tmp 8), some (.tmp 1, true)⟩, ⟨none, .fieldAddr 0 (.tmp 9), some (.tmp 1, true)⟩, ⟨none, .indexArr 2 1 (.tmp 10) (.cst (.int .i64 1)), some (.tmp 1, true)⟩, ⟨none, .load false 1 (.tmp 11), some (.tmp 1, true)⟩, ⟨none, .call (.fn 26) [.tmp 12], some (.tmp 1, true)⟩, ⟨none, .bin .eql (.tmp 7) (.tmp 13), some (.tmp 1, true)⟩, ⟨none, .pick (.tmp 1) (.tmp 14) (.cst (.bool false)), none⟩, ⟨none, .mv (.tmp 15), none⟩, ⟨none, .mv (.var 3), some (.tmp 16, true)⟩, ⟨none, .nilCheck (.tmp 17), some (.tmp 16, true)⟩, ⟨none, .fieldAddr 0 (.tmp 18), some (.tmp 16, true)⟩, ⟨none, .indexArr 2 1 (.tmp 19) (.cst (.int .i64 1)), some (.tmp 16, true)⟩, ⟨none, .load false 1 (.tmp 20), some (.tmp 16, true)⟩, ⟨none, .call (.fn 25) [.tmp 21], some (.tmp 16, true)⟩, ⟨none, .mv (.var 3), some (.tmp 16, true)⟩, ⟨none, .nilCheck (.tmp 23), some (.tmp 16, true)⟩, ⟨none, .fieldAddr 0 (.tmp 24), some (.tmp 16, true)⟩, ⟨none, .indexArr 2 1 (.tmp 25) (.cst (.int .i64 0)), some (.tmp 16, true)⟩, ⟨none, .load false 1 (.tmp 26), some (.tmp 16, true)⟩, ⟨none, .call (.fn 26) [.tmp 27], some (.tmp 16, true)⟩, ⟨none, .bin .eql (.tmp 22) (.tmp 28), some (.tmp 16, true)⟩, ⟨none, .pick (.tmp 16) (.tmp 29) (.cst (.bool false)), none⟩, ⟨some 1, .mv (.tmp 30), none⟩]) .ret))))))))), [.tmp 1]⟩
def mask7x1 : List Nat := [0, 1, 4, 7, 8, 9, 10, 11, 12, 13, 14, 15]
abbrev st7x1 (v2 v3 v5 v6 : AV) : List AV := [.undef, .undef, v2, v3, .undef, v5, v6, .undef, .undef, .undef, .undef, .undef, .undef, .undef, .undef, .undef]
theorem cl7x1 {d0 d1 v2 v3 d4 v5 v6 d7 d8 d9 d10 d11 d12 d13 d14 d15 : AV} : clear mask7x1 [d0, d1, v2, v3, d4, v5, v6, d7, d8, d9, d10, d11, d12, d13, d14, d15] = st7x1 v2 v3 v5 v6 := by simp only [mask7x1, clear, List.foldl_cons, List.foldl_nil, List.set_cons_zero, List.set_cons_succ]
theorem go7x1 {E : Env} {fuel : Nat} {A : Arena} {o : Out} {k : List KC} {d0 d1 v2 v3 d4 v5 v6 d7 d8 d9 d10 d11 d12 d13 d14 d15 : AV} (h : iter (evC E fuel lp7x1) mask7x1 fuel (st7x1 v2 v3 v5 v6) A = some o) :
    run E fuel (.code (.loop [0, 1, 4, 7, 8, 9, 10, 11, 12, 13, 14, 15] lp7x1) :: k) [d0, d1, v2, v3, d4, v5, v6, d7, d8, d9, d10, d11, d12, d13, d14, d15] A = after E fuel k o := run_loopC mask7x1 _ _ (by rw [cl7x1]; exact h)
def mask7x0 : List Nat := [1, 5, 6, 7, 8, 9, 10, 11, 12, 13, 14, 15]
abbrev st7x0 (v0 v2 v3 v4 : AV) : List AV := [v0, .undef, v2, v3, v4, .undef, .undef, .undef, .undef, .undef, .undef, .undef, .undef, .undef, .undef, .undef]
theorem cl7x0 {v0 d1 v2 v3 v4 d5 d6 d7 d8 d9 d10 d11 d12 d13 d14 d15 : AV} : clear mask7x0 [v0, d1, v2, v3, v4, d5, d6, d7, d8, d9, d10, d11, d12, d13, d14, d15] = st7x0 v0 v2 v3 v4 := by simp only [mask7x0, clear, List.foldl_cons, List.foldl_nil, List.set_cons_zero, List.set_cons_succ]
theorem go7x0 {E : Env} {fuel : Nat} {A : Arena} {o : Out} {k : List KC} {v0 d1 v2 v3 v4 d5 d6 d7 d8 d9 d10 d11 d12 d13 d14 d15 : AV} (h : iter (evC E fuel lp7x0) mask7x0 fuel (st7x0 v0 v2 v3 v4) A = some o) :
    run E fuel (.code (.loop [1, 5, 6, 7, 8, 9, 10, 11, 12, 13, 14, 15] lp7x0) :: k) [v0, d1, v2, v3, v4, d5, d6, d7, d8, d9, d10, d11, d12, d13, d14, d15] A = after E fuel k o := run_loopC mask7x0 _ _ (by rw [cl7x0]; exact h)
def mask7x2 : List Nat := [0, 1, 4, 7, 8, 9, 10, 11, 12, 13, 14, 15]
abbrev st7x2 (v2 v3 v5 v6 : AV) : List AV := [.undef, .undef, v2, v3, .undef, v5, v6, .undef, .undef, .undef, .undef, .undef, .undef, .undef, .undef, .undef]
theorem cl7x2 {d0 d1 v2 v3 d4 v5 v6 d7 d8 d9 d10 d11 d12 d13 d14 d15 : AV} : clear mask7x2 [d0, d1, v2, v3, d4, v5, v6, d7, d8, d9, d10, d11, d12, d13, d14, d15] = st7x2 v2 v3 v5 v6 := by simp only [mask7x2, clear, List.foldl_cons, List.foldl_nil, List.set_cons_zero, List.set_cons_succ]
theorem go7x2 {E : Env} {fuel : Nat} {A : Arena} {o : Out} {k : List KC} {d0 d1 v2 v3 d4 v5 v6 d7 d8 d9 d10 d11 d12 d13 d14 d15 : AV} (h : iter (evC E fuel lp7x2) mask7x2 fuel (st7x2 v2 v3 v5 v6) A = some o) :
    run E fuel (.code (.loop [0, 1, 4, 7, 8, 9, 10, 11, 12, 13, 14, 15] lp7x2) :: k) [d0, d1, v2, v3, d4, v5, v6, d7, d8, d9, d10, d11, d12, d13, d14, d15] A = after E fuel k o := run_loopC mask7x2 _ _ (by rw [cl7x2]; exact h)
def mask7x3 : List Nat := [0, 1, 4, 5, 6, 7, 9, 10, 11, 12, 13, 14, 15]
abbrev st7x3 (v2 v3 v8 : AV) : List AV := [.undef, .undef, v2, v3, .undef, .undef, .undef, .undef, v8, .undef, .undef, .undef, .undef, .undef, .undef, .undef]
theorem cl7x3 {d0 d1 v2 v3 d4 d5 d6 d7 v8 d9 d10 d11 d12 d13 d14 d15 : AV} : clear mask7x3 [d0, d1, v2, v3, d4, d5, d6, d7, v8, d9, d10, d11, d12, d13, d14, d15] = st7x3 v2 v3 v8 := by simp only [mask7x3, clear, List.foldl_cons, List.foldl_nil, List.set_cons_zero, List.set_cons_succ]
theorem go7x3 {E : Env} {fuel : Nat} {A : Arena} {o : Out} {k : List KC} {d0 d1 v2 v3 d4 d5 d6 d7 v8 d9 d10 d11 d12 d13 d14 d15 : AV} (h : iter (evC E fuel lp7x3) mask7x3 fuel (st7x3 v2 v3 v8) A = some o) :
    run E fuel (.code (.loop [0, 1, 4, 5, 6, 7, 9, 10, 11, 12, 13, 14, 15] lp7x3) :: k) [d0, d1, v2, v3, d4, d5, d6, d7, v8, d9, d10, d11, d12, d13, d14, d15] A = after E fuel k o := run_loopC mask7x3 _ _ (by rw [cl7x3]; exact h)
set_option maxHeartbeats 4000000 in
theorem comp7 : compFun Try.prog Try.f7 1 [0, 2, 3, 4, 5, 6, 7, 8, 9, 25, 38, 56, 64, 102, 109, 152] [26, 25] true ([[1, 5, 6, 7, 8, 9, 10, 11, 12, 13, 14, 15], [0, 1, 4, 7, 8, 9, 10, 11, 12, 13, 14, 15], [0, 1, 4, 7, 8, 9, 10, 11, 12, 13, 14, 15], [0, 1, 4, 5, 6, 7, 9, 10, 11, 12, 13, 14, 15]], [[1, 5, 6, 7, 8, 9, 10, 11, 12, 13, 14, 15], [0, 1, 4, 5, 6, 7, 8, 9, 10, 11, 12, 13, 14, 15], [0, 1, 4, 7, 8, 9, 10, 11, 12, 13, 14, 15], [0, 1, 4, 7, 8, 9, 10, 11, 12, 13, 14, 15], [0, 1, 4, 7, 8, 9, 10, 11, 12, 13, 14, 15], [0, 1, 4, 5, 6, 7, 8, 9, 10, 11, 12, 13, 14, 15], [0, 1, 4, 5, 6, 7, 9, 10, 11, 12, 13, 14, 15], [0, 1, 4, 5, 6, 7, 8, 9, 10, 11, 12, 13, 14, 15]]) = some mf7 := by kernel_rfl
theorem at7 : Try.prog.funcs[7]? = some Try.f7 := by kernel_rfl
def mf37 : MFun := ⟨2, 17, .seq (.region [⟨some 2, .box (.var 1), none⟩]) (.seq (.region [⟨none, .indexArr 3 1 (.var 2) (.cst (.int .i64 1)), none⟩, ⟨none, .load false 1 (.tmp 0), none⟩, ⟨none, .call (.fn 15) [.tmp 1, .cst (.int .i64 2)], none⟩, ⟨some 3, .mv (.tmp 2), none⟩]) (.seq (.region [⟨none, .indexArr 3 1 (.var 2) (.cst (.int .i64 0)), none⟩, ⟨none, .load false 1 (.tmp 0), none⟩, ⟨some 8, .call (.fn 15) [.tmp 1, .cst (.int .i64 12)], none⟩]) (.seq (.block 0 (.seq (.seq (.region [⟨none, .bin .eql (.var 8) (.cst (.int .i64 0)), none⟩, ⟨some 12, .mv (.tmp 0), none⟩]) (.cond (.var 12) .skip (.seq (.region [⟨none, .bin .eql (.var 8) (.cst (.int .i64 1)), none⟩, ⟨some 12, .mv (.tmp 0), none⟩]) (.cond (.var 12) .skip (.region [⟨none, .bin .eql (.var 8) (.cst (.int .i64 2)), none⟩, ⟨some 12, .mv (.tmp 0), none⟩]))))) (.cond (.var 12) (.seq (.region [⟨none, .mv (.var 0), none⟩, ⟨none, .mv (.var 3), none⟩, ⟨none, .nilCheck (.tmp 0), none⟩, ⟨none, .fieldAddr 0 (.tmp 2), none⟩, ⟨none, .indexArr 2 1 (.tmp 3) (.tmp 1), none⟩, ⟨none, .load false 1 (.tmp 4), none⟩, ⟨none, .mv (.var 0), none⟩, ⟨none, .nilCheck (.tmp 6), none⟩, ⟨none, .fieldAddr 3 (.tmp 7), none⟩, ⟨none, .load false 1 (.tmp 8), none⟩, ⟨none, .lenSl (.tmp 9), none⟩, ⟨none, .call (.fn 17) [.tmp 10], none⟩, ⟨none, .call (.fn 16) [.tmp 5, .tmp 11], none⟩, ⟨some 13, .bin .eql (.tmp 12) (.cst (.int .i64 0)), none⟩]) (.cond (.var 13) (.seq (.region [⟨none, .mv (.var 0), none⟩, ⟨none, .mv (.var 0), none⟩, ⟨none, .nilCheck (.tmp 1), none⟩, ⟨none, .fieldAddr 3 (.tmp 2), none⟩, ⟨none, .load false 1 (.tmp 3), none⟩, ⟨none, .mv (.var 3), none⟩, ⟨none, .buildF 1 [.tmp 5], none⟩, ⟨none, .appendN 1 8 (.tmp 4) (.tmp 6), none⟩, ⟨none, .nilCheck (.tmp 0), none⟩, ⟨none, .fieldAddr 3 (.tmp 8), none⟩, ⟨none, .store 1 (.tmp 9) (.tmp 7), none⟩]) (.seq (.region [⟨none, .mv (.var 0), none⟩, ⟨none, .mv (.var 0), none⟩, ⟨none, .nilCheck (.tmp 1), none⟩, ⟨none, .fieldAddr 4 (.tmp 2), none⟩, ⟨none, .load false 1 (.tmp 3), none⟩, ⟨none, .mv (.var 0), none⟩, ⟨none, .mv (.var 3), none⟩, ⟨none, .nilCheck (.tmp 5), none⟩, ⟨none, .fieldAddr 0 (.tmp 7), none⟩, ⟨none, .indexArr 2 1 (.tmp 8) (.tmp 6), none⟩, ⟨none, .load false 1 (.tmp 9), none⟩, ⟨none, .call (.fn 26) [.tmp 10], none⟩, ⟨none, .buildF 1 [.tmp 11], none⟩, ⟨none, .appendN 1 8 (.tmp 4) (.tmp 12), none⟩, ⟨none, .nilCheck (.tmp 0), none⟩, ⟨none, .fieldAddr 4 (.tmp 14), none⟩, ⟨none, .store 1 (.tmp 15) (.tmp 13), none⟩]) (.seq (.region [⟨none, .mv (.var 0), none⟩, ⟨none, .mv (.var 0), none⟩, ⟨none, .nilCheck (.tmp 1), none⟩, ⟨none, .fieldAddr 5 (.tmp 2), none⟩, ⟨none, .load false 1 (.tmp 3), none⟩, ⟨none, .buildF 1 [.cst (.int .i64 0)], none⟩, ⟨none, .appendN 1 8 (.tmp 4) (.tmp 5), none⟩, ⟨none, .nilCheck (.tmp 0), none⟩, ⟨none, .fieldAddr 5 (.tmp 7), none⟩, ⟨none, .store 1 (.tmp 8) (.tmp 6), none⟩]) (.seq (.region [⟨none, .mv (.var 0), none⟩, ⟨none, .mv (.var 0), none⟩, ⟨none, .nilCheck (.tmp 1), none⟩, ⟨none, .fieldAddr 6 (.tmp 2), none⟩, ⟨none, .load false 1 (.tmp 3), none⟩, ⟨none, .buildF 1 [.cst (.int .i64 0)], none⟩, ⟨none, .appendN 1 8 (.tmp 4) (.tmp 5), none⟩, ⟨none, .nilCheck (.tmp 0), none⟩, ⟨none, .fieldAddr 6 (.tmp 7), none⟩, ⟨none, .store 1 (.tmp 8) (.tmp 6), none⟩]) (.region [⟨none, .mv (.var 0), none⟩, ⟨none, .mv (.var 0), none⟩, ⟨none, .nilCheck (.tmp 1), none⟩, ⟨none, .fieldAddr 7 (.tmp 2), none⟩, ⟨none, .load false 1 (.tmp 3), none⟩, ⟨none, .buildF 1 [.cst (.bool false)], none⟩, ⟨none, .append 1 1 (.tmp 4) (.tmp 5), none⟩, ⟨none, .nilCheck (.tmp 0), none⟩, ⟨none, .fieldAddr 7 (.tmp 7), none⟩, ⟨none, .store 1 (.tmp 8) (.tmp 6), none⟩]))))) .skip)) (.seq (.seq (.region [⟨none, .bin .eql (.var 8) (.cst (.int .i64 3)), none⟩, ⟨some 14, .mv (.tmp 0), none⟩]) (.cond (.var 14) .skip (.seq (.region [⟨none, .bin .eql (.var 8) (.cst (.int .i64 4)), none⟩, ⟨some 14, .mv (.tmp 0), none⟩]) (.cond (.var 14) .skip (.region [⟨none, .bin .eql (.var 8) (.cst (.int .i64 5)), none⟩, ⟨some 14, .mv (.tmp 0), none⟩]))))) (.cond (.var 14) (.region [⟨none, .mv (.var 0), none⟩, ⟨none, .mv (.var 3), none⟩, ⟨none, .call (.fn 40) [.tmp 0, .tmp 1], none⟩]) (.seq (.region [⟨none, .bin .eql (.var 8) (.cst (.int .i64 11)), none⟩, ⟨some 15, .mv (.tmp 0), none⟩]) (.cond (.var 15) (.seq (.region [⟨none, .mv (.var 0), none⟩, ⟨none, .mv (.var 3), none⟩, ⟨none, .nilCheck (.tmp 0), none⟩, ⟨none, .fieldAddr 0 (.tmp 2), none⟩, ⟨none, .indexArr 2 1 (.tmp 3) (.tmp 1), none⟩, ⟨none, .load false 1 (.tmp 4), none⟩, ⟨none, .call (.fn 26) [.tmp 5], none⟩, ⟨none, .bin .add (.tmp 6) (.cst (.int .i64 1)), none⟩, ⟨none, .indexArr 3 1 (.var 2) (.cst (.int .i64 2)), none⟩, ⟨none, .load false 1 (.tmp 8), none⟩, ⟨none, .call (.fn 15) [.tmp 9, .cst (.int .i64 3)], none⟩, ⟨none, .bin .add (.tmp 7) (.tmp 10), none⟩, ⟨none, .call (.fn 13) [.tmp 11], none⟩, ⟨none, .mv (.tmp 12), none⟩, ⟨none, .extract (.tmp 13) 0, none⟩, ⟨none, .extract (.tmp 13) 1, none⟩, ⟨some 4, .mv (.tmp 14), none⟩, ⟨some 5, .mv (.tmp 15), none⟩]) (.seq (.seq (.region [⟨none, .mv (.var 5), none⟩, ⟨none, .bin .neq (.tmp 0) (.cst (.int .i64 0)), none⟩, ⟨none, .mv (.tmp 1), none⟩, ⟨none, .mv (.var 4), some (.tmp 2, false)⟩, ⟨none, .eqNil 0 false (.tmp 3), some (.tmp 2, false)⟩, ⟨some 16, .pick (.tmp 2) (.cst (.bool true)) (.tmp 4), none⟩]) (.cond (.var 16) (.seq (.region [⟨none, .mv (.var 0), none⟩, ⟨none, .nilCheck (.tmp 0), none⟩, ⟨none, .fieldAddr 10 (.tmp 1), none⟩, ⟨none, .store 1 (.tmp 2) (.cst (.bool false)), none⟩]) .ret) .skip)) (.region [⟨none, .mv (.var 0), none⟩, ⟨none, .mv (.var 3), none⟩, ⟨none, .mv (.var 4), none⟩, ⟨none, .nilCheck (.tmp 0), none⟩, ⟨none, .fieldAddr 0 (.tmp 3), none⟩, ⟨none, .indexArr 2 1 (.tmp 4) (.tmp 1), none⟩, ⟨none, .store 1 (.tmp 5) (.tmp 2), none⟩]))) (.seq (.seq (.region [⟨none, .mv (.var 0), none⟩, ⟨none, .nilCheck (.tmp 0), none⟩, ⟨none, .fieldAddr 2 (.tmp 1), none⟩, ⟨none, .load false 1 (.tmp 2), none⟩, ⟨none, .lenSl (.tmp 3), none⟩, ⟨some 9, .bin .eql (.tmp 4) (.cst (.int .i64 0)), none⟩]) (.cond (.var 9) .ret .skip)) (.seq (.region [⟨none, .indexArr 3 1 (.var 2) (.cst (.int .i64 2)), none⟩, ⟨none, .load false 1 (.tmp 0), none⟩, ⟨none, .mv (.var 0), none⟩, ⟨none, .nilCheck (.tmp 2), none⟩, ⟨none, .fieldAddr 2 (.tmp 3), none⟩, ⟨none, .load false 1 (.tmp 4), none⟩, ⟨none, .lenSl (.tmp 5), none⟩, ⟨none, .call (.fn 15) [.tmp 1, .tmp 6], none⟩, ⟨some 6, .mv (.tmp 7), none⟩]) (.seq (.region [⟨none, .mv (.var 0), none⟩, ⟨none, .nilCheck (.tmp 0), none⟩, ⟨none, .fieldAddr 2 (.tmp 1), none⟩, ⟨none, .load false 1 (.tmp 2), none⟩, ⟨none, .mv (.var 6), none⟩, ⟨none, .indexSl 6 (.tmp 3) (.tmp 4), none⟩, ⟨none, .load true 6 (.tmp 5), none⟩, ⟨some 7, .alloc 6 (.agg [.int .i64 0, .int .i64 0, .int .i64 0, .int .i64 0, .int .i64 0, .str []]), none⟩, ⟨none, .store 6 (.var 7) (.tmp 6), none⟩]) (.seq (.seq (.region [⟨none, .indexArr 3 1 (.var 2) (.cst (.int .i64 0)), none⟩, ⟨none, .load false 1 (.tmp 0), none⟩, ⟨none, .call (.fn 15) [.tmp 1, .cst (.int .i64 12)], none⟩, ⟨some 10, .bin .neq (.tmp 2) (.cst (.int .i64 9)), none⟩]) (.cond (.var 10) (.region [⟨none, .mv (.var 0), none⟩, ⟨none, .mv (.var 6), none⟩, ⟨none, .call (.fn 38) [.tmp 0, .tmp 1], none⟩]) .skip)) (.seq (.region [⟨none, .indexArr 3 1 (.var 2) (.cst (.int .i64 0)), none⟩, ⟨none, .load false 1 (.tmp 0), none⟩, ⟨none, .call (.fn 15) [.tmp 1, .cst (.int .i64 12)], none⟩, ⟨some 11, .bin .neq (.tmp 2) (.cst (.int .i64 10)), none⟩]) (.cond (.var 11) (.region [⟨none, .mv (.var 0), none⟩, ⟨none, .load true 6 (.var 7), none⟩, ⟨none, .call (.fn 39) [.tmp 0, .tmp 1], none⟩]) .skip))))))))))))) (.kill [0, 1, 2, 3, 4, 5, 6, 7, 8, 9, 10, 11, 12, 13, 14, 15, 16])))), []⟩
set_option maxHeartbeats 4000000 in
theorem comp37 : compFun Try.prog Try.f37 2 [0, 1, 3, 4, 5, 6, 7, 8, 14, 20, 39, 46, 50, 67, 121, 128, 151] [17, 26, 15] true ([], [[0, 1, 2, 3, 4, 5, 6, 7, 8, 9, 10, 11, 12, 13, 14, 15, 16]]) = some mf37 := by kernel_rfl
theorem at37 : Try.prog.funcs[37]? = some Try.f37 := by kernel_rfl
def lp39x0 : MC := .seq (.seq (.region [⟨none, .mv (.var 4), none⟩, ⟨none, .mv (.var 3), none⟩, ⟨none, .lenSl (.tmp 1), none⟩, ⟨some 6, .bin .lss (.tmp 0) (.tmp 2), none⟩]) (.cond (.var 6) .skip (.exit 0))) (.seq (.seq (.block 1 (.seq (.region [⟨none, .mv (.var 3), none⟩, ⟨none, .mv (.var 4), none⟩, ⟨none, .indexSl 1 (.tmp 0) (.tmp 1), none⟩, ⟨none, .load false 1 (.tmp 2), none⟩, ⟨none, .call (.fn 56) [.tmp 3], none⟩, ⟨some 5, .mv (.tmp 4), none⟩]) (.seq (.seq (.region [⟨none, .mv (.var 5), none⟩, ⟨none, .bin .lss (.tmp 0) (.cst (.int .i64 1)), none⟩, ⟨none, .mv (.tmp 1), none⟩, ⟨none, .mv (.var 5), some (.tmp 2, false)⟩, ⟨none, .mv (.var 0), some (.tmp 2, false)⟩, ⟨none, .nilCheck (.tmp 4), some (.tmp 2, false)⟩, ⟨none, .fieldAddr 6 (.tmp 5), some (.tmp 2, false)⟩, ⟨none, .load false 1 (.tmp 6), some (.tmp 2, false)⟩, ⟨none, .lenSl (.tmp 7), some (.tmp 2, false)⟩, ⟨none, .bin .geq (.tmp 3) (.tmp 8), some (.tmp 2, false)⟩, ⟨none, .pick (.tmp 2) (.cst (.bool true)) (.tmp 9), none⟩, ⟨none, .mv (.tmp 10), none⟩, ⟨none, .mv (.var 0), some (.tmp 11, false)⟩, ⟨none, .nilCheck (.tmp 12), some (.tmp 11, false)⟩, ⟨none, .fieldAddr 6 (.tmp 13), some (.tmp 11, false)⟩, ⟨none, .load false 1 (.tmp 14), some (.tmp 11, false)⟩, ⟨none, .mv (.var 5), some (.tmp 11, false)⟩, ⟨none, .indexSl 1 (.tmp 15) (.tmp 16), some (.tmp 11, false)⟩, ⟨none, .load false 1 (.tmp 17), some (.tmp 11, false)⟩, ⟨none, .bin .neq (.tmp 18) (.cst (.int .i64 0)), some (.tmp 11, false)⟩, ⟨none, .pick (.tmp 11) (.cst (.bool true)) (.tmp 19), none⟩, ⟨none, .mv (.tmp 20), none⟩, ⟨none, .mv (.var 0), some (.tmp 21, false)⟩, ⟨none, .nilCheck (.tmp 22), some (.tmp 21, false)⟩, ⟨none, .fieldAddr 3 (.tmp 23), some (.tmp 21, false)⟩, ⟨none, .load false 1 (.tmp 24), some (.tmp 21, false)⟩, ⟨none, .mv (.var 5), some (.tmp 21, false)⟩, ⟨none, .indexSl 1 (.tmp 25) (.tmp 26), some (.tmp 21, false)⟩, ⟨none, .load false 1 (.tmp 27), some (.tmp 21, false)⟩, ⟨none, .fieldAddr 0 (.var 2), some (.tmp 21, false)⟩, ⟨none, .load false 1 (.tmp 29), some (.tmp 21, false)⟩, ⟨none, .bin .eql (.tmp 28) (.tmp 30), some (.tmp 21, false)⟩, ⟨none, .pick (.tmp 21) (.cst (.bool true)) (.tmp 31), none⟩, ⟨none, .mv (.tmp 32), none⟩, ⟨none, .mv (.var 5), some (.tmp 33, false)⟩, ⟨none, .mv (.var 0), some (.tmp 33, false)⟩, ⟨none, .fieldAddr 0 (.var 2), some (.tmp 33, false)⟩, ⟨none, .load false 1 (.tmp 36), some (.tmp 33, false)⟩, ⟨none, .nilCheck (.tmp 35), some (.tmp 33, false)⟩, ⟨none, .fieldAddr 8 (.tmp 38), some (.tmp 33, false)⟩, ⟨none, .indexArr 2 1 (.tmp 39) (.tmp 37), some (.tmp 33, false)⟩, ⟨none, .load false 1 (.tmp 40), some (.tmp 33, false)⟩, ⟨none, .bin .leq (.tmp 34) (.tmp 41), some (.tmp 33, false)⟩, ⟨none, .pick (.tmp 33) (.cst (.bool true)) (.tmp 42), none⟩, ⟨none, .mv (.tmp 43), none⟩, ⟨none, .mv (.var 0), some (.tmp 44, false)⟩, ⟨none, .nilCheck (.tmp 45), some (.tmp 44, false)⟩, ⟨none, .fieldAddr 5 (.tmp 46), some (.tmp 44, false)⟩, ⟨none, .load false 1 (.tmp 47), some (.tmp 44, false)⟩, ⟨none, .mv (.var 5), some (.tmp 44, false)⟩, ⟨none, .indexSl 1 (.tmp 48) (.tmp 49), some (.tmp 44, false)⟩, ⟨none, .load false 1 (.tmp 50), some (.tmp 44, false)⟩, ⟨none, .mv (.var 0), some (.tmp 44, false)⟩, ⟨none, .fieldAddr 0 (.var 2), some (.tmp 44, false)⟩, ⟨none, .load false 1 (.tmp 53), some (.tmp 44, false)⟩, ⟨none, .nilCheck (.tmp 52), some (.tmp 44, false)⟩, ⟨none, .fieldAddr 0 (.tmp 55), some (.tmp 44, false)⟩, ⟨none, .indexArr 2 1 (.tmp 56) (.tmp 54), some (.tmp 44, false)⟩, ⟨none, .load false 1 (.tmp 57), some (.tmp 44, false)⟩, ⟨none, .call (.fn 26) [.tmp 58], some (.tmp 44, false)⟩, ⟨none, .bin .neq (.tmp 51) (.tmp 59), some (.tmp 44, false)⟩, ⟨some 7, .pick (.tmp 44) (.cst (.bool true)) (.tmp 60), none⟩]) (.cond (.var 7) (.seq (.region [⟨none, .mv (.var 0), none⟩, ⟨none, .nilCheck (.tmp 0), none⟩, ⟨none, .fieldAddr 10 (.tmp 1), none⟩, ⟨none, .store 1 (.tmp 2) (.cst (.bool false)), none⟩]) .ret) .skip)) (.seq (.region [⟨none, .mv (.var 0), none⟩, ⟨none, .nilCheck (.tmp 0), none⟩, ⟨none, .fieldAddr 6 (.tmp 1), none⟩, ⟨none, .load false 1 (.tmp 2), none⟩, ⟨none, .mv (.var 5), none⟩, ⟨none, .mv (.var 0), none⟩, ⟨none, .fieldAddr 0 (.var 2), none⟩, ⟨none, .load false 1 (.tmp 6), none⟩, ⟨none, .nilCheck (.tmp 5), none⟩, ⟨none, .fieldAddr 0 (.tmp 8), none⟩, ⟨none, .indexArr 2 1 (.tmp 9) (.tmp 7), none⟩, ⟨none, .load false 1 (.tmp 10), none⟩, ⟨none, .call (.fn 26) [.tmp 11], none⟩, ⟨none, .indexSl 1 (.tmp 3) (.tmp 4), none⟩, ⟨none, .store 1 (.tmp 13) (.tmp 12), none⟩]) (.region [⟨none, .mv (.var 0), none⟩, ⟨none, .fieldAddr 0 (.var 2), none⟩, ⟨none, .load false 1 (.tmp 1), none⟩, ⟨none, .mv (.var 5), none⟩, ⟨none, .nilCheck (.tmp 0), none⟩, ⟨none, .fieldAddr 8 (.tmp 4), none⟩, ⟨none, .indexArr 2 1 (.tmp 5) (.tmp 2), none⟩, ⟨none, .store 1 (.tmp 6) (.tmp 3), none⟩]))))) (.kill [1, 5, 6, 7])) (.region [⟨none, .mv (.var 4), none⟩, ⟨none, .bin .add (.tmp 0) (.cst (.int .i64 1)), none⟩, ⟨some 4, .mv (.tmp 1), none⟩]))
def mf39 : MFun := ⟨2, 8, .seq (.region [⟨some 2, .box (.var 1), none⟩]) (.seq (.region [⟨none, .mv (.var 0), none⟩, ⟨none, .fieldAddr 0 (.var 2), none⟩, ⟨none, .load false 1 (.tmp 1), none⟩, ⟨none, .nilCheck (.tmp 0), none⟩, ⟨none, .fieldAddr 0 (.tmp 3), none⟩, ⟨none, .indexArr 2 1 (.tmp 4) (.tmp 2), none⟩, ⟨none, .load false 1 (.tmp 5), none⟩, ⟨none, .fieldAddr 1 (.var 2), none⟩, ⟨none, .load true 5 (.tmp 7), none⟩, ⟨none, .call (.fn 23) [.tmp 6, .tmp 8], none⟩, ⟨some 3, .mv (.tmp 9), none⟩]) (.seq (.seq (.region [⟨some 4, .mv (.cst (.int .i64 0)), none⟩]) (.seq (.block 0 (.loop [1, 5, 6, 7] lp39x0)) (.kill [1, 2, 3, 4, 5, 6, 7]))) (.region [⟨none, .mv (.var 0), none⟩, ⟨none, .call (.fn 57) [.tmp 0], none⟩]))), []⟩
def mask39x0 : List Nat := [1, 5, 6, 7]
abbrev st39x0 (v0 v2 v3 v4 : AV) : List AV := [v0, .undef, v2, v3, v4, .undef, .undef, .undef]
theorem cl39x0 {v0 d1 v2 v3 v4 d5 d6 d7 : AV} : clear mask39x0 [v0, d1, v2, v3, v4, d5, d6, d7] = st39x0 v0 v2 v3 v4 := by simp only [mask39x0, clear, List.foldl_cons, List.foldl_nil, List.set_cons_zero, List.set_cons_succ]
theorem go39x0 {E : Env} {fuel : Nat} {A : Arena} {o : Out} {k : List KC} {v0 d1 v2 v3 v4 d5 d6 d7 : AV} (h : iter (evC E fuel lp39x0) mask39x0 fuel (st39x0 v0 v2 v3 v4) A = some o) :
    run E fuel (.code (.loop [1, 5, 6, 7] lp39x0) :: k) [v0, d1, v2, v3, v4, d5, d6, d7] A = after E fuel k o := run_loopC mask39x0 _ _ (by rw [cl39x0]; exact h)
set_option maxHeartbeats 4000000 in
theorem comp39 : compFun Try.prog Try.f39 2 [0, 1, 3, 4, 5, 6, 20, 89] [26] true ([[1, 5, 6, 7]], [[1, 5, 6, 7], [1, 2, 3, 4, 5, 6, 7]]) = some mf39 := by kernel_rfl
theorem at39 : Try.prog.funcs[39]? = some Try.f39 := by kernel_rfl
end Go.Proofs.Ytfidjdlmmcaplaa
/-
  Link: two pairs of ends in an arena, one pair the reference's; bounds.
-/
namespace Go.Proofs.Ytfidjdlmmcaplaa
open Go

def upd {α : Type} (f : Nat → α) (s : Nat) (x : α) : Nat → α := fun t => if t = s then x else f t
theorem upd_same {α : Type} (f : Nat → α) (s : Nat) (x : α) : upd f s x s = x := if_pos rfl
theorem upd_ne {α : Type} (f : Nat → α) {s t : Nat} (x : α) (h : t ≠ s) : upd f s x t = f t := if_neg h
/-- a frame on the line, and to which end -/
def flA (x : Nat × FrS) : AV := .agg [.int .i64 (x.1 : Int), .int .i64 x.2.fr, .int .i64 x.2.to, .int .i64 x.2.seq, .int .i64 x.2.ack, .str x.2.body]
def two (p q : Nat) : Ent := .row 2 false [.agg [.ptr p 0 0, .ptr q 0 0]]
theorem own_nil0 (id : Nat) : own id .nilS .nilS = [id] := rfl
/-- what the law holds: its ends, the reference's, the frames; rows that nobody else touches -/
structure Inv0 (A : Arena) (P : List Nat) (pa pb : Nat) (fv : AV) (SA SB : Nat → EndS) (fl : List (Nat × FrS)) (ia ib : Nat → Nat) (qa la qb lb : Nat → AV) (T : Nat → Nat) : Prop where
  a : ∀ s, s < 2 → EndAt A (ia s) (SA s) (qa s) (la s)
  ta : ∀ s, s < 2 → ∀ j, j ∈ own (ia s) (qa s) (la s) → T j = s + 1
  b : ∀ s, s < 2 → EndAt A (ib s) (SB s) (qb s) (lb s)
  tb : ∀ s, s < 2 → ∀ j, j ∈ own (ib s) (qb s) (lb s) → T j = s + 3
  ra : A[pa]? = some (two (ia 0) (ia 1))
  rb : A[pb]? = some (two (ib 0) (ib 1))
  tpa : T pa = 5
  tpb : T pb = 6
  fr : SlP 6 A fv (fl.map flA)
  tf : ∀ j, j ∈ idsOf fv → T j = 7
  p : ∀ j, j ∈ P → T j = 0 ∧ j < A.length
def Inv (A : Arena) (P : List Nat) (pa pb : Nat) (fv : AV) (SA SB : Nat → EndS) (fl : List (Nat × FrS)) : Prop := ∃ ia ib qa la qb lb T, Inv0 A P pa pb fv SA SB fl ia ib qa la qb lb T
section
variable {A : Arena} {P : List Nat} {pa pb : Nat} {fv : AV} {SA SB : Nat → EndS} {fl : List (Nat × FrS)}
/-- what is left alone: all but what is tagged -/
theorem Inv0.same {ia ib qa la qb lb T} (h : Inv0 A P pa pb fv SA SB fl ia ib qa la qb lb T) {B : Arena} {o : List Nat} {t : Nat} (hF : Fr A B o) (ho : ∀ j, j ∈ o → T j = t ∨ A.length ≤ j) {j : Nat} (hj : j < A.length) (hn : T j ≠ t) : B[j]? = A[j]? :=
  hF.2 j hj fun h2 => (ho j h2).elim hn (fun h3 => by omega)
theorem Inv.low (h : Inv A P pa pb fv SA SB fl) : pa < A.length ∧ pb < A.length ∧ pa ≠ pb := by
  obtain ⟨ia, ib, qa, la, qb, lb, T, h⟩ := h
  exact ⟨(List.getElem?_eq_some_iff.1 h.ra).1, (List.getElem?_eq_some_iff.1 h.rb).1, fun e => by
    have h1 := h.tpa
    rw [e, h.tpb] at h1
    cases h1⟩
/-- an end of the law's is taken -/
theorem Inv.stepA (h : Inv A P pa pb fv SA SB fl) {s : Nat} (hs : s < 2) : ∃ id qv lv, EndAt A id (SA s) qv lv ∧ (∃ p q, A[pa]? = some (.row 2 false [.agg [p, q]]) ∧ (if s = 0 then p else q) = .ptr id 0 0) ∧
    ∀ (B : Arena) (S' : EndS) (qv' lv' : AV) (out : List Nat), EndAt B id S' qv' lv' → (∀ j, j ∈ own id qv' lv' → j ∈ own id qv lv ∨ A.length ≤ j) → Fr A B (own id qv lv) → (∀ j, j ∈ out → (j ∈ own id qv lv ∨ A.length ≤ j) ∧ j < B.length ∧ j ∉ own id qv' lv') →
      Inv B (out ++ P) pa pb fv (upd SA s S') SB fl ∧ (∀ j, j ∈ P → B[j]? = A[j]?) ∧ B[pa]? = A[pa]? ∧ B[pb]? = A[pb]? := by
  obtain ⟨ia, ib, qa, la, qb, lb, T, h⟩ := h
  refine ⟨ia s, qa s, la s, h.a s hs, ⟨_, _, h.ra, ?_⟩, fun B S' qv' lv' out hE ho hF hout => ?_⟩
  · rcases (show s = 0 ∨ s = 1 by omega) with rfl | rfl <;> rfl
  have hAB := hF.1
  have hsame : ∀ j, j < A.length → T j ≠ s + 1 → B[j]? = A[j]? := fun j hj hn => hF.2 j hj fun h2 => hn (h.ta s hs j h2)
  have hpal := (List.getElem?_eq_some_iff.1 h.ra).1
  have hpbl := (List.getElem?_eq_some_iff.1 h.rb).1
  have e1 : B[pa]? = A[pa]? := hsame pa hpal (by rw [h.tpa]; omega)
  have e2 : B[pb]? = A[pb]? := hsame pb hpbl (by rw [h.tpb]; omega)
  have hP : ∀ j, j ∈ P → B[j]? = A[j]? := fun j hj => hsame j (h.p j hj).2 (by rw [(h.p j hj).1]; omega)
  obtain ⟨T', hT'⟩ : ∃ T' : Nat → Nat, T' = fun j => if j ∈ out then 0 else if j ∈ own (ia s) qv' lv' then s + 1 else if j < A.length then T j else 0 := ⟨_, rfl⟩
  have keepT : ∀ j, j < A.length → T j ≠ s + 1 → T' j = T j := fun j hj hn => by
    rw [hT']
    simp only
    rw [if_neg (fun h2 => by
      rcases (hout j h2).1 with h3 | h3
      · exact hn (h.ta s hs j h3)
      · omega), if_neg (fun h2 => by
      rcases ho j h2 with h3 | h3
      · exact hn (h.ta s hs j h3)
      · omega), if_pos hj]
  have otherA : ∀ t, t < 2 → t ≠ s → EndAt B (ia t) (SA t) (qa t) (la t) ∧ ∀ j, j ∈ own (ia t) (qa t) (la t) → T' j = t + 1 := fun t ht hts => by
    have hj : ∀ j, j ∈ own (ia t) (qa t) (la t) → j < A.length ∧ T j ≠ s + 1 := fun j hj => ⟨(h.a t ht).low j hj, by rw [h.ta t ht j hj]; omega⟩
    exact ⟨(h.a t ht).keep fun j hj' => hsame j (hj j hj').1 (hj j hj').2, fun j hj' => by rw [keepT j (hj j hj').1 (hj j hj').2, h.ta t ht j hj']⟩
  have otherB : ∀ t, t < 2 → EndAt B (ib t) (SB t) (qb t) (lb t) ∧ ∀ j, j ∈ own (ib t) (qb t) (lb t) → T' j = t + 3 := fun t ht => by
    have hj : ∀ j, j ∈ own (ib t) (qb t) (lb t) → j < A.length ∧ T j ≠ s + 1 := fun j hj => ⟨(h.b t ht).low j hj, by rw [h.tb t ht j hj]; omega⟩
    exact ⟨(h.b t ht).keep fun j hj' => hsame j (hj j hj').1 (hj j hj').2, fun j hj' => by rw [keepT j (hj j hj').1 (hj j hj').2, h.tb t ht j hj']⟩
  refine ⟨⟨ia, ib, upd qa s qv', upd la s lv', qb, lb, T', fun t ht => ?_, fun t ht j hj => ?_, fun t ht => (otherB t ht).1, fun t ht => (otherB t ht).2, by rw [e1]; exact h.ra, by rw [e2]; exact h.rb, by rw [keepT pa hpal (by rw [h.tpa]; omega)]; exact h.tpa, by rw [keepT pb hpbl (by rw [h.tpb]; omega)]; exact h.tpb, h.fr.keep fun j hj => hsame j (h.fr.low j hj) (by rw [h.tf j hj]; omega), fun j hj => by rw [keepT j (h.fr.low j hj) (by rw [h.tf j hj]; omega)]; exact h.tf j hj, fun j hj => ?_⟩, hP, e1, e2⟩
  · by_cases e : t = s
    · subst e; rw [upd_same, upd_same, upd_same]; exact hE
    · rw [upd_ne _ _ e, upd_ne _ _ e, upd_ne _ _ e]; exact (otherA t ht e).1
  · by_cases e : t = s
    · subst e
      rw [upd_same, upd_same] at hj
      rw [hT']
      simp only
      rw [if_neg (fun h2 => (hout j h2).2.2 hj), if_pos hj]
    · rw [upd_ne _ _ e, upd_ne _ _ e] at hj
      exact (otherA t ht e).2 j hj
  · rcases List.mem_append.1 hj with hj | hj
    · refine ⟨?_, (hout j hj).2.1⟩
      rw [hT']
      simp only
      rw [if_pos hj]
    · have := h.p j hj
      exact ⟨by rw [keepT j this.2 (by rw [this.1]; omega)]; exact this.1, by omega⟩
/-- an end of the reference's -/
theorem Inv.stepB (h : Inv A P pa pb fv SA SB fl) {s : Nat} (hs : s < 2) : ∃ id qv lv, EndAt A id (SB s) qv lv ∧ (∃ p q, A[pb]? = some (.row 2 false [.agg [p, q]]) ∧ (if s = 0 then p else q) = .ptr id 0 0) ∧
    ∀ (B : Arena) (S' : EndS) (qv' lv' : AV) (out : List Nat), EndAt B id S' qv' lv' → (∀ j, j ∈ own id qv' lv' → j ∈ own id qv lv ∨ A.length ≤ j) → Fr A B (own id qv lv) → (∀ j, j ∈ out → (j ∈ own id qv lv ∨ A.length ≤ j) ∧ j < B.length ∧ j ∉ own id qv' lv') →
      Inv B (out ++ P) pa pb fv SA (upd SB s S') fl ∧ (∀ j, j ∈ P → B[j]? = A[j]?) ∧ B[pa]? = A[pa]? ∧ B[pb]? = A[pb]? := by
  obtain ⟨ia, ib, qa, la, qb, lb, T, h⟩ := h
  refine ⟨ib s, qb s, lb s, h.b s hs, ⟨_, _, h.rb, ?_⟩, fun B S' qv' lv' out hE ho hF hout => ?_⟩
  · rcases (show s = 0 ∨ s = 1 by omega) with rfl | rfl <;> rfl
  have hAB := hF.1
  have hsame : ∀ j, j < A.length → T j ≠ s + 3 → B[j]? = A[j]? := fun j hj hn => hF.2 j hj fun h2 => hn (h.tb s hs j h2)
  have hpal := (List.getElem?_eq_some_iff.1 h.ra).1
  have hpbl := (List.getElem?_eq_some_iff.1 h.rb).1
  have e1 : B[pa]? = A[pa]? := hsame pa hpal (by rw [h.tpa]; omega)
  have e2 : B[pb]? = A[pb]? := hsame pb hpbl (by rw [h.tpb]; omega)
  have hP : ∀ j, j ∈ P → B[j]? = A[j]? := fun j hj => hsame j (h.p j hj).2 (by rw [(h.p j hj).1]; omega)
  obtain ⟨T', hT'⟩ : ∃ T' : Nat → Nat, T' = fun j => if j ∈ out then 0 else if j ∈ own (ib s) qv' lv' then s + 3 else if j < A.length then T j else 0 := ⟨_, rfl⟩
  have keepT : ∀ j, j < A.length → T j ≠ s + 3 → T' j = T j := fun j hj hn => by
    rw [hT']
    simp only
    rw [if_neg (fun h2 => by
      rcases (hout j h2).1 with h3 | h3
      · exact hn (h.tb s hs j h3)
      · omega), if_neg (fun h2 => by
      rcases ho j h2 with h3 | h3
      · exact hn (h.tb s hs j h3)
      · omega), if_pos hj]
  have otherB : ∀ t, t < 2 → t ≠ s → EndAt B (ib t) (SB t) (qb t) (lb t) ∧ ∀ j, j ∈ own (ib t) (qb t) (lb t) → T' j = t + 3 := fun t ht hts => by
    have hj : ∀ j, j ∈ own (ib t) (qb t) (lb t) → j < A.length ∧ T j ≠ s + 3 := fun j hj => ⟨(h.b t ht).low j hj, by rw [h.tb t ht j hj]; omega⟩
    exact ⟨(h.b t ht).keep fun j hj' => hsame j (hj j hj').1 (hj j hj').2, fun j hj' => by rw [keepT j (hj j hj').1 (hj j hj').2, h.tb t ht j hj']⟩
  have otherA : ∀ t, t < 2 → EndAt B (ia t) (SA t) (qa t) (la t) ∧ ∀ j, j ∈ own (ia t) (qa t) (la t) → T' j = t + 1 := fun t ht => by
    have hj : ∀ j, j ∈ own (ia t) (qa t) (la t) → j < A.length ∧ T j ≠ s + 3 := fun j hj => ⟨(h.a t ht).low j hj, by rw [h.ta t ht j hj]; omega⟩
    exact ⟨(h.a t ht).keep fun j hj' => hsame j (hj j hj').1 (hj j hj').2, fun j hj' => by rw [keepT j (hj j hj').1 (hj j hj').2, h.ta t ht j hj']⟩
  refine ⟨⟨ia, ib, qa, la, upd qb s qv', upd lb s lv', T', fun t ht => (otherA t ht).1, fun t ht => (otherA t ht).2, fun t ht => ?_, fun t ht j hj => ?_, by rw [e1]; exact h.ra, by rw [e2]; exact h.rb, by rw [keepT pa hpal (by rw [h.tpa]; omega)]; exact h.tpa, by rw [keepT pb hpbl (by rw [h.tpb]; omega)]; exact h.tpb, h.fr.keep fun j hj => hsame j (h.fr.low j hj) (by rw [h.tf j hj]; omega), fun j hj => by rw [keepT j (h.fr.low j hj) (by rw [h.tf j hj]; omega)]; exact h.tf j hj, fun j hj => ?_⟩, hP, e1, e2⟩
  · by_cases e : t = s
    · subst e; rw [upd_same, upd_same, upd_same]; exact hE
    · rw [upd_ne _ _ e, upd_ne _ _ e, upd_ne _ _ e]; exact (otherB t ht e).1
  · by_cases e : t = s
    · subst e
      rw [upd_same, upd_same] at hj
      rw [hT']
      simp only
      rw [if_neg (fun h2 => (hout j h2).2.2 hj), if_pos hj]
    · rw [upd_ne _ _ e, upd_ne _ _ e] at hj
      exact (otherB t ht e).2 j hj
  · rcases List.mem_append.1 hj with hj | hj
    · refine ⟨?_, (hout j hj).2.1⟩
      rw [hT']
      simp only
      rw [if_pos hj]
    · have := h.p j hj
      exact ⟨by rw [keepT j this.2 (by rw [this.1]; omega)]; exact this.1, by omega⟩
/-- rows beside -/
theorem Inv.more (h : Inv A P pa pb fv SA SB fl) {B : Arena} (hF : Fr A B []) (out : List Nat) (hout : ∀ j, j ∈ out → A.length ≤ j ∧ j < B.length) : Inv B (out ++ P) pa pb fv SA SB fl ∧ (∀ j, j ∈ P → B[j]? = A[j]?) ∧ B[pa]? = A[pa]? ∧ B[pb]? = A[pb]? := by
  obtain ⟨ia, ib, qa, la, qb, lb, T, h⟩ := h
  have hAB := hF.1
  have hsame : ∀ j, j < A.length → B[j]? = A[j]? := fun j hj => hF.2 j hj (by simp)
  have hpal := (List.getElem?_eq_some_iff.1 h.ra).1
  have hpbl := (List.getElem?_eq_some_iff.1 h.rb).1
  obtain ⟨T', hT'⟩ : ∃ T' : Nat → Nat, T' = fun j => if j < A.length then T j else 0 := ⟨_, rfl⟩
  have keepT : ∀ j, j < A.length → T' j = T j := fun j hj => by rw [hT']; exact if_pos hj
  refine ⟨⟨ia, ib, qa, la, qb, lb, T', fun t ht => (h.a t ht).keep fun j hj => hsame j ((h.a t ht).low j hj), fun t ht j hj => by rw [keepT j ((h.a t ht).low j hj)]; exact h.ta t ht j hj, fun t ht => (h.b t ht).keep fun j hj => hsame j ((h.b t ht).low j hj), fun t ht j hj => by rw [keepT j ((h.b t ht).low j hj)]; exact h.tb t ht j hj, by rw [hsame pa hpal]; exact h.ra, by rw [hsame pb hpbl]; exact h.rb, by rw [keepT pa hpal]; exact h.tpa, by rw [keepT pb hpbl]; exact h.tpb, h.fr.keep fun j hj => hsame j (h.fr.low j hj), fun j hj => by rw [keepT j (h.fr.low j hj)]; exact h.tf j hj, fun j hj => ?_⟩, fun j hj => hsame j (h.p j hj).2, hsame pa hpal, hsame pb hpbl⟩
  rcases List.mem_append.1 hj with hj | hj
  · have := hout j hj
    refine ⟨?_, this.2⟩
    rw [hT']
    exact if_neg (by omega)
  · have := h.p j hj
    exact ⟨by rw [keepT j this.2]; exact this.1, by omega⟩
/-- a row of one's own is written -/
theorem Inv.set (h : Inv A P pa pb fv SA SB fl) {y : Nat} (hy : y ∈ P) (e : Ent) : Inv (A.set y e) P pa pb fv SA SB fl := by
  obtain ⟨ia, ib, qa, la, qb, lb, T, h⟩ := h
  have hy0 := (h.p y hy).1
  have hsame : ∀ j, T j ≠ 0 → (A.set y e)[j]? = A[j]? := fun j hj => List.getElem?_set_ne (fun e2 => hj (by rw [← e2]; exact hy0))
  exact ⟨ia, ib, qa, la, qb, lb, T, fun t ht => (h.a t ht).keep fun j hj => hsame j (by rw [h.ta t ht j hj]; omega), h.ta, fun t ht => (h.b t ht).keep fun j hj => hsame j (by rw [h.tb t ht j hj]; omega), h.tb, by rw [hsame pa (by rw [h.tpa]; omega)]; exact h.ra, by rw [hsame pb (by rw [h.tpb]; omega)]; exact h.rb, h.tpa, h.tpb, h.fr.keep fun j hj => hsame j (by rw [h.tf j hj]; omega), h.tf, fun j hj => by rw [List.length_set]; exact h.p j hj⟩
/-- fewer rows -/
theorem Inv.less (h : Inv A P pa pb fv SA SB fl) {P' : List Nat} (hP : ∀ j, j ∈ P' → j ∈ P) : Inv A P' pa pb fv SA SB fl := by
  obtain ⟨ia, ib, qa, la, qb, lb, T, h⟩ := h
  exact ⟨ia, ib, qa, la, qb, lb, T, h.a, h.ta, h.b, h.tb, h.ra, h.rb, h.tpa, h.tpb, h.fr, h.tf, fun j hj => h.p j (hP j hj)⟩
/-- the frames -/
theorem Inv.frames (h : Inv A P pa pb fv SA SB fl) : SlP 6 A fv (fl.map flA) ∧
    ∀ (B : Arena) (fv' : AV) (fl' : List (Nat × FrS)), SlP 6 B fv' (fl'.map flA) → (∀ j, j ∈ idsOf fv' → A.length ≤ j) → Fr A B (idsOf fv) → Inv B P pa pb fv' SA SB fl' ∧ (∀ j, j ∈ P → B[j]? = A[j]?) := by
  obtain ⟨ia, ib, qa, la, qb, lb, T, h⟩ := h
  refine ⟨h.fr, fun B fv' fl' hS hn hF => ?_⟩
  have hAB := hF.1
  have hsame : ∀ j, j < A.length → T j ≠ 7 → B[j]? = A[j]? := fun j hj hn => hF.2 j hj fun h2 => hn (h.tf j h2)
  have hpal := (List.getElem?_eq_some_iff.1 h.ra).1
  have hpbl := (List.getElem?_eq_some_iff.1 h.rb).1
  obtain ⟨T', hT'⟩ : ∃ T' : Nat → Nat, T' = fun j => if j < A.length then T j else 7 := ⟨_, rfl⟩
  have keepT : ∀ j, j < A.length → T' j = T j := fun j hj => by rw [hT']; exact if_pos hj
  refine ⟨⟨ia, ib, qa, la, qb, lb, T', fun t ht => (h.a t ht).keep fun j hj => hsame j ((h.a t ht).low j hj) (by rw [h.ta t ht j hj]; omega), fun t ht j hj => by rw [keepT j ((h.a t ht).low j hj)]; exact h.ta t ht j hj, fun t ht => (h.b t ht).keep fun j hj => hsame j ((h.b t ht).low j hj) (by rw [h.tb t ht j hj]; omega), fun t ht j hj => by rw [keepT j ((h.b t ht).low j hj)]; exact h.tb t ht j hj, by rw [hsame pa hpal (by rw [h.tpa]; omega)]; exact h.ra, by rw [hsame pb hpbl (by rw [h.tpb]; omega)]; exact h.rb, by rw [keepT pa hpal]; exact h.tpa, by rw [keepT pb hpbl]; exact h.tpb, hS, fun j hj => ?_, fun j hj => ?_⟩, fun j hj => hsame j (h.p j hj).2 (by rw [(h.p j hj).1]; omega)⟩
  · have := hn j hj
    rw [hT']
    exact if_neg (by omega)
  · have := h.p j hj
    exact ⟨by rw [keepT j this.2]; exact this.1, by omega⟩
theorem Inv.rows (h : Inv A P pa pb fv SA SB fl) {s : Nat} (hs : s < 2) : ∃ a0 a1 b0 b1 qv lv, A[pa]? = some (two a0 a1) ∧ A[pb]? = some (two b0 b1) ∧ EndAt A (if s = 0 then b0 else b1) (SB s) qv lv := by
  obtain ⟨ia, ib, qa, la, qb, lb, T, h⟩ := h
  refine ⟨_, _, _, _, qb s, lb s, h.ra, h.rb, ?_⟩
  have := h.b s hs
  rcases (show s = 0 ∨ s = 1 by omega) with rfl | rfl
  · exact this
  · exact this
/-- a new end of the law's -/
theorem Inv.newA (h : Inv A P pa pb fv SA SB fl) {s id : Nat} (hs : s < 2) {S' : EndS} (hE : EndAt A id S' .nilS .nilS) (hid : id ∈ P) {p q : Nat} (hr : A[pa]? = some (two p q)) {P' : List Nat} (hP' : ∀ j, j ∈ P' → j ∈ P ∧ j ≠ id) : Inv (A.set pa (if s = 0 then two id q else two p id)) P' pa pb fv (upd SA s S') SB fl := by
  obtain ⟨ia, ib, qa, la, qb, lb, T, h⟩ := h
  have hpal := (List.getElem?_eq_some_iff.1 h.ra).1
  have hid0 := (h.p id hid).1
  obtain ⟨C, hC⟩ : ∃ C, C = A.set pa (if s = 0 then two id q else two p id) := ⟨_, rfl⟩
  rw [← hC]
  have hsame : ∀ j, T j ≠ 5 → C[j]? = A[j]? := fun j hn => by
    rw [hC, List.getElem?_set_ne (fun e => hn (by rw [← e]; exact h.tpa))]
  have e := hr
  rw [h.ra] at e
  injection e with e
  unfold two at e
  injection e with _ _ e
  simp only [List.cons.injEq, AV.agg.injEq, AV.ptr.injEq, and_true] at e
  obtain ⟨e0, e1⟩ := e
  obtain ⟨T', hT'⟩ : ∃ T' : Nat → Nat, T' = fun j => if j = id then s + 1 else T j := ⟨_, rfl⟩
  have keepT : ∀ j, T j ≠ 0 → T' j = T j := fun j hj => by rw [hT']; exact if_neg (fun e => hj (by rw [e]; exact hid0))
  refine ⟨upd ia s id, ib, upd qa s .nilS, upd la s .nilS, qb, lb, T', fun t ht => ?_, fun t ht j hj => ?_, fun t ht => (h.b t ht).keep fun j hj => hsame j (by rw [h.tb t ht j hj]; omega), fun t ht j hj => by rw [keepT j (by rw [h.tb t ht j hj]; omega)]; exact h.tb t ht j hj, ?_, by rw [hsame pb (by rw [h.tpb]; omega)]; exact h.rb, by rw [keepT pa (by rw [h.tpa]; omega)]; exact h.tpa, by rw [keepT pb (by rw [h.tpb]; omega)]; exact h.tpb, h.fr.keep fun j hj => hsame j (by rw [h.tf j hj]; omega), fun j hj => by rw [keepT j (by rw [h.tf j hj]; omega)]; exact h.tf j hj, fun j hj => ?_⟩
  · by_cases e : t = s
    · subst e
      rw [upd_same, upd_same, upd_same, upd_same]
      exact hE.keep fun j hj => by
        rw [own_nil0, List.mem_singleton] at hj
        subst hj
        exact hsame j (by rw [hid0]; omega)
    · rw [upd_ne _ _ e, upd_ne _ _ e, upd_ne _ _ e, upd_ne _ _ e]
      exact (h.a t ht).keep fun j hj => hsame j (by rw [h.ta t ht j hj]; omega)
  · by_cases e : t = s
    · subst e
      rw [upd_same, upd_same, upd_same, own_nil0, List.mem_singleton] at hj
      subst hj
      rw [hT']
      exact if_pos rfl
    · rw [upd_ne _ _ e, upd_ne _ _ e, upd_ne _ _ e] at hj
      rw [keepT j (by rw [h.ta t ht j hj]; omega)]
      exact h.ta t ht j hj
  · rw [hC, List.getElem?_set_self hpal]
    rcases (show s = 0 ∨ s = 1 by omega) with rfl | rfl
    · rw [if_pos rfl, upd_same, upd_ne _ _ (by omega), e1]
    · rw [if_neg (by omega), upd_same, upd_ne _ _ (by omega), e0]
  · have h1 := hP' j hj
    have h2 := h.p j h1.1
    refine ⟨?_, by rw [hC, List.length_set]; exact h2.2⟩
    rw [hT']
    exact (if_neg h1.2).trans h2.1
/-- a new end of the reference's -/
theorem Inv.newB (h : Inv A P pa pb fv SA SB fl) {s id : Nat} (hs : s < 2) {S' : EndS} (hE : EndAt A id S' .nilS .nilS) (hid : id ∈ P) {p q : Nat} (hr : A[pb]? = some (two p q)) {P' : List Nat} (hP' : ∀ j, j ∈ P' → j ∈ P ∧ j ≠ id) : Inv (A.set pb (if s = 0 then two id q else two p id)) P' pa pb fv SA (upd SB s S') fl := by
  obtain ⟨ia, ib, qa, la, qb, lb, T, h⟩ := h
  have hpbl := (List.getElem?_eq_some_iff.1 h.rb).1
  have hid0 := (h.p id hid).1
  obtain ⟨C, hC⟩ : ∃ C, C = A.set pb (if s = 0 then two id q else two p id) := ⟨_, rfl⟩
  rw [← hC]
  have hsame : ∀ j, T j ≠ 6 → C[j]? = A[j]? := fun j hn => by
    rw [hC, List.getElem?_set_ne (fun e => hn (by rw [← e]; exact h.tpb))]
  have e := hr
  rw [h.rb] at e
  injection e with e
  unfold two at e
  injection e with _ _ e
  simp only [List.cons.injEq, AV.agg.injEq, AV.ptr.injEq, and_true] at e
  obtain ⟨e0, e1⟩ := e
  obtain ⟨T', hT'⟩ : ∃ T' : Nat → Nat, T' = fun j => if j = id then s + 3 else T j := ⟨_, rfl⟩
  have keepT : ∀ j, T j ≠ 0 → T' j = T j := fun j hj => by rw [hT']; exact if_neg (fun e => hj (by rw [e]; exact hid0))
  refine ⟨ia, upd ib s id, qa, la, upd qb s .nilS, upd lb s .nilS, T', fun t ht => (h.a t ht).keep fun j hj => hsame j (by rw [h.ta t ht j hj]; omega), fun t ht j hj => by rw [keepT j (by rw [h.ta t ht j hj]; omega)]; exact h.ta t ht j hj, fun t ht => ?_, fun t ht j hj => ?_, by rw [hsame pa (by rw [h.tpa]; omega)]; exact h.ra, ?_, by rw [keepT pa (by rw [h.tpa]; omega)]; exact h.tpa, by rw [keepT pb (by rw [h.tpb]; omega)]; exact h.tpb, h.fr.keep fun j hj => hsame j (by rw [h.tf j hj]; omega), fun j hj => by rw [keepT j (by rw [h.tf j hj]; omega)]; exact h.tf j hj, fun j hj => ?_⟩
  · by_cases e : t = s
    · subst e
      rw [upd_same, upd_same, upd_same, upd_same]
      exact hE.keep fun j hj => by
        rw [own_nil0, List.mem_singleton] at hj
        subst hj
        exact hsame j (by rw [hid0]; omega)
    · rw [upd_ne _ _ e, upd_ne _ _ e, upd_ne _ _ e, upd_ne _ _ e]
      exact (h.b t ht).keep fun j hj => hsame j (by rw [h.tb t ht j hj]; omega)
  · by_cases e : t = s
    · subst e
      rw [upd_same, upd_same, upd_same, own_nil0, List.mem_singleton] at hj
      subst hj
      rw [hT']
      exact if_pos rfl
    · rw [upd_ne _ _ e, upd_ne _ _ e, upd_ne _ _ e] at hj
      rw [keepT j (by rw [h.tb t ht j hj]; omega)]
      exact h.tb t ht j hj
  · rw [hC, List.getElem?_set_self hpbl]
    rcases (show s = 0 ∨ s = 1 by omega) with rfl | rfl
    · rw [if_pos rfl, upd_same, upd_ne _ _ (by omega), e1]
    · rw [if_neg (by omega), upd_same, upd_ne _ _ (by omega), e0]
  · have h1 := hP' j hj
    have h2 := h.p j h1.1
    refine ⟨?_, by rw [hC, List.length_set]; exact h2.2⟩
    rw [hT']
    exact (if_neg h1.2).trans h2.1
end
end Go.Proofs.Ytfidjdlmmcaplaa
/-
  Link: what MatchesReference calls; bounds; what the ends tell, compared.
-/
namespace Go.Proofs.Ytfidjdlmmcaplaa
open Go

noncomputable def fsM : List (FuncId × HModel) := [(12, pureH 4 M12), (13, H13), (14, H14), (15, pureH 4 M15), (16, H16), (17, pureH 4 M17), (18, H18), (19, H19), (20, H20), (21, pureH 4 M21), (22, pureH 4 M22), (23, H23), (24, H24), (25, pureH 4 M25), (26, pureH 4 M26), (27, H27), (28, H28), (29, H29)]
@[simp] theorem fsM_12 : lookM fsM 12 = some (pureH 4 M12) := rfl
@[simp] theorem fsM_13 : lookM fsM 13 = some (H13) := rfl
@[simp] theorem fsM_14 : lookM fsM 14 = some (H14) := rfl
@[simp] theorem fsM_15 : lookM fsM 15 = some (pureH 4 M15) := rfl
@[simp] theorem fsM_16 : lookM fsM 16 = some (H16) := rfl
@[simp] theorem fsM_17 : lookM fsM 17 = some (pureH 4 M17) := rfl
@[simp] theorem fsM_18 : lookM fsM 18 = some (H18) := rfl
@[simp] theorem fsM_19 : lookM fsM 19 = some (H19) := rfl
@[simp] theorem fsM_20 : lookM fsM 20 = some (H20) := rfl
@[simp] theorem fsM_21 : lookM fsM 21 = some (pureH 4 M21) := rfl
@[simp] theorem fsM_22 : lookM fsM 22 = some (pureH 4 M22) := rfl
@[simp] theorem fsM_23 : lookM fsM 23 = some (H23) := rfl
@[simp] theorem fsM_24 : lookM fsM 24 = some (H24) := rfl
@[simp] theorem fsM_25 : lookM fsM 25 = some (pureH 4 M25) := rfl
@[simp] theorem fsM_26 : lookM fsM 26 = some (pureH 4 M26) := rfl
@[simp] theorem fsM_27 : lookM fsM 27 = some (H27) := rfl
@[simp] theorem fsM_28 : lookM fsM 28 = some (H28) := rfl
@[simp] theorem fsM_29 : lookM fsM 29 = some (H29) := rfl
theorem soundM : ∀ f M, lookM fsM f = some M → FnSpecY Try.prog GW f M := lookM_cons (FnSpecY.of_pure (PureSpec.of_ev (E := envOf GW fs12) (envOf_sound sound12) rfl at12 comp12 5 fun _ _ h => ⟨300, h⟩) 4) (lookM_cons spec13 (lookM_cons spec14 (lookM_cons (FnSpecY.of_pure spec15 4) (lookM_cons spec16 (lookM_cons (FnSpecY.of_pure spec17 4) (lookM_cons spec18 (lookM_cons spec19 (lookM_cons spec20 (lookM_cons (FnSpecY.of_pure spec21 4) (lookM_cons (FnSpecY.of_pure spec22 4) (lookM_cons spec23 (lookM_cons spec24 (lookM_cons (FnSpecY.of_pure spec25 4) (lookM_cons (FnSpecY.of_pure spec26 4) (lookM_cons spec27 (lookM_cons spec28 (lookM_cons spec29 lookM_nil)))))))))))))))))
/-- bounds after n calls -/
structure Wf (n : Nat) (S : EndS) : Prop where
  ticks : 0 ≤ S.ticks ∧ S.ticks ≤ n
  at_ : ∀ q ∈ S.queue, 0 ≤ q.at_ ∧ q.at_ ≤ n
  hello : 0 ≤ S.hello ∧ S.hello ≤ n
  queue : S.queue.length ≤ 64
  lost : S.lost.length + S.queue.length ≤ n
  received : 0 ≤ S.received ∧ S.received ≤ 4611686018427387903
  next : 1 ≤ S.next ∧ S.next ≤ n + 1
  heard : S.heard = true → S.peer > 0
  epoch : 1 ≤ S.epoch ∧ S.epoch ≤ 3 * n + 1
theorem Wf.mono {n m : Nat} {S : EndS} (h : Wf n S) (hnm : n ≤ m) : Wf m S := by
  obtain ⟨h1, h2, h3, h4, h5, h6, h7, h8, h9⟩ := h
  exact ⟨by omega, fun q hq => by have := h2 q hq; omega, by omega, h4, by omega, h6, by omega, h8, by omega⟩
theorem Wf.new (n : Nat) {e : Int} (he : 1 ≤ e ∧ e ≤ 3 * n + 1) : Wf n (newS e) :=
  ⟨by simp [newS], by simp [newS], by simp [newS], by simp [newS], by simp [newS], by simp [newS], by simp [newS]; omega, by simp [newS], he⟩
theorem Wf.bd {n : Nat} {S : EndS} (h : Wf n S) (hn : n ≤ 1000) : Bd S := by
  obtain ⟨h1, h2, h3, h4, h5, h6, h7, h8, h9⟩ := h
  exact ⟨by omega, fun q hq => by have := h2 q hq; omega, by omega⟩
theorem Wf.send {n : Nat} {S : EndS} (h : Wf n S) {b : Bytes} (hs : sendOk S b) : Wf (n + 1) (sendS S b) := by
  obtain ⟨h1, h2, h3, h4, h5, h6, h7, h8, h9⟩ := h
  refine ⟨by simp [sendS]; omega, fun q hq => ?_, by simp [sendS]; omega, by simp [sendS]; have := hs.2; omega, by simp [sendS]; omega, h6, by simp [sendS]; omega, h8, by simp [sendS]; omega⟩
  unfold sendS at hq
  rcases List.mem_append.1 hq with hq | hq
  · have := h2 q hq; omega
  · rw [List.mem_singleton] at hq
    subst hq
    simp
    omega
theorem p1_at {n : Nat} {S : EndS} (h2 : ∀ q ∈ S.queue, 0 ≤ q.at_ ∧ q.at_ ≤ n) (h1 : 0 ≤ S.ticks ∧ S.ticks ≤ n) : ∀ q ∈ (p1 S).1.queue, 0 ≤ q.at_ ∧ q.at_ ≤ n := by
  intro q hq
  unfold p1 at hq
  split at hq
  · simp only at hq
    rcases List.mem_append.1 hq with hq | hq
    · obtain ⟨r, hr, rfl⟩ := List.mem_map.1 hq
      unfold sentQ
      split
      · exact h1
      · exact h2 r (List.mem_of_mem_take hr)
    · exact h2 q (List.mem_of_mem_drop hq)
  · exact h2 q hq
theorem p1_len (S : EndS) : (p1 S).1.queue.length = S.queue.length := by
  unfold p1
  split
  · simp only [List.length_append, List.length_map, List.length_take, List.length_drop]
    omega
  · rfl
theorem p1_rest (S : EndS) : (p1 S).1.ticks = S.ticks ∧ (p1 S).1.hello = S.hello ∧ (p1 S).1.heard = S.heard ∧ (p1 S).1.epoch = S.epoch ∧ (p1 S).1.peer = S.peer ∧ (p1 S).1.received = S.received ∧ (p1 S).1.next = S.next ∧ (p1 S).1.lost = S.lost := by
  unfold p1
  split <;> exact ⟨rfl, rfl, rfl, rfl, rfl, rfl, rfl, rfl⟩
theorem Wf.tick {n : Nat} {S : EndS} (h : Wf n S) : Wf (n + 1) (tickS S).1 := by
  obtain ⟨h1, h2, h3, h4, h5, h6, h7, h8, h9⟩ := h
  obtain ⟨T, hT⟩ : ∃ T : EndS, T = { S with ticks := S.ticks + 1 } := ⟨_, rfl⟩
  have e : (tickS S).1 = if S.heard = false ∧ dueS (S.ticks + 1) S.hello = true then { (p1 T).1 with hello := S.ticks + 1 } else (p1 T).1 := by
    unfold tickS
    rw [tick1_eq, ← hT]
    split <;> rfl
  obtain ⟨r1, r2, r3, r4, r5, r6, r7, r8⟩ := p1_rest T
  have q1 := p1_len T
  have q2 := p1_at (n := n + 1) (S := T) (by rw [hT]; intro q hq; have := h2 q hq; omega) (by rw [hT]; simp only; omega)
  have hb : Wf (n + 1) (p1 T).1 := by
    refine ⟨by rw [r1, hT]; simp only; omega, q2, by rw [r2, hT]; simp only; omega, by rw [q1, hT]; exact h4, by rw [q1, r8, hT]; simp only; omega, by rw [r6, hT]; exact h6, by rw [r7, hT]; simp only; omega, by rw [r3, r5, hT]; exact h8, by rw [r4, hT]; simp only; omega⟩
  rw [e]
  split
  · exact ⟨hb.ticks, hb.at_, by simp only; omega, hb.queue, hb.lost, hb.received, hb.next, hb.heard, hb.epoch⟩
  · exact hb
theorem Wf.meet {n : Nat} {S : EndS} (h : Wf n S) (p : Int) (hp : 1 ≤ p) : Wf n (meetS S p) ∧ (meetS S p).peer = p := by
  obtain ⟨h1, h2, h3, h4, h5, h6, h7, h8, h9⟩ := h
  unfold meetS
  split
  · rename_i e
    exact ⟨⟨h1, h2, h3, h4, h5, h6, h7, h8, h9⟩, e.symm⟩
  · split
    · exact ⟨⟨h1, by simp, h3, by simp, by simp; omega, by simp, by simp only; omega, by simp, h9⟩, rfl⟩
    · exact ⟨⟨h1, h2, h3, h4, h5, by simp, h7, by simp, h9⟩, rfl⟩
theorem Wf.recv {n : Nat} {S : EndS} (h : Wf n S) (f : FrS) : Wf n (receiveS S f).1 := by
  unfold receiveS
  split
  rotate_left
  · exact h
  rename_i ht
  obtain ⟨h0, hp⟩ := h.meet f.fr ht.1.1.1
  have hfr := ht.1.1.1
  have hr0 : Wf n (recS0 S f) := ⟨h0.ticks, h0.at_, h0.hello, h0.queue, h0.lost, h0.received, h0.next, h0.heard, h0.epoch⟩
  have hr1 : Wf n (recS1 S f) := by
    have hl : ((meetS S f.fr).queue.filter (keepQ f.ack)).length ≤ (meetS S f.fr).queue.length := List.length_filter_le _ _
    refine ⟨h0.ticks, fun q hq => h0.at_ q (List.mem_filter.1 hq).1, h0.hello, Nat.le_trans hl h0.queue, ?_, h0.received, h0.next, fun _ => ?_, h0.epoch⟩
    · have := h0.lost
      show (meetS S f.fr).lost.length + ((meetS S f.fr).queue.filter (keepQ f.ack)).length ≤ n
      omega
    · show (meetS S f.fr).peer > 0
      rw [hp]; omega
  split
  · exact hr0
  · split
    · exact hr1
    · have := ht.1.2.2.1
      exact ⟨hr1.ticks, hr1.at_, hr1.hello, hr1.queue, hr1.lost, this, hr1.next, hr1.heard, hr1.epoch⟩
theorem Wf.lostE {n : Nat} {S : EndS} (h : Wf n S) : Wf n { S with lost := [] } :=
  ⟨h.ticks, h.at_, h.hello, h.queue, by have := h.lost; simp only [List.length_nil]; omega, h.received, h.next, h.heard, h.epoch⟩
def row3 (c0 c1 c2 : Int) : Ent := .row 3 false [.agg [.int .i64 c0, .int .i64 c1, .int .i64 c2]]
set_option maxRecDepth 100000 in
set_option maxHeartbeats 16000000 in
theorem round3c {A : Arena} {P : List Nat} {pa pb y : Nat} {fv v0 v1 v3 v12 : AV} {S : Nat → EndS} {fl : List (Nat × FrS)} (h : Inv A P pa pb fv S S fl) (hy : y ∈ P) {c0 c1 c2 : Int} (hr : A[y]? = some (row3 c0 c1 c2)) (hc2 : inI c2) {k : Nat} (hk : k < 2) {n : Nat} (hw : Wf n (S k)) (hn : n ≤ 200) :
    ∃ B, run (envOf GW fsM) 300 [.code lp3x2] (st3x2 v0 v1 v3 (.ptr pa 0 0) (.ptr pb 0 0) fv v12 (.ptr y 0 0) (.int .i64 (k : Int))) A = some (.normal (st3x2 v0 v1 v3 (.ptr pa 0 0) (.ptr pb 0 0) fv v12 (.ptr y 0 0) (.int .i64 ((k + 1 : Nat) : Int))) B) ∧
      Inv B P pa pb fv (if pick c2 3 = 0 then upd S k { S k with lost := [] } else S) (if pick c2 3 = 0 then upd S k { S k with lost := [] } else S) fl ∧ B[y]? = A[y]? := by
  have m15 := M15_eq hc2 (show (0 : Int) < 3 by omega)
  obtain ⟨ia, qa, la, ea, ⟨p, q, ra, pq⟩, sa⟩ := h.stepA hk
  obtain ⟨ib, qb, lb, eb, ⟨p', q', rb, pq'⟩, sb⟩ := h.stepB hk
  have a25 := ev25 ea (fun _ _ _ => none)
  have a26 := ev26 ea (fun _ _ _ => none)
  have a27 := ev27 ea (fun _ _ _ => none)
  have rowb := eb.row
  have hlen := eb.2.1.len
  rw [List.length_map] at hlen
  obtain ⟨B, v28, gB, FB⟩ := ev28 ea (fun _ _ _ => none)
  have hlow := h.low
  have hla : ∀ j, j ∈ idsOf la → j ∈ own ia qa la := fun j hj => mem_own.2 (.inr (.inr hj))
  obtain ⟨iB, pB, eB1, eB2⟩ := sa B _ qa .nilS (idsOf la) gB (fun j hj => by
    rcases mem_own.1 hj with h | h | h
    · exact .inl (mem_own.2 (.inl h))
    · exact .inl (mem_own.2 (.inr (.inl h)))
    · simp [idsOf] at h) (FB.mono fun j _ hj => by rw [List.mem_singleton] at hj; exact mem_own.2 (.inl hj)) (fun j hj => ⟨.inl (hla j hj), Nat.lt_of_lt_of_le (ea.low j (hla j hj)) FB.1, fun hj2 => by
    rcases mem_own.1 hj2 with h | h | h
    · exact ea.2.2.2.2.1 (h ▸ hj)
    · exact ea.2.2.2.2.2 j h hj
    · simp [idsOf] at h⟩)
  obtain ⟨ib2, qb2, lb2, eb2, ⟨p2, q2, rb2, pq2⟩, sb2⟩ := iB.stepB hk
  have rb2' := rb2
  rw [eB2, rb] at rb2'
  have hq2 : ib2 = ib := by
    injection rb2' with e
    injection e with _ _ e
    simp only [List.cons.injEq, AV.agg.injEq, and_true] at e
    rw [← e.1, ← e.2, pq'] at pq2
    injection pq2 with e2
    exact e2.symm
  subst hq2
  obtain ⟨C, v29, gC, FC⟩ := ev29 eb2 (fun _ _ _ => none)
  have hlb2 : ∀ j, j ∈ idsOf lb2 → j ∈ own ib2 qb2 lb2 := fun j hj => mem_own.2 (.inr (.inr hj))
  obtain ⟨iC, pC, eC1, eC2⟩ := sb2 C _ qb2 .nilS (idsOf lb2) gC (fun j hj => by
    rcases mem_own.1 hj with h | h | h
    · exact .inl (mem_own.2 (.inl h))
    · exact .inl (mem_own.2 (.inr (.inl h)))
    · simp [idsOf] at h) (FC.mono fun j _ hj => by rw [List.mem_singleton] at hj; exact mem_own.2 (.inl hj)) (fun j hj => ⟨.inl (hlb2 j hj), Nat.lt_of_lt_of_le (eb2.low j (hlb2 j hj)) FC.1, fun hj2 => by
    rcases mem_own.1 hj2 with h | h | h
    · exact eb2.2.2.2.2.1 (h ▸ hj)
    · exact eb2.2.2.2.2.2 j h hj
    · simp [idsOf] at h⟩)
  -- what was lost, side by side
  have sl1 : SlP 1 C la ((S k).lost.map .str) := ea.2.2.1.keep fun j hj => by
    rw [pC j (List.mem_append.2 (.inl hj)), FB.2 j (ea.low j (hla j hj)) (fun h => by
      rw [List.mem_singleton] at h
      exact ea.2.2.2.2.1 (h ▸ hj))]
  have sl2 : SlP 1 C lb2 ((S k).lost.map .str) := eb2.2.2.1.keep fun j hj => FC.2 j (eb2.low j (hlb2 j hj)) (fun h => by
    rw [List.mem_singleton] at h
    exact eb2.2.2.2.2.1 (h ▸ hj))
  have m22 := ev22 (fun _ _ _ => none) sl1 sl2 (by have := hw.lost; omega)
  have b1 := evLss (k : Int) 2
  rw [decide_eq_true (by omega)] at b1
  have b2 := evAdd (a := (k : Int)) (b := 1) (by omega)
  rw [show (k : Int) + 1 = ((k + 1 : Nat) : Int) by omega] at b2
  have n1 : evBin .neq (.int .i64 (S k).peer) (.int .i64 (S k).peer) = some (.bool false) := by rw [evNeq, decide_eq_false (by simp)]
  have n2 : evBin .neq (.int .i64 (S k).epoch) (.int .i64 (S k).epoch) = some (.bool false) := by rw [evNeq, decide_eq_false (by simp)]
  have n3 : evBin .neq (.int .i64 ((S k).queue.length : Int)) (.int .i64 ((S k).queue.length : Int)) = some (.bool false) := by rw [evNeq, decide_eq_false (by simp)]
  have b3 := evEql (pick c2 3) 0
  have hr' : A[y]? = some (.row 3 false [.agg [.int .i64 c0, .int .i64 c1, .int .i64 c2]]) := hr
  obtain ⟨k1, hk1⟩ : ∃ k1, k1 = k + 1 := ⟨_, rfl⟩
  rw [← hk1] at b2 ⊢
  rw [rb] at eB2
  by_cases hp : pick c2 3 = 0
  · rw [if_pos hp]
    rw [decide_eq_true hp] at b3
    refine ⟨C, ?_, iC.less fun j hj => List.mem_append.2 (.inr (List.mem_append.2 (.inr hj))), by rw [pC y (List.mem_append.2 (.inr hy)), pB y hy]⟩
    rcases (show k = 0 ∨ k = 1 by omega) with rfl | rfl
    · rw [if_pos rfl] at pq pq'
      subst pq
      subst pq'
      have b1' : evBin .lss (.int .i64 0) (.int .i64 2) = some (.bool true) := rfl
      have b2' : evBin .add (.int .i64 0) (.int .i64 1) = some (.int .i64 (k1 : Int)) := b2
      simp [lp3x2, pH2, evIndexArr, b1', b2', ra, rb, a25, a26, a27, rowb, hlen, n1, n2, n3, hr', m15, b3, v28, eB2, v29, m22, -evBin, -pureH, -evLenSl]
    · rw [if_neg (by omega)] at pq pq'
      subst pq
      subst pq'
      have b1' : evBin .lss (.int .i64 1) (.int .i64 2) = some (.bool true) := rfl
      have b2' : evBin .add (.int .i64 1) (.int .i64 1) = some (.int .i64 (k1 : Int)) := b2
      simp [lp3x2, pH2, evIndexArr, b1', b2', ra, rb, a25, a26, a27, rowb, hlen, n1, n2, n3, hr', m15, b3, v28, eB2, v29, m22, -evBin, -pureH, -evLenSl]
  · rw [if_neg hp]
    rw [decide_eq_false hp] at b3
    refine ⟨A, ?_, h, rfl⟩
    rcases (show k = 0 ∨ k = 1 by omega) with rfl | rfl
    · rw [if_pos rfl] at pq pq'
      subst pq
      subst pq'
      have b1' : evBin .lss (.int .i64 0) (.int .i64 2) = some (.bool true) := rfl
      have b2' : evBin .add (.int .i64 0) (.int .i64 1) = some (.int .i64 (k1 : Int)) := b2
      simp [lp3x2, pH2, evIndexArr, b1', b2', ra, rb, a25, a26, a27, rowb, hlen, n1, n2, n3, hr', m15, b3, -evBin, -pureH, -evLenSl]
    · rw [if_neg (by omega)] at pq pq'
      subst pq
      subst pq'
      have b1' : evBin .lss (.int .i64 1) (.int .i64 2) = some (.bool true) := rfl
      have b2' : evBin .add (.int .i64 1) (.int .i64 1) = some (.int .i64 (k1 : Int)) := b2
      simp [lp3x2, pH2, evIndexArr, b1', b2', ra, rb, a25, a26, a27, rowb, hlen, n1, n2, n3, hr', m15, b3, -evBin, -pureH, -evLenSl]
end Go.Proofs.Ytfidjdlmmcaplaa
/-
  Link: MatchesReference, its small loops.
-/
namespace Go.Proofs.Ytfidjdlmmcaplaa
open Go

theorem loop3c {A : Arena} {P : List Nat} {pa pb y : Nat} {fv v0 v1 v3 v12 : AV} {S : Nat → EndS} {fl : List (Nat × FrS)} (h : Inv A P pa pb fv S S fl) (hy : y ∈ P) {c0 c1 c2 : Int} (hr : A[y]? = some (row3 c0 c1 c2)) (hc2 : inI c2) {n : Nat} (hw : ∀ t, t < 2 → Wf n (S t)) (hn : n ≤ 200) :
    ∃ B S', iter (evC (envOf GW fsM) 300 lp3x2) mask3x2 300 (st3x2 v0 v1 v3 (.ptr pa 0 0) (.ptr pb 0 0) fv v12 (.ptr y 0 0) (.int .i64 0)) A = some (.exit 7 ((st3x2 v0 v1 v3 (.ptr pa 0 0) (.ptr pb 0 0) fv v12 (.ptr y 0 0) (.int .i64 2)).set 39 (.bool false)) B) ∧
      Inv B P pa pb fv S' S' fl ∧ ∀ t, t < 2 → Wf n (S' t) := by
  have wf : ∀ (S : Nat → EndS) (k : Nat), (∀ t, t < 2 → Wf n (S t)) → k < 2 → ∀ t, t < 2 → Wf n ((if pick c2 3 = 0 then upd S k { S k with lost := [] } else S) t) := by
    intro S k hS hk t ht
    split
    · by_cases e : t = k
      · subst e; rw [upd_same]; exact (hS t ht).lostE
      · rw [upd_ne _ _ e]; exact hS t ht
    · exact hS t ht
  obtain ⟨B, r1, i1, y1⟩ := round3c (v0 := v0) (v1 := v1) (v3 := v3) (v12 := v12) h hy hr hc2 (k := 0) (by omega) (hw 0 (by omega)) hn
  have w1 := wf S 0 hw (by omega)
  obtain ⟨S1, hS1⟩ : ∃ S1, S1 = (if pick c2 3 = 0 then upd S 0 { S 0 with lost := [] } else S) := ⟨_, rfl⟩
  rw [← hS1] at i1 w1
  obtain ⟨C, r2, i2, y2⟩ := round3c (v0 := v0) (v1 := v1) (v3 := v3) (v12 := v12) i1 hy (y1.trans hr) hc2 (k := 1) (by omega) (w1 1 (by omega)) hn
  have w2 := wf S1 1 w1 (by omega)
  refine ⟨C, _, ?_, i2, w2⟩
  have r1' : run (envOf GW fsM) 300 [.code lp3x2] (st3x2 v0 v1 v3 (.ptr pa 0 0) (.ptr pb 0 0) fv v12 (.ptr y 0 0) (.int .i64 0)) A = some (.normal (st3x2 v0 v1 v3 (.ptr pa 0 0) (.ptr pb 0 0) fv v12 (.ptr y 0 0) (.int .i64 1)) B) := r1
  have r2' : run (envOf GW fsM) 300 [.code lp3x2] (st3x2 v0 v1 v3 (.ptr pa 0 0) (.ptr pb 0 0) fv v12 (.ptr y 0 0) (.int .i64 1)) B = some (.normal (st3x2 v0 v1 v3 (.ptr pa 0 0) (.ptr pb 0 0) fv v12 (.ptr y 0 0) (.int .i64 2)) C) := r2
  rw [iter_succ, cl3x2, r1']
  simp only
  rw [iter_succ, cl3x2, r2']
  simp only
  rw [iter_succ, cl3x2]
  simp [lp3x2]
theorem loadElem_fr (f : FrS) : loadElem (frA f) 5 0 true 5 = some (frA f) := rfl
set_option maxRecDepth 100000 in
theorem loop3b {A : Arena} {P : List Nat} {pa pb : Nat} {fv v0 v1 v3 v12 v13 m : AV} {SA SB : Nat → EndS} {fl : List (Nat × FrS)} (h : Inv A P pa pb fv SA SB fl) {xs : List FrS} (hm : SlP 5 A m (xs.map frA)) (hmP : ∀ j, j ∈ idsOf m → j ∈ P) (hx : xs.length ≤ 20) (hfl : fl.length ≤ 100000) {s : Nat} (hs : s < 2) :
    ∃ B fv', iter (evC (envOf GW fsM) 300 lp3x1) mask3x1 300 (st3x1 v0 v1 v3 (.ptr pa 0 0) (.ptr pb 0 0) fv v12 v13 (.int .i64 (s : Int)) m (.int .i64 0)) A = some (.exit 5 ((st3x1 v0 v1 v3 (.ptr pa 0 0) (.ptr pb 0 0) fv' v12 v13 (.int .i64 (s : Int)) m (.int .i64 (xs.length : Int))).set 36 (.bool false)) B) ∧
      Inv B P pa pb fv' SA SB (fl ++ xs.map fun f => (1 - s, f)) ∧ ∀ j, j ∈ P → B[j]? = A[j]? := by
  obtain ⟨o, h1, B, fv', rfl, h2⟩ := iter_inv (E := envOf GW fsM) (fuel := 300) (a := lp3x1) (mask := mask3x1)
    (fun κ σ A' => ∃ i fvi, i + κ = xs.length ∧ σ = st3x1 v0 v1 v3 (.ptr pa 0 0) (.ptr pb 0 0) fvi v12 v13 (.int .i64 (s : Int)) m (.int .i64 (i : Int)) ∧ Inv A' P pa pb fvi SA SB (fl ++ (xs.take i).map fun f => (1 - s, f)) ∧ ∀ j, j ∈ P → A'[j]? = A[j]?)
    (fun o => ∃ B fv', o = .exit 5 ((st3x1 v0 v1 v3 (.ptr pa 0 0) (.ptr pb 0 0) fv' v12 v13 (.int .i64 (s : Int)) m (.int .i64 (xs.length : Int))).set 36 (.bool false)) B ∧ Inv B P pa pb fv' SA SB (fl ++ xs.map fun f => (1 - s, f)) ∧ ∀ j, j ∈ P → B[j]? = A[j]?)
    (by
      rintro κ σ A' ⟨i, fvi, hik, rfl, g1, g2⟩
      rw [cl3x1]
      have hm' : SlP 5 A' m (xs.map frA) := hm.keep fun j hj => g2 j (hmP j hj)
      have hl := frLen hm'
      have b1 := evLss (i : Int) (xs.length : Int)
      by_cases hi : i < xs.length
      · rw [decide_eq_true (by omega)] at b1
        obtain ⟨r, x, l⟩ := frAt hm' hi
        have b2 := evSub (a := 1) (b := (s : Int)) (by omega)
        rw [show (1 : Int) - (s : Int) = ((1 - s : Nat) : Int) by omega] at b2
        have b3 := evAdd (a := (i : Int)) (b := 1) (by omega)
        rw [show (i : Int) + 1 = ((i + 1 : Nat) : Int) by omega] at b3
        obtain ⟨f, hf⟩ : ∃ f, f = xs[i] := ⟨_, rfl⟩
        rw [← hf] at l
        obtain ⟨t, ht⟩ : ∃ t, t = 1 - s := ⟨_, rfl⟩
        obtain ⟨gs, gf⟩ := g1.frames
        have hle : (fl ++ (xs.take i).map fun f => (1 - s, f)).length ≤ 100100 := by simp; omega
        obtain ⟨fl', hfl'⟩ : ∃ fl', fl' = fl ++ (xs.take i).map fun f => (1 - s, f) := ⟨_, rfl⟩
        rw [← hfl'] at gs hle
        obtain ⟨B, k1, k2, k3, k4, _⟩ := gs.appendN (bytes := 56) (x := .fs 6 [flA (t, f)]) (ys := [flA (t, f)]) rfl (by simp) (by omega) (by omega) (by simp; omega)
        have hxl : fl'.map flA ++ [flA (t, f)] = (fl' ++ [(t, f)]).map flA := by simp
        rw [hxl] at k1 k2
        obtain ⟨i2, p2⟩ := gf B _ (fl' ++ [(t, f)]) k2 (fun j hj => by simp [idsOf] at hj; omega) k3
        obtain ⟨N, hN⟩ : ∃ N, N = ((fl' ++ [(t, f)]).map flA).length := ⟨_, rfl⟩
        rw [← hN] at k1 i2
        refine .inl ⟨_, B, ?_, κ - 1, by omega, i + 1, .sl A'.length 0 N, by omega, rfl, ?_, fun j hj => (p2 j hj).trans (g2 j hj)⟩
        · rw [← ht] at b2
          have l' : evLoad true 5 A' (.ptr r i 0) = some (.agg [.int .i64 f.fr, .int .i64 f.to, .int .i64 f.seq, .int .i64 f.ack, .str f.body]) := l
          have k1' : evAppendN 6 56 A' fvi (.fs 6 [.agg [.int .i64 (t : Int), .int .i64 f.fr, .int .i64 f.to, .int .i64 f.seq, .int .i64 f.ack, .str f.body]]) = some (.sl A'.length 0 N, B) := k1
          obtain ⟨j1, hj1⟩ : ∃ j1 : Nat, j1 = i + 1 := ⟨_, rfl⟩
          rw [← hj1] at b3 ⊢
          simp [lp3x1, b1, b2, b3, hl, x, l', k1', -evBin, -evLenSl, -evIndexSl, -evLoad]
        · have e : (xs.take (i + 1)).map (fun f => (1 - s, f)) = (xs.take i).map (fun f => (1 - s, f)) ++ [(t, f)] := by
            rw [List.take_succ_eq_append_getElem hi, List.map_append, ← hf, ← ht]
            rfl
          rw [e, ← List.append_assoc, ← hfl']
          exact i2
      · obtain rfl : i = xs.length := by omega
        rw [decide_eq_false (by omega)] at b1
        rw [List.take_length] at g1
        refine .inr ⟨_, ?_, (fun _ _ h => by cases h), A', fvi, rfl, g1, g2⟩
        simp [lp3x1, b1, hl, -evBin, -evLenSl])
    300 xs.length (st3x1 v0 v1 v3 (.ptr pa 0 0) (.ptr pb 0 0) fv v12 v13 (.int .i64 (s : Int)) m (.int .i64 0)) A (by omega) ⟨0, fv, by omega, rfl, by simpa using h, fun _ _ => rfl⟩
  exact ⟨B, fv', h1, h2⟩
end Go.Proofs.Ytfidjdlmmcaplaa
/-
  Link: MatchesReference, messages and ticks.
-/
namespace Go.Proofs.Ytfidjdlmmcaplaa
open Go

def QPA : MC := .seq (.region [⟨none, .mv (.var 12), none⟩, ⟨none, .mv (.var 0), none⟩, ⟨none, .lenSl (.tmp 1), none⟩, ⟨none, .bin .lss (.tmp 0) (.tmp 2), none⟩, ⟨none, .mv (.tmp 3), none⟩, ⟨none, .mv (.var 12), some (.tmp 4, true)⟩, ⟨none, .bin .lss (.tmp 5) (.cst (.int .i64 60)), some (.tmp 4, true)⟩, ⟨some 27, .pick (.tmp 4) (.tmp 6) (.cst (.bool false)), none⟩]) (.cond (.var 27) .skip (.exit 2))
def QR0 : MC := .region [⟨none, .mv (.var 0), none⟩, ⟨none, .mv (.var 12), none⟩, ⟨none, .indexSl 3 (.tmp 0) (.tmp 1), none⟩, ⟨none, .load true 3 (.tmp 2), none⟩, ⟨some 13, .alloc 3 (.agg [.int .i64 0, .int .i64 0, .int .i64 0]), none⟩, ⟨none, .store 3 (.var 13) (.tmp 3), none⟩]
def QR1 : MC := .region [⟨none, .indexArr 3 1 (.var 13) (.cst (.int .i64 1)), none⟩, ⟨none, .load false 1 (.tmp 0), none⟩, ⟨none, .call (.fn 15) [.tmp 1, .cst (.int .i64 2)], none⟩, ⟨some 14, .mv (.tmp 2), none⟩]
def QSW0 : MC := .region [⟨none, .indexArr 3 1 (.var 13) (.cst (.int .i64 0)), none⟩, ⟨none, .load false 1 (.tmp 0), none⟩, ⟨some 28, .call (.fn 15) [.tmp 1, .cst (.int .i64 10)], none⟩]
def QTST1 : MC := .seq (.region [⟨none, .bin .eql (.var 28) (.cst (.int .i64 0)), none⟩, ⟨some 32, .mv (.tmp 0), none⟩]) (.cond (.var 32) .skip (.seq (.region [⟨none, .bin .eql (.var 28) (.cst (.int .i64 1)), none⟩, ⟨some 32, .mv (.tmp 0), none⟩]) (.cond (.var 32) .skip (.region [⟨none, .bin .eql (.var 28) (.cst (.int .i64 2)), none⟩, ⟨some 32, .mv (.tmp 0), none⟩]))))
def QSEND : MC := .seq (.regionD [17, 15, 22, 25, 26] [⟨none, .mv (.var 14), none⟩, ⟨none, .indexArr 2 1 (.var 4) (.tmp 0), none⟩, ⟨none, .load false 1 (.tmp 1), none⟩, ⟨none, .mv (.var 12), none⟩, ⟨none, .call (.fn 17) [.tmp 3], none⟩, ⟨none, .call (.fn 16) [.tmp 2, .tmp 4], none⟩, ⟨none, .mv (.var 14), none⟩, ⟨none, .indexArr 2 1 (.var 5) (.tmp 6), none⟩, ⟨none, .load false 1 (.tmp 7), none⟩, ⟨none, .mv (.var 12), none⟩, ⟨none, .call (.fn 17) [.tmp 9], none⟩, ⟨none, .call (.fn 18) [.tmp 8, .tmp 10], none⟩, ⟨some 33, .bin .neq (.tmp 5) (.tmp 11), none⟩] [(5, 7), (5, 8)]) (.cond (.var 33) (.seq (.region [⟨some 2, .mv (.cst (.bool false)), none⟩]) .ret) .skip)
def QTST2 : MC := .seq (.region [⟨none, .bin .eql (.var 28) (.cst (.int .i64 3)), none⟩, ⟨some 34, .mv (.tmp 0), none⟩]) (.cond (.var 34) .skip (.seq (.region [⟨none, .bin .eql (.var 28) (.cst (.int .i64 4)), none⟩, ⟨some 34, .mv (.tmp 0), none⟩]) (.cond (.var 34) .skip (.region [⟨none, .bin .eql (.var 28) (.cst (.int .i64 5)), none⟩, ⟨some 34, .mv (.tmp 0), none⟩]))))
def QTICK : MC := .seq (.region [⟨none, .mv (.var 14), none⟩, ⟨none, .indexArr 2 1 (.var 4) (.tmp 0), none⟩, ⟨none, .load false 1 (.tmp 1), none⟩, ⟨none, .call (.fn 19) [.tmp 2], none⟩, ⟨some 15, .mv (.tmp 3), none⟩]) (.seq (.region [⟨none, .mv (.var 14), none⟩, ⟨none, .indexArr 2 1 (.var 5) (.tmp 0), none⟩, ⟨none, .load false 1 (.tmp 1), none⟩, ⟨none, .call (.fn 20) [.tmp 2], none⟩, ⟨some 16, .mv (.tmp 3), none⟩]) (.seq (.seq (.region [⟨none, .mv (.var 15), none⟩, ⟨none, .mv (.var 16), none⟩, ⟨none, .call (.fn 21) [.tmp 0, .tmp 1], none⟩, ⟨some 35, .un .not (.tmp 2), none⟩]) (.cond (.var 35) (.seq (.region [⟨some 2, .mv (.cst (.bool false)), none⟩]) .ret) .skip)) (.seq (.region [⟨some 17, .mv (.cst (.int .i64 0)), none⟩]) (.seq (.block 5 (.loop [2, 6, 7, 8, 9, 10, 15, 18, 19, 20, 21, 22, 23, 24, 25, 26, 27, 28, 29, 30, 31, 32, 33, 34, 35, 36, 37, 38, 39, 40] lp3x1)) (.kill [2, 6, 7, 8, 9, 10, 14, 15, 16, 17, 18, 19, 20, 21, 22, 23, 24, 25, 26, 27, 28, 29, 30, 31, 32, 33, 34, 35, 36, 37, 38, 39, 40])))))
def QTST3 : MC := .region [⟨none, .bin .eql (.var 28) (.cst (.int .i64 9)), none⟩, ⟨some 37, .mv (.tmp 0), none⟩]
def QNEW : MC := .seq (.region [⟨none, .mv (.var 14), none⟩, ⟨none, .indexArr 2 1 (.var 5) (.tmp 0), none⟩, ⟨none, .load false 1 (.tmp 1), none⟩, ⟨none, .nilCheck (.tmp 2), none⟩, ⟨none, .fieldAddr 0 (.tmp 3), none⟩, ⟨none, .load false 1 (.tmp 4), none⟩, ⟨none, .indexArr 3 1 (.var 13) (.cst (.int .i64 2)), none⟩, ⟨none, .load false 1 (.tmp 6), none⟩, ⟨none, .call (.fn 15) [.tmp 7, .cst (.int .i64 4)], none⟩, ⟨none, .bin .add (.tmp 5) (.tmp 8), none⟩, ⟨some 18, .mv (.tmp 9), none⟩]) (.seq (.region [⟨none, .mv (.var 18), none⟩, ⟨none, .call (.fn 13) [.tmp 0], none⟩, ⟨none, .mv (.tmp 1), none⟩, ⟨none, .extract (.tmp 2) 0, none⟩, ⟨none, .extract (.tmp 2) 1, none⟩, ⟨some 19, .mv (.tmp 3), none⟩, ⟨some 20, .mv (.tmp 4), none⟩]) (.seq (.region [⟨none, .mv (.var 18), none⟩, ⟨none, .call (.fn 14) [.tmp 0], none⟩, ⟨none, .mv (.tmp 1), none⟩, ⟨none, .extract (.tmp 2) 0, none⟩, ⟨none, .extract (.tmp 2) 1, none⟩, ⟨some 21, .mv (.tmp 3), none⟩, ⟨some 22, .mv (.tmp 4), none⟩]) (.seq (.seq (.region [⟨none, .mv (.var 20), none⟩, ⟨none, .mv (.var 22), none⟩, ⟨some 38, .bin .neq (.tmp 0) (.tmp 1), none⟩]) (.cond (.var 38) (.seq (.region [⟨some 2, .mv (.cst (.bool false)), none⟩]) .ret) .skip)) (.seq (.region [⟨none, .mv (.var 14), none⟩, ⟨none, .mv (.var 19), none⟩, ⟨none, .indexArr 2 1 (.var 4) (.tmp 0), none⟩, ⟨none, .store 1 (.tmp 2) (.tmp 1), none⟩]) (.region [⟨none, .mv (.var 14), none⟩, ⟨none, .mv (.var 21), none⟩, ⟨none, .indexArr 2 1 (.var 5) (.tmp 0), none⟩, ⟨none, .store 1 (.tmp 2) (.tmp 1), none⟩])))))
def QDEF : MC := .seq (.region [⟨none, .mv (.var 14), none⟩, ⟨none, .build [.int .i64 0, .int .i64 0, .int .i64 0, .int .i64 0, .int .i64 0, .str []] [(0, (1, .tmp 0))], none⟩, ⟨some 23, .alloc 6 (.agg [.int .i64 0, .int .i64 0, .int .i64 0, .int .i64 0, .int .i64 0, .str []]), none⟩, ⟨none, .store 6 (.var 23) (.tmp 1), none⟩]) (.seq (.seq (.region [⟨none, .indexArr 3 1 (.var 13) (.cst (.int .i64 0)), none⟩, ⟨none, .load false 1 (.tmp 0), none⟩, ⟨none, .call (.fn 15) [.tmp 1, .cst (.int .i64 10)], none⟩, ⟨none, .bin .eql (.tmp 2) (.cst (.int .i64 8)), none⟩, ⟨none, .mv (.tmp 3), none⟩, ⟨none, .mv (.var 1), some (.tmp 4, true)⟩, ⟨none, .lenSl (.tmp 5), some (.tmp 4, true)⟩, ⟨none, .bin .gtr (.tmp 6) (.cst (.int .i64 0)), some (.tmp 4, true)⟩, ⟨some 29, .pick (.tmp 4) (.tmp 7) (.cst (.bool false)), none⟩]) (.cond (.var 29) (.region [⟨none, .mv (.var 1), none⟩, ⟨none, .indexArr 3 1 (.var 13) (.cst (.int .i64 2)), none⟩, ⟨none, .load false 1 (.tmp 1), none⟩, ⟨none, .mv (.var 1), none⟩, ⟨none, .lenSl (.tmp 3), none⟩, ⟨none, .call (.fn 15) [.tmp 2, .tmp 4], none⟩, ⟨none, .indexSl 5 (.tmp 0) (.tmp 5), none⟩, ⟨none, .load true 5 (.tmp 6), none⟩, ⟨none, .fieldAddr 1 (.var 23), none⟩, ⟨none, .store 5 (.tmp 8) (.tmp 7), none⟩]) (.seq (.region [⟨none, .mv (.var 11), none⟩, ⟨none, .lenSl (.tmp 0), none⟩, ⟨some 30, .bin .gtr (.tmp 1) (.cst (.int .i64 0)), none⟩]) (.cond (.var 30) (.region [⟨none, .mv (.var 11), none⟩, ⟨none, .indexArr 3 1 (.var 13) (.cst (.int .i64 2)), none⟩, ⟨none, .load false 1 (.tmp 1), none⟩, ⟨none, .mv (.var 11), none⟩, ⟨none, .lenSl (.tmp 3), none⟩, ⟨none, .call (.fn 15) [.tmp 2, .tmp 4], none⟩, ⟨none, .indexSl 6 (.tmp 0) (.tmp 5), none⟩, ⟨none, .load true 6 (.tmp 6), none⟩, ⟨none, .store 6 (.var 23) (.tmp 7), none⟩]) .skip)))) (.seq (.regionD [17, 15, 22, 25, 26] [⟨none, .fieldAddr 0 (.var 23), none⟩, ⟨none, .load false 1 (.tmp 0), none⟩, ⟨none, .indexArr 2 1 (.var 4) (.tmp 1), none⟩, ⟨none, .load false 1 (.tmp 2), none⟩, ⟨none, .fieldAddr 1 (.var 23), none⟩, ⟨none, .load true 5 (.tmp 4), none⟩, ⟨none, .call (.fn 23) [.tmp 3, .tmp 5], none⟩, ⟨none, .fieldAddr 0 (.var 23), none⟩, ⟨none, .load false 1 (.tmp 7), none⟩, ⟨none, .indexArr 2 1 (.var 5) (.tmp 8), none⟩, ⟨none, .load false 1 (.tmp 9), none⟩, ⟨none, .fieldAddr 1 (.var 23), none⟩, ⟨none, .load true 5 (.tmp 11), none⟩, ⟨none, .call (.fn 24) [.tmp 10, .tmp 12], none⟩, ⟨none, .call (.fn 22) [.tmp 6, .tmp 13], none⟩, ⟨some 31, .un .not (.tmp 14), none⟩] [(6, 7), (6, 8), (6, 9), (6, 10), (6, 11), (6, 12)]) (.cond (.var 31) (.seq (.region [⟨some 2, .mv (.cst (.bool false)), none⟩]) .ret) .skip)))
def QKILL4 : MC := .kill [2, 6, 7, 8, 9, 10, 14, 15, 16, 17, 18, 19, 20, 21, 22, 23, 24, 25, 26, 27, 28, 29, 30, 31, 32, 33, 34, 35, 36, 37, 38, 39, 40]
def QTAIL : MC := .seq (.region [⟨some 24, .mv (.cst (.int .i64 0)), none⟩]) (.seq (.block 7 (.loop [2, 6, 7, 8, 9, 10, 14, 15, 16, 17, 18, 19, 20, 21, 22, 23, 25, 26, 27, 28, 29, 30, 31, 32, 33, 34, 35, 36, 37, 38, 39, 40] lp3x2)) (.kill [2, 6, 7, 8, 9, 10, 13, 14, 15, 16, 17, 18, 19, 20, 21, 22, 23, 24, 25, 26, 27, 28, 29, 30, 31, 32, 33, 34, 35, 36, 37, 38, 39, 40]))
def QKILLM : MC := .kill [2, 6, 7, 8, 9, 10, 13, 14, 15, 16, 17, 18, 19, 20, 21, 22, 23, 24, 25, 26, 27, 28, 29, 30, 31, 32, 33, 34, 35, 36, 37, 38, 39, 40]
def QINC : MC := .region [⟨none, .mv (.var 12), none⟩, ⟨none, .bin .add (.tmp 0) (.cst (.int .i64 1)), none⟩, ⟨some 12, .mv (.tmp 1), none⟩]
theorem lp3x3_eq : lp3x3 = .seq QPA (.seq (.seq (.block 3 (.seq QR0 (.seq QR1 (.seq (.seq QSW0 (.seq (.block 4 (.seq QTST1 (.cond (.var 32) QSEND (.seq QTST2 (.cond (.var 34) QTICK (.seq QTST3 (.cond (.var 37) QNEW QDEF))))))) QKILL4)) QTAIL)))) QKILLM) QINC) := rfl
abbrev sq (v0 v1 v3 v4 v5 v11 v12 v13 v14 v27 v28 v32 v34 v37 : AV) : List AV := [v0, v1, .undef, v3, v4, v5, .undef, .undef, .undef, .undef, .undef, v11, v12, v13, v14, .undef, .undef, .undef, .undef, .undef, .undef, .undef, .undef, .undef, .undef, .undef, .undef, v27, v28, .undef, .undef, .undef, v32, .undef, v34, .undef, .undef, v37, .undef, .undef, .undef]
theorem upd_wf {n : Nat} {S : Nat → EndS} (hw : ∀ t, t < 2 → Wf n (S t)) {s : Nat} {X : EndS} (hX : Wf (n + 1) X) : ∀ t, t < 2 → Wf (n + 1) (upd S s X t) := by
  intro t ht
  by_cases e : t = s
  · subst e; rw [upd_same]; exact hX
  · rw [upd_ne _ _ e]; exact (hw t ht).mono (by omega)
set_option maxRecDepth 100000 in
set_option maxHeartbeats 16000000 in
theorem qSend {K : List KC} {A : Arena} {P : List Nat} {pa pb : Nat} {fv v0 v1 v3 v13 v27 v28 v32 v34 v37 : AV} {S : Nat → EndS} {fl : List (Nat × FrS)} (h : Inv A P pa pb fv S S fl) {i s n : Nat} (hs : s < 2) (hi : i < 1000) (hw : ∀ t, t < 2 → Wf n (S t)) (hn : n ≤ 200) :
    ∃ B S', run (envOf GW fsM) 300 (.code QSEND :: .blk 4 :: .code QKILL4 :: K) (sq v0 v1 v3 (.ptr pa 0 0) (.ptr pb 0 0) fv (.int .i64 (i : Int)) v13 (.int .i64 (s : Int)) v27 v28 v32 v34 v37) A = run (envOf GW fsM) 300 K (st3x2 v0 v1 v3 (.ptr pa 0 0) (.ptr pb 0 0) fv (.int .i64 (i : Int)) v13 .undef) B ∧
      Inv B P pa pb fv S' S' fl ∧ (∀ t, t < 2 → Wf (n + 1) (S' t)) ∧ ∀ j, j ∈ P → B[j]? = A[j]? := by
  have m17 := M17_eq (n := i) (by omega)
  have hws := hw s hs
  have hnx := hws.next
  obtain ⟨ia, qa, la, ea, ⟨p, q, ra, pq⟩, sa⟩ := h.stepA hs
  obtain ⟨ib, qb, lb, eb, ⟨p', q', rb, pq'⟩, sb⟩ := h.stepB hs
  obtain ⟨T, hT⟩ : ∃ T, T = txt i := ⟨_, rfl⟩
  rw [← hT] at m17
  by_cases hok : sendOk (S s) T
  rotate_left
  · have va := ev16_no ea (fun _ _ _ => none) hok
    have vb := ev18_no eb (fun _ _ _ => none) hok
    have n1 : evBin .neq (.int .i64 260) (.int .i64 260) = some (.bool false) := rfl
    refine ⟨A, S, ?_, h, fun t ht => (hw t ht).mono (by omega), fun _ _ => rfl⟩
    rcases (show s = 0 ∨ s = 1 by omega) with rfl | rfl
    · rw [if_pos rfl] at pq pq'
      subst pq
      subst pq'
      simp [QSEND, QKILL4, pH1, evIndexArr, m17, ra, rb, va, vb, n1, -evBin, -pureH]
    · rw [if_neg (by omega)] at pq pq'
      subst pq
      subst pq'
      simp [QSEND, QKILL4, pH1, evIndexArr, m17, ra, rb, va, vb, n1, -evBin, -pureH]
  · obtain ⟨B, qa', va, ga, Fa, na⟩ := ev16 ea (fun _ _ _ => none) hok (by omega)
    have oa : ∀ j, j ∈ own ia qa' la → j ∈ own ia qa la ∨ A.length ≤ j := fun j hj => by
      rcases mem_own.1 hj with h | h | h
      · exact .inl (mem_own.2 (.inl h))
      · exact .inr (na j h)
      · exact .inl (mem_own.2 (.inr (.inr h)))
    obtain ⟨iB, pB, eB1, eB2⟩ := sa B _ qa' la [] ga oa (Fa.mono fun j _ hj => by
      rw [List.mem_cons] at hj
      exact mem_own.2 (hj.imp (fun h => h) .inl)) (fun j hj => by simp at hj)
    obtain ⟨ib2, qb2, lb2, eb2, ⟨p2, q2, rb2, pq2⟩, sb2⟩ := iB.stepB hs
    obtain ⟨C, qb', vb, gb, Fb, nb⟩ := ev18 eb2 (fun _ _ _ => none) hok (by omega)
    have ob : ∀ j, j ∈ own ib2 qb' lb2 → j ∈ own ib2 qb2 lb2 ∨ B.length ≤ j := fun j hj => by
      rcases mem_own.1 hj with h | h | h
      · exact .inl (mem_own.2 (.inl h))
      · exact .inr (nb j h)
      · exact .inl (mem_own.2 (.inr (.inr h)))
    obtain ⟨iC, pC, eC1, eC2⟩ := sb2 C _ qb' lb2 [] gb ob (Fb.mono fun j _ hj => by
      rw [List.mem_cons] at hj
      exact mem_own.2 (hj.imp (fun h => h) .inl)) (fun j hj => by simp at hj)
    have n1 : evBin .neq (.int .i64 0) (.int .i64 0) = some (.bool false) := rfl
    rw [rb2] at eB2
    refine ⟨C, upd S s (sendS (S s) T), ?_, by simpa using iC, upd_wf hw (hws.send hok), fun j hj => by rw [pC j (by simpa using hj), pB j hj]⟩
    rcases (show s = 0 ∨ s = 1 by omega) with rfl | rfl
    · rw [if_pos rfl] at pq pq2
      subst pq
      subst pq2
      simp [QSEND, QKILL4, pH1, evIndexArr, m17, ra, rb2, va, vb, n1, eB2.symm, -evBin, -pureH]
    · rw [if_neg (by omega)] at pq pq2
      subst pq
      subst pq2
      simp [QSEND, QKILL4, pH1, evIndexArr, m17, ra, rb2, va, vb, n1, eB2.symm, -evBin, -pureH]
set_option maxRecDepth 100000 in
set_option maxHeartbeats 16000000 in
theorem qTick {K : List KC} {A : Arena} {P : List Nat} {pa pb : Nat} {fv v0 v1 v3 v12 v13 v27 v28 v32 v34 v37 : AV} {S : Nat → EndS} {fl : List (Nat × FrS)} (h : Inv A P pa pb fv S S fl) {s n : Nat} (hs : s < 2) (hfl : fl.length ≤ 100000) (hw : ∀ t, t < 2 → Wf n (S t)) (hn : n ≤ 200) :
    ∃ (B : Arena) (fv' : AV) (S' : Nat → EndS) (xs : List FrS), run (envOf GW fsM) 300 (.code QTICK :: .blk 4 :: .code QKILL4 :: K) (sq v0 v1 v3 (.ptr pa 0 0) (.ptr pb 0 0) fv v12 v13 (.int .i64 (s : Int)) v27 v28 v32 v34 v37) A = run (envOf GW fsM) 300 K (st3x2 v0 v1 v3 (.ptr pa 0 0) (.ptr pb 0 0) fv' v12 v13 .undef) B ∧
      Inv B P pa pb fv' S' S' (fl ++ xs.map fun f => (1 - s, f)) ∧ xs.length ≤ 9 ∧ (∀ t, t < 2 → Wf (n + 1) (S' t)) ∧ ∀ j, j ∈ P → B[j]? = A[j]? := by
  have hws := hw s hs
  obtain ⟨ia, qa, la, ea, ⟨p, q, ra, pq⟩, sa⟩ := h.stepA hs
  obtain ⟨B, l, va, ga, sla, na, Fa⟩ := ev19 ea (fun _ _ _ => none) (hws.bd (by omega))
  obtain ⟨iB, pB, eB1, eB2⟩ := sa B _ qa la (idsOf l) ga (fun j hj => .inl hj) Fa (fun j hj => ⟨.inr (na j hj), sla.low j hj, fun h2 => by
    have := ea.low j h2
    have := na j hj
    omega⟩)
  obtain ⟨ib, qb, lb, eb, ⟨p', q', rb, pq'⟩, sb⟩ := iB.stepB hs
  obtain ⟨C, m, vb, gb, slb, nb, Fb⟩ := ev20 eb (fun _ _ _ => none) (hws.bd (by omega)) hws.heard
  obtain ⟨iC, pC, eC1, eC2⟩ := sb C _ qb lb (idsOf m) gb (fun j hj => .inl hj) Fb (fun j hj => ⟨.inr (nb j hj), slb.low j hj, fun h2 => by
    have := eb.low j h2
    have := nb j hj
    omega⟩)
  obtain ⟨xs, hxs⟩ : ∃ xs, xs = (tickS (S s)).2 := ⟨_, rfl⟩
  rw [← hxs] at sla slb
  have hxl : xs.length ≤ 9 := by
    rw [hxs]
    unfold tickS
    have h1 : (tick1 (S s)).2.length ≤ 8 := by
      rw [tick1_eq]
      unfold p1
      split
      · exact outO_len _
      · simp
    split
    · simp; omega
    · omega
  have slaC : SlP 5 C l (xs.map frA) := sla.keep fun j hj => pC j (List.mem_append.2 (.inl hj))
  have m21 := ev21 (fun _ _ _ => none) slaC slb (by omega)
  obtain ⟨D, fv', lp, iD, pD⟩ := loop3b (v0 := v0) (v1 := v1) (v3 := v3) (v12 := v12) (v13 := v13) iC slb (fun j hj => List.mem_append.2 (.inl hj)) (by omega) hfl hs
  have inP : ∀ j, j ∈ P → j ∈ idsOf m ++ (idsOf l ++ P) := fun j hj => List.mem_append.2 (.inr (List.mem_append.2 (.inr hj)))
  refine ⟨D, fv', upd S s (tickS (S s)).1, xs, ?_, iD.less inP, hxl, upd_wf hw hws.tick, fun j hj => by rw [pD j (inP j hj), pC j (List.mem_append.2 (.inr hj)), pB j hj]⟩
  rcases (show s = 0 ∨ s = 1 by omega) with rfl | rfl
  · rw [if_pos rfl] at pq pq'
    subst pq
    subst pq'
    have lp' := lp
    simp only [Int.natCast_zero, Int.cast_ofNat_Int] at lp'
    simp [QTICK, QKILL4, evIndexArr, ra, rb, va, vb, m21, go3x1 lp', -evBin, -pureH]
  · rw [if_neg (by omega)] at pq pq'
    subst pq
    subst pq'
    have lp' := lp
    simp only [Int.natCast_one] at lp'
    simp [QTICK, QKILL4, evIndexArr, ra, rb, va, vb, m21, go3x1 lp', -evBin, -pureH]
end Go.Proofs.Ytfidjdlmmcaplaa
/-
  Link: the law Former, run.
-/
namespace Go.Proofs.Ytfidjdlmmcaplaa
open Go

/-- two ends that have met, n messages, a tick -/
def fmS (n : Nat) : EndS := { stN metS n with ticks := 2, queue := ((msgs n).take 8).map (fun q => { q with at_ := 2 }) ++ (msgs n).drop 8, owes := false }
theorem fmS_len (n : Nat) : (fmS n).queue.length = n := by
  unfold fmS
  have := msgs_len n
  simp only [List.length_append, List.length_map, List.length_take, List.length_drop]
  omega
theorem tick_met (n : Nat) : (tickS (stN metS n)).1 = fmS n := by
  have h1 : ∀ q ∈ (msgs n).take 8, sentQ 2 true q = { q with at_ := 2 } := by
    intro q hq
    have := msgs_at q (List.mem_of_mem_take hq)
    unfold sentQ dueS
    rw [this]
    rfl
  have h2 : tickS (stN metS n) = tick1 (stN metS n) := by
    unfold tickS
    rw [if_neg (by rintro ⟨h, _⟩; cases h)]
  rw [h2]
  unfold tick1
  rw [if_pos (show (stN metS n).peer > 0 from show (5 : Int) > 0 by omega)]
  unfold fmS
  have e : ((stN metS n).queue.take 8).map (sentQ ((stN metS n).ticks + 1) (stN metS n).heard) = ((msgs n).take 8).map (fun q => { q with at_ := 2 }) := List.map_congr_left h1
  rw [e]
  rfl
theorem tick_fmS (n : Nat) : (tickS (fmS n)).2 = [] := by
  have h2 : tickS (fmS n) = tick1 (fmS n) := by
    unfold tickS
    rw [if_neg (by rintro ⟨h, _⟩; cases h)]
  rw [h2]
  unfold tick1
  rw [if_pos (show (fmS n).peer > 0 from show (5 : Int) > 0 by omega)]
  simp only
  have : outS (fmS n) 3 = [] := by
    unfold outS
    rw [List.map_eq_nil_iff, List.filter_eq_nil_iff]
    intro q hq
    have h3 : (fmS n).queue.take 8 = ((msgs n).take 8).map (fun q => { q with at_ := 2 }) := by
      have hl := msgs_len n
      unfold fmS
      simp only
      by_cases h : 8 ≤ n
      · rw [List.take_append_of_le_length (by simp; omega), List.take_of_length_le (by simp; omega)]
      · rw [List.drop_of_length_le (by omega), List.append_nil, List.take_of_length_le (by simp; omega)]
    rw [h3] at hq
    obtain ⟨p, _, rfl⟩ := List.mem_map.1 hq
    exact fun h => by cases h
  unfold outO
  rw [show (fmS n).ticks + 1 = 3 from rfl, this]
  rfl
theorem fmS_bd (n : Nat) : Bd (fmS n) := by
  refine ⟨show (0 : Int) ≤ 2 ∧ (2 : Int) ≤ 1152921504606846975 by omega, fun q hq => ?_, show (0 : Int) ≤ 1 ∧ (1 : Int) ≤ 1152921504606846975 by omega⟩
  unfold fmS at hq
  rcases List.mem_append.1 hq with hq | hq
  · obtain ⟨p, _, rfl⟩ := List.mem_map.1 hq
    simp
  · have := msgs_at q (List.mem_of_mem_drop hq)
    omega
theorem met_bd (n : Nat) : Bd (stN metS n) := by
  refine ⟨show (0 : Int) ≤ 1 ∧ (1 : Int) ≤ 1152921504606846975 by omega, fun q hq => ?_, show (0 : Int) ≤ 1 ∧ (1 : Int) ≤ 1152921504606846975 by omega⟩
  have := msgs_at q hq
  omega
set_option maxRecDepth 100000 in
theorem loop10 {A : Arena} {v0 v2 v4 : AV} {a : Nat} {qv lv : AV} (hE : EndAt A a metS qv lv) (b : Nat) (hb : ∀ j, j ∈ own a qv lv → b ≤ j) (hbA : b ≤ A.length) {m : Nat} (hm : m ≤ 20) (h0 : v0 = .int .i64 (m : Int)) :
    ∃ B qv', iter (evC (envOf GW fsL) 300 lp10x0) mask10x0 300 (st10x0 v0 v2 v4 (.ptr a 0 0) (.int .i64 0)) A = some (.exit 0 ((st10x0 v0 v2 v4 (.ptr a 0 0) (.int .i64 (m : Int))).set 10 (.bool false)) B) ∧
      EndAt B a (stN metS m) qv' lv ∧ (∀ j, j ∈ own a qv' lv → b ≤ j) ∧ A.length ≤ B.length ∧ ∀ j, j < b → B[j]? = A[j]? := by
  obtain ⟨o, h1, B, qv', rfl, h2⟩ := iter_inv (E := envOf GW fsL) (fuel := 300) (a := lp10x0) (mask := mask10x0)
    (fun κ σ A' => ∃ i qv', i + κ = m ∧ σ = st10x0 v0 v2 v4 (.ptr a 0 0) (.int .i64 (i : Int)) ∧ EndAt A' a (stN metS i) qv' lv ∧ (∀ j, j ∈ own a qv' lv → b ≤ j) ∧ A.length ≤ A'.length ∧ ∀ j, j < b → A'[j]? = A[j]?)
    (fun o => ∃ B qv', o = .exit 0 ((st10x0 v0 v2 v4 (.ptr a 0 0) (.int .i64 (m : Int))).set 10 (.bool false)) B ∧ EndAt B a (stN metS m) qv' lv ∧ (∀ j, j ∈ own a qv' lv → b ≤ j) ∧ A.length ≤ B.length ∧ ∀ j, j < b → B[j]? = A[j]?)
    (by
      rintro κ σ A' ⟨i, qv', hik, rfl, g1, g2, g3, g4⟩
      rw [cl10x0]
      have b1 := evLss (i : Int) (m : Int)
      by_cases hi : i < m
      · obtain ⟨C, q2, c1, c2, c3, c4⟩ := send_step g1 (by omega) (fun _ _ _ => none)
        have m17 := M17_eq (n := i + 1) (by omega)
        have b2 := evAdd (a := 1) (b := (i : Int)) (by omega)
        have b3 := evAdd (a := (i : Int)) (b := 1) (by omega)
        rw [show (1 : Int) + (i : Int) = ((i + 1 : Nat) : Int) by omega] at b2
        rw [show (i : Int) + 1 = ((i + 1 : Nat) : Int) by omega] at b3
        rw [decide_eq_true (by omega)] at b1
        obtain ⟨i1, hi1⟩ : ∃ i1, i1 = i + 1 := ⟨_, rfl⟩
        obtain ⟨T, hT⟩ : ∃ T, T = txt (i + 1) := ⟨_, rfl⟩
        rw [← hi1] at b2 b3
        rw [← hT] at m17 c1
        rw [← hi1] at m17
        refine .inl ⟨st10x0 v0 v2 v4 (.ptr a 0 0) (.int .i64 (i1 : Int)), C, ?_, κ - 1, by omega, i1, q2, by omega, rfl, by rw [hi1]; exact c2, fun j hj => (c4 j hj).elim (g2 j) (fun h => by omega), Nat.le_trans g3 c3.1, fun j hj => ?_⟩
        · subst h0
          simp [lp10x0, b1, b2, b3, m17, c1, -evBin]
        · rw [c3.2 j (by omega) (fun h => by have := g2 j h; omega)]
          exact g4 j hj
      · obtain rfl : i = m := by omega
        rw [decide_eq_false (by omega)] at b1
        subst h0
        refine .inr ⟨_, ?_, (fun _ _ h => by cases h), A', qv', rfl, g1, g2, g3, g4⟩
        simp [lp10x0, b1, -evBin])
    300 m (st10x0 v0 v2 v4 (.ptr a 0 0) (.int .i64 0)) A (by omega) ⟨0, qv, by omega, rfl, by rw [stN_zero rfl rfl]; exact hE, hb, Nat.le_refl _, fun _ _ => rfl⟩
  exact ⟨B, qv', h1, h2⟩
set_option maxRecDepth 100000 in
set_option maxHeartbeats 8000000 in
theorem ev10 {c : Int} (hc : inI c) (f : FrS) (hf : inI f.fr) : evP (envOf GW fsL) 300 mf10 1 [.int .i64 c, frA f] = some (.bool true) := by
  obtain ⟨fr, to, seq, ack, body⟩ := f
  simp only at hf
  have pm := pick_range c 11 (by omega)
  have m1 := M15_eq hc (show (0 : Int) < 11 by omega)
  obtain ⟨m, hm⟩ : ∃ m : Nat, (m : Int) = pick c 11 := ⟨(pick c 11).toNat, by omega⟩
  rw [← hm] at m1 pm
  obtain ⟨A0, hA0⟩ : ∃ A0, A0 = [Ent.row 5 false [frA ⟨fr, to, seq, ack, body⟩]] := ⟨_, rfl⟩
  have bx : evBox 5 (frA ⟨fr, to, seq, ack, body⟩) [] = some (.ptr 0 0 0, A0) := by rw [hA0]; simp [evBox, frA]
  obtain ⟨A1, b, q1, l1, v1, g1, i1, F1⟩ := ev41 (fun _ _ _ => none) A0
  have h0l : A0.length = 1 := by rw [hA0]; rfl
  rw [h0l] at v1 g1 i1
  obtain ⟨A2, q2, lp, g2, i2, n2, k2⟩ := loop10 (v0 := .int .i64 (m : Int)) (v2 := .ptr 0 0 0) (v4 := .bool true) g1 1 i1 (by have := F1.1; omega) (m := m) (by omega) rfl
  have r2 : A2[0]? = some (.row 5 false [.agg [.int .i64 fr, .int .i64 to, .int .i64 seq, .int .i64 ack, .str body]]) := by
    rw [k2 0 (by omega), F1.2 0 (by omega) (by simp), hA0]
    rfl
  obtain ⟨A3, o3, v3, g3, s3, i3, F3⟩ := ev19 g2 (fun _ _ _ => none) (met_bd m)
  rw [tick_met] at g3
  have r3 : A3[0]? = some (.row 5 false [.agg [.int .i64 fr, .int .i64 to, .int .i64 seq, .int .i64 ack, .str body]]) := by
    rw [F3.2 0 (by have := F1.1; omega) (fun h => by have := i2 0 h; omega)]
    exact r2
  obtain ⟨bd, hbd⟩ : ∃ bd, bd = cut 1100 body := ⟨_, rfl⟩
  have sc := slice_cut 1100 body
  have mc := min_cut1100 body
  rw [← hbd] at sc
  obtain ⟨n3, hn3⟩ : ∃ n3, n3 = cutN 1100 body := ⟨_, rfl⟩
  rw [← hn3] at sc mc
  obtain ⟨R4, hR4⟩ : ∃ R, R = Ent.row 5 false [.agg [.int .i64 fr, .int .i64 to, .int .i64 seq, .int .i64 ack, .str bd]] := ⟨_, rfl⟩
  obtain ⟨A4, hA4⟩ : ∃ A4, A4 = A3.set 0 R4 := ⟨_, rfl⟩
  have h03 : 0 < A3.length := (List.getElem?_eq_some_iff.1 r3).1
  have r4 : A4[0]? = some (.row 5 false [.agg [.int .i64 fr, .int .i64 to, .int .i64 seq, .int .i64 ack, .str bd]]) := by
    rw [hA4, List.getElem?_set_self h03, hR4]
  have st4 : evStore 1 A3 (.ptr 0 0 4) (.str bd) = some A4 := by
    rw [hA4, hR4]
    simp [evStore, r3]
  have g4 : EndAt A4 1 (fmS m) q2 l1 := g3.keep fun j hj => by
    have := i2 j hj
    rw [hA4, List.getElem?_set_ne (by omega)]
  have mV := M34_eq ⟨fr, to, seq, ack, bd⟩
  -- the frame that is received
  have hrec : ∀ (g : FrS) (A5 : Arena), EndAt A5 1 (fmS m) q2 l1 → ¬ takes (fmS m) g →
      ∃ A6 o6 A7 A8 o8 l7, H23 (fun _ _ _ => none) [.ptr 1 0 0, frA g] A5 = some (o6, A6) ∧ evLenSl o6 = some (.int .i64 0) ∧ pureH 4 M25 (fun _ _ _ => none) [.ptr 1 0 0] A6 = some (.int .i64 5, A6) ∧ H27 (fun _ _ _ => none) [.ptr 1 0 0] A6 = some (.int .i64 (m : Int), A6) ∧
        H28 (fun _ _ _ => none) [.ptr 1 0 0] A6 = some (l7, A7) ∧ evLenSl l7 = some (.int .i64 0) ∧ H19 (fun _ _ _ => none) [.ptr 1 0 0] A7 = some (o8, A8) ∧ evLenSl o8 = some (.int .i64 0) := by
    intro g A5 g5 hg
    obtain ⟨A6, o6, v6, q6, l6, g6, s6, i6, j6, F6⟩ := ev23 (fun _ _ _ => none) g5 (by unfold fmS stN metS; simp) (by rw [fmS_len]; omega) (by unfold fmS stN metS; simp) g
    have e6 : receiveS (fmS m) g = (fmS m, []) := by unfold receiveS; rw [if_neg hg]
    rw [e6] at g6 s6
    obtain ⟨A7, v7, g7, F7⟩ := ev28 g6 (fun _ _ _ => none)
    obtain ⟨A8, o8, v8, g8, s8, i8, F8⟩ := ev19 g7 (fun _ _ _ => none) (fmS_bd m)
    have e8 : (tickS { fmS m with lost := [] }).2 = [] := tick_fmS m
    rw [e8] at s8
    have p6 := ev25 g6 (fun _ _ _ => none)
    have w6 := ev27 g6 (fun _ _ _ => none)
    rw [fmS_len] at w6
    exact ⟨A6, o6, A7, A8, o8, _, v6, s6.len, p6, w6, v7, g6.2.2.1.len, v8, s8.len⟩
  have rc := fun d0 d1 d2 d3 d4 d5 d6 => go10x0 (E := envOf GW fsL) (fuel := 300) (k := []) (d1 := d0) (d3 := d1) (d6 := d2) (d8 := d3) (d9 := d4) (d10 := d5) (d11 := d6) lp
  clear rc
  have e00 : evBin .eql (.int .i64 0) (.int .i64 0) = some (.bool true) := rfl
  have e55 : evBin .eql (.int .i64 5) (.int .i64 5) = some (.bool true) := rfl
  have emm : evBin .eql (.int .i64 (m : Int)) (.int .i64 (m : Int)) = some (.bool true) := by rw [evEql, decide_eq_true rfl]
  have b5 := evGeq fr 5
  have b6 := evEql to 0
  have b7 := evEql to 1
  rw [evP_run _ _ rfl]
  by_cases hv : okF ⟨fr, to, seq, ack, bd⟩ ∧ fr ≥ 5 ∧ (to = 0 ∨ to = 1)
  · have pf := pick_range fr 4 (by omega)
    have m2 := M15_eq hf (show (0 : Int) < 4 by omega)
    obtain ⟨z, hz⟩ : ∃ z, z = pick fr 4 := ⟨_, rfl⟩
    rw [← hz] at pf m2
    have b8 := evAdd (a := 1) (b := z) (by omega)
    obtain ⟨y, hy⟩ : ∃ y, y = 1 + z := ⟨_, rfl⟩
    rw [← hy] at b8
    obtain ⟨R5, hR5⟩ : ∃ R, R = Ent.row 5 false [.agg [.int .i64 y, .int .i64 to, .int .i64 seq, .int .i64 ack, .str bd]] := ⟨_, rfl⟩
    obtain ⟨A5, hA5⟩ : ∃ A5, A5 = A4.set 0 R5 := ⟨_, rfl⟩
    have h04 : 0 < A4.length := (List.getElem?_eq_some_iff.1 r4).1
    have r5 : A5[0]? = some (.row 5 false [.agg [.int .i64 y, .int .i64 to, .int .i64 seq, .int .i64 ack, .str bd]]) := by
      rw [hA5, List.getElem?_set_self h04, hR5]
    have st5 : evStore 1 A4 (.ptr 0 0 0) (.int .i64 y) = some A5 := by
      rw [hA5, hR5]
      simp [evStore, r4]
    have g5 : EndAt A5 1 (fmS m) q2 l1 := g4.keep fun j hj => by
      have := i2 j hj
      rw [hA5, List.getElem?_set_ne (by omega)]
    obtain ⟨A6, o6, A7, A8, o8, l7, w1, w2, w3, w4, w5, w6, w7, w8⟩ := hrec ⟨y, to, seq, ack, bd⟩ A5 g5 (by
      rintro ⟨_, _, h⟩
      have : (5 : Int) ≤ y := h
      omega)
    rw [decide_eq_true hv.1] at mV
    rw [decide_eq_true hv.2.1] at b5
    have e1 : frA ⟨y, to, seq, ack, bd⟩ = .agg [.int .i64 y, .int .i64 to, .int .i64 seq, .int .i64 ack, .str bd] := rfl
    have e2 : frA ⟨fr, to, seq, ack, bd⟩ = .agg [.int .i64 fr, .int .i64 to, .int .i64 seq, .int .i64 ack, .str bd] := rfl
    have e3 : frA ⟨fr, to, seq, ack, body⟩ = .agg [.int .i64 fr, .int .i64 to, .int .i64 seq, .int .i64 ack, .str body] := rfl
    rw [e1] at w1
    rw [e2] at mV
    rw [e3] at bx ⊢
    rcases hv.2.2 with h | h
    · rw [decide_eq_true h] at b6
      simp [mf10, e00, e55, emm, pH0, pH2, pHf, bx, v1, m1, go10x0 lp, v3, r3, mc, sc, st4, r4, mV, b5, b6, m2, b8, st5, r5, w1, w2, w3, w4, w5, w6, w7, w8, -evBox, -evStore, -evBin, -evMin2, -evSliceStr, -evLenSl, -pureH]
    · rw [decide_eq_true h] at b7
      rw [decide_eq_false (by omega)] at b6
      simp [mf10, e00, e55, emm, pH0, pH2, pHf, bx, v1, m1, go10x0 lp, v3, r3, mc, sc, st4, r4, mV, b5, b6, b7, m2, b8, st5, r5, w1, w2, w3, w4, w5, w6, w7, w8, -evBox, -evStore, -evBin, -evMin2, -evSliceStr, -evLenSl, -pureH]
  · obtain ⟨A6, o6, A7, A8, o8, l7, w1, w2, w3, w4, w5, w6, w7, w8⟩ := hrec ⟨fr, to, seq, ack, bd⟩ A4 g4 (by
      rintro ⟨h1, h2, h3⟩
      exact hv ⟨h1, h3, h2⟩)
    have e2 : frA ⟨fr, to, seq, ack, bd⟩ = .agg [.int .i64 fr, .int .i64 to, .int .i64 seq, .int .i64 ack, .str bd] := rfl
    have e3 : frA ⟨fr, to, seq, ack, body⟩ = .agg [.int .i64 fr, .int .i64 to, .int .i64 seq, .int .i64 ack, .str body] := rfl
    rw [e2] at mV w1
    rw [e3] at bx ⊢
    obtain ⟨d1, hd1⟩ : ∃ d, d = decide (okF ⟨fr, to, seq, ack, bd⟩) := ⟨_, rfl⟩
    obtain ⟨d2, hd2⟩ : ∃ d, d = decide (fr ≥ 5) := ⟨_, rfl⟩
    obtain ⟨d3, hd3⟩ : ∃ d, d = decide (to = 0) := ⟨_, rfl⟩
    obtain ⟨d4, hd4⟩ : ∃ d, d = decide (to = 1) := ⟨_, rfl⟩
    have hd : d1 = true → d2 = true → d3 = false ∧ d4 = false := by
      intro h1 h2
      rw [hd1] at h1
      rw [hd2] at h2
      have h3 := of_decide_eq_true h1
      have h4 := of_decide_eq_true h2
      rw [hd3, hd4]
      exact ⟨decide_eq_false fun h => hv ⟨h3, h4, .inl h⟩, decide_eq_false fun h => hv ⟨h3, h4, .inr h⟩⟩
    rw [← hd1] at mV
    rw [← hd2] at b5
    rw [← hd3] at b6
    rw [← hd4] at b7
    cases d1 with
    | false => simp [mf10, e00, e55, emm, pH0, pH2, pHf, bx, v1, m1, go10x0 lp, v3, r3, mc, sc, st4, r4, mV, w1, w2, w3, w4, w5, w6, w7, w8, -evBox, -evStore, -evBin, -evMin2, -evSliceStr, -evLenSl, -pureH]
    | true =>
      cases d2 with
      | false => simp [mf10, e00, e55, emm, pH0, pH2, pHf, bx, v1, m1, go10x0 lp, v3, r3, mc, sc, st4, r4, mV, b5, w1, w2, w3, w4, w5, w6, w7, w8, -evBox, -evStore, -evBin, -evMin2, -evSliceStr, -evLenSl, -pureH]
      | true =>
        obtain ⟨rfl, rfl⟩ := hd rfl rfl
        simp [mf10, e00, e55, emm, pH0, pH2, pHf, bx, v1, m1, go10x0 lp, v3, r3, mc, sc, st4, r4, mV, b5, b6, b7, w1, w2, w3, w4, w5, w6, w7, w8, -evBox, -evStore, -evBin, -evMin2, -evSliceStr, -evLenSl, -pureH]
end Go.Proofs.Ytfidjdlmmcaplaa
/-
  Link: the law Refuses, run.
-/
namespace Go.Proofs.Ytfidjdlmmcaplaa
open Go

/-- k zero bytes -/
def zer (k : Nat) : Bytes := List.replicate k 0
theorem zer_len (k : Nat) : (zer k).length = k := by simp [zer]
theorem u8s_zer : ∀ k : Nat, u8s (List.replicate k (.int .u8 0)) = some (List.replicate k 0)
  | 0 => rfl
  | k + 1 => by
    rw [List.replicate_succ, u8s, u8s_zer k]
    rfl
theorem mk_zer (A : Arena) (k : Nat) (hk : k ≤ 1000000) : evMake 1 1 (.int .u8 0) A (.int .i64 (k : Int)) (.int .i64 (k : Int)) = some (.sl A.length 0 k, A ++ [.row 1 false (List.replicate k (.int .u8 0))]) := by
  unfold evMake
  simp only
  rw [if_pos ⟨by omega, by omega, by omega, by omega, rfl, rfl, by omega⟩, Int.toNat_natCast]
theorem str_zer (A : Arena) (k : Nat) : evToStr (A ++ [.row 1 false (List.replicate k (.int .u8 0))]) (.sl A.length 0 k) = some (.str (zer k)) := by
  have h1 : srcElems 1 (A ++ [.row 1 false (List.replicate k (.int .u8 0))]) (.sl A.length 0 k) = some (List.replicate k (.int .u8 0)) := by
    simp [srcElems]
  simp only [evToStr, h1, u8s_zer, Option.map_some, zer, List.map_replicate]
  rfl
def zS (n : Nat) : EndS := { newS 1 with queue := (List.range n).map fun (i : Nat) => (⟨1 + (i : Int), zer 1024, 0⟩ : QE), next := 1 + n }
theorem zS_len (n : Nat) : (zS n).queue.length = n := by simp [zS]
theorem zS_zero : zS 0 = newS 1 := rfl
theorem zS_succ (n : Nat) : sendS (zS n) (zer 1024) = zS (n + 1) := by
  unfold sendS zS
  simp only [List.range_succ, List.map_append, List.map_cons, List.map_nil]
  congr 1
set_option maxRecDepth 100000 in
theorem loop11 {A : Arena} {v3 v5 : AV} {a : Nat} (hE : EndAt A a (newS 1) .nilS .nilS) (b : Nat) (hba : b ≤ a) :
    ∃ B qv', iter (evC (envOf GW fsL) 300 lp11x0) mask11x0 300 (st11x0 v3 v5 (.ptr a 0 0) (.int .i64 0)) A = some (.exit 0 ((st11x0 v3 v5 (.ptr a 0 0) (.int .i64 64)).set 15 (.bool false)) B) ∧
      EndAt B a (zS 64) qv' .nilS ∧ A.length ≤ B.length ∧ ∀ j, j < b → B[j]? = A[j]? := by
  have haA : a < A.length := hE.low a (mem_own.2 (.inl rfl))
  obtain ⟨o, h1, B, qv', rfl, h2⟩ := iter_inv (E := envOf GW fsL) (fuel := 300) (a := lp11x0) (mask := mask11x0)
    (fun κ σ A' => ∃ i qv', i + κ = 64 ∧ σ = st11x0 v3 v5 (.ptr a 0 0) (.int .i64 (i : Int)) ∧ EndAt A' a (zS i) qv' .nilS ∧ (∀ j, j ∈ own a qv' .nilS → b ≤ j) ∧ A.length ≤ A'.length ∧ ∀ j, j < b → A'[j]? = A[j]?)
    (fun o => ∃ B qv', o = .exit 0 ((st11x0 v3 v5 (.ptr a 0 0) (.int .i64 64)).set 15 (.bool false)) B ∧ EndAt B a (zS 64) qv' .nilS ∧ A.length ≤ B.length ∧ ∀ j, j < b → B[j]? = A[j]?)
    (by
      rintro κ σ A' ⟨i, qv', hik, rfl, g1, g2, g3, g4⟩
      rw [cl11x0]
      have b1 := evLss (i : Int) 64
      by_cases hi : i < 64
      · have mk := mk_zer A' 1024 (by omega)
        have sz := str_zer A' 1024
        obtain ⟨R, hR⟩ : ∃ R, R = Ent.row 1 false (List.replicate 1024 (.int .u8 0)) := ⟨_, rfl⟩
        rw [← hR] at mk sz
        obtain ⟨A2, hA2⟩ : ∃ A2, A2 = A' ++ [R] := ⟨_, rfl⟩
        rw [← hA2] at mk sz
        have hF : Fr A' A2 [] := by rw [hA2]; exact Fr.app _ _ _
        have g1' := g1.beside hF (fun j _ => by simp)
        obtain ⟨C, q2, c1, c2, c3, c4⟩ := ev16 g1' (fun _ _ _ => none) (b := zer 1024) ⟨by rw [zer_len]; omega, by rw [zS_len]; omega⟩ (by simp [zS]; omega)
        rw [zS_succ] at c2
        have b3 := evAdd (a := (i : Int)) (b := 1) (by omega)
        rw [show (i : Int) + 1 = ((i + 1 : Nat) : Int) by omega] at b3
        rw [decide_eq_true (by omega)] at b1
        obtain ⟨i1, hi1⟩ : ∃ i1, i1 = i + 1 := ⟨_, rfl⟩
        obtain ⟨T, hT⟩ : ∃ T, T = zer 1024 := ⟨_, rfl⟩
        rw [← hi1] at b3
        rw [← hT] at sz c1
        refine .inl ⟨st11x0 v3 v5 (.ptr a 0 0) (.int .i64 (i1 : Int)), C, ?_, κ - 1, by omega, i1, q2, by omega, rfl, by rw [hi1]; exact c2, fun j hj => ?_, Nat.le_trans g3 (Nat.le_trans hF.1 c3.1), fun j hj => ?_⟩
        · have mk' : evMake 1 1 (.int .u8 0) A' (.int .i64 1024) (.int .i64 1024) = some (.sl A'.length 0 1024, A2) := mk
          have n1 : evBin .neq (.int .i64 0) (.int .i64 0) = some (.bool false) := rfl
          simp [lp11x0, b1, b3, mk', sz, c1, n1, -evBin, -evMake]
        · rcases mem_own.1 hj with h | h | h
          · omega
          · have := c4 j h
            have := hF.1
            omega
          · simp [idsOf] at h
        · rw [c3.2 j (by have := hF.1; omega) (fun h => by
            rw [List.mem_cons] at h
            have := g2 j (mem_own.2 (h.imp (fun h => h) .inl))
            omega), hF.2 j (by omega) (by simp)]
          exact g4 j hj
      · obtain rfl : i = 64 := by omega
        rw [decide_eq_false (by omega)] at b1
        refine .inr ⟨_, ?_, (fun _ _ h => by cases h), A', qv', rfl, g1, g3, g4⟩
        have b1' : evBin .lss (.int .i64 64) (.int .i64 64) = some (.bool false) := b1
        simp [lp11x0, b1', -evBin])
    300 64 (st11x0 v3 v5 (.ptr a 0 0) (.int .i64 0)) A (by omega) ⟨0, .nilS, by omega, rfl, by rw [zS_zero]; exact hE, fun j hj => by rw [own_nil] at hj; simp at hj; omega, Nat.le_refl _, fun _ _ => rfl⟩
  exact ⟨B, qv', h1, h2⟩
theorem nil16 (h : Handler) (A : Arena) (b : Bytes) : H16 h [.nilP, .str b] A = some (.int .i64 1, A) := by
  unfold H16
  rw [evFun_run _ _ rfl]
  simp [mf16]
theorem nil19 (h : Handler) (A : Arena) : H19 h [.nilP] A = some (.nilS, A) := by
  unfold H19
  rw [evFun_run _ _ rfl]
  simp [mf19]
theorem nil23 (h : Handler) (A : Arena) (f : FrS) : H23 h [.nilP, frA f] A = some (.nilS, A ++ [.row 5 false [frA f]]) := by
  unfold H23
  rw [evFun_run _ _ rfl]
  simp [mf23, frA]
theorem nil25 (h : Handler) (A : Arena) : pureH 4 M25 h [.nilP] A = some (.int .i64 0, A) := by
  have m : M25 [.nilP] = some (.int .i64 0) := by
    unfold M25
    rw [evP_run _ _ rfl]
    simp [mf25]
  simp [m]
theorem nil26 (h : Handler) (A : Arena) : pureH 4 M26 h [.nilP] A = some (.int .i64 0, A) := by
  have m : M26 [.nilP] = some (.int .i64 0) := by
    unfold M26
    rw [evP_run _ _ rfl]
    simp [mf26]
  simp [m]
theorem nil27 (h : Handler) (A : Arena) : H27 h [.nilP] A = some (.int .i64 0, A) := by
  unfold H27
  rw [evFun_run _ _ rfl]
  simp [mf27]
theorem nil28 (h : Handler) (A : Arena) : H28 h [.nilP] A = some (.nilS, A) := by
  unfold H28
  rw [evFun_run _ _ rfl]
  simp [mf28]
set_option maxRecDepth 100000 in
set_option maxHeartbeats 8000000 in
theorem ev11 {e c : Int} (hc : inI c) (f : FrS) : evP (envOf GW fsL) 300 mf11 1 [.int .i64 e, .int .i64 c, frA f] = some (.bool true) := by
  have pm := pick_range c 9 (by omega)
  have m1 := M15_eq hc (show (0 : Int) < 9 by omega)
  obtain ⟨m, hm⟩ : ∃ m : Nat, (m : Int) = pick c 9 := ⟨(pick c 9).toNat, by omega⟩
  rw [← hm] at m1 pm
  obtain ⟨A0, hA0⟩ : ∃ A0, A0 = [Ent.row 5 false [frA f]] := ⟨_, rfl⟩
  have bx : evBox 5 (frA f) [] = some (.ptr 0 0 0, A0) := by rw [hA0]; simp [evBox, frA]
  have h0l : A0.length = 1 := by rw [hA0]; rfl
  -- the first end
  have first : ∃ A1 p er, H13 (fun _ _ _ => none) [.int .i64 e] A0 = some (.tup [p, .int .i64 er], A1) ∧ Fr A0 A1 [] ∧ ((1 ≤ e ∧ e ≤ 1000000 ∧ er = 0 ∧ p = .ptr 1 0 0) ∨ (¬ (1 ≤ e ∧ e ≤ 1000000) ∧ er = 260 ∧ p = .nilP)) := by
    by_cases he : 1 ≤ e ∧ e ≤ 1000000
    · obtain ⟨B, v, _, F⟩ := (ev13 (fun _ _ _ => none) A0 e).1 he
      rw [h0l] at v
      exact ⟨B, _, _, v, F, .inl ⟨he.1, he.2, rfl, rfl⟩⟩
    · exact ⟨A0, _, _, (ev13 (fun _ _ _ => none) A0 e).2 he, Fr.refl _ _, .inr ⟨he, rfl, rfl⟩⟩
  obtain ⟨A1, p, er, v1, F1, hp⟩ := first
  obtain ⟨A2, v2, g2, F2⟩ := (ev13 (fun _ _ _ => none) A1 1).1 (by omega)
  have r2 : A2[0]? = some (.row 5 false [frA f]) := by
    rw [F2.2 0 (by have := F1.1; omega) (by simp), F1.2 0 (by omega) (by simp), hA0]
    rfl
  -- a body that is too long
  have b2 := evAdd (a := 1025) (b := (m : Int)) (by omega)
  rw [show (1025 : Int) + (m : Int) = ((1025 + m : Nat) : Int) by omega] at b2
  obtain ⟨k, hk⟩ : ∃ k, k = 1025 + m := ⟨_, rfl⟩
  rw [← hk] at b2
  have w2 : IntKind.i64.wrap (1025 + (m : Int)) = (k : Int) := by rw [wrapI (by unfold inI; omega)]; omega
  have mk := mk_zer A2 k (by omega)
  have sz := str_zer A2 k
  obtain ⟨R, hR⟩ : ∃ R, R = Ent.row 1 false (List.replicate k (.int .u8 0)) := ⟨_, rfl⟩
  rw [← hR] at mk sz
  obtain ⟨A3, hA3⟩ : ∃ A3, A3 = A2 ++ [R] := ⟨_, rfl⟩
  rw [← hA3] at mk sz
  have F3 : Fr A2 A3 [] := by rw [hA3]; exact Fr.app _ _ _
  have g3 := g2.beside F3 (fun j _ => by simp)
  have s3 := ev16_no g3 (fun _ _ _ => none) (b := zer k) (by rintro ⟨h, _⟩; rw [zer_len] at h; omega)
  have w3 := ev27 g3 (fun _ _ _ => none)
  have w3' : H27 (fun _ _ _ => none) [.ptr A1.length 0 0] A3 = some (.int .i64 0, A3) := w3
  have h1l : 1 ≤ A1.length := by have := F1.1; omega
  obtain ⟨A4, q4, lp, g4, n4, k4⟩ := loop11 (v3 := .ptr 0 0 0) (v5 := .bool true) g3 1 h1l
  have r4 : A4[0]? = some (.row 5 false [frA f]) := by
    rw [k4 0 (by omega), F3.2 0 (List.getElem?_eq_some_iff.1 r2).1 (by simp)]
    exact r2
  have s4 := ev16_no g4 (fun _ _ _ => none) (b := [120]) (by rintro ⟨_, h⟩; rw [zS_len] at h; omega)
  have w4 := ev27 g4 (fun _ _ _ => none)
  rw [zS_len] at w4
  have w4' : H27 (fun _ _ _ => none) [.ptr A1.length 0 0] A4 = some (.int .i64 64, A4) := w4
  have hl := evLoad_row5 r4
  have n23 := nil23 (fun _ _ _ => none) A4 f
  obtain ⟨A5, hA5⟩ : ∃ A5, A5 = A4 ++ [Ent.row 5 false [frA f]] := ⟨_, rfl⟩
  rw [← hA5] at n23
  have c5 : (cellsOf (frA f)).length = 5 := rfl
  obtain ⟨F, hF⟩ : ∃ F, F = frA f := ⟨_, rfl⟩
  rw [← hF] at bx hl n23 c5 ⊢
  obtain ⟨T, hT⟩ : ∃ T, T = zer k := ⟨_, rfl⟩
  rw [← hT] at sz s3
  rw [evP_run _ _ rfl]
  rcases hp with ⟨h1, h2, rfl, rfl⟩ | ⟨h1, rfl, rfl⟩
  · simp [mf11, pH0, pH2, bx, v1, v2, h1, h2, m1, w2, mk, sz, s3, w3', go11x0 lp, s4, w4', hl, n23, nil16, nil19, nil25, nil26, nil27, nil28, c5, -evMake, -evBox, -evLoad, -pureH, -cellsOf]
  · rcases (show ¬ 1 ≤ e ∨ (1 ≤ e ∧ ¬ e ≤ 1000000) by omega) with h | ⟨h, h'⟩
    · simp [mf11, pH0, pH2, bx, v1, v2, h, m1, w2, mk, sz, s3, w3', go11x0 lp, s4, w4', hl, n23, nil16, nil19, nil25, nil26, nil27, nil28, c5, -evMake, -evBox, -evLoad, -pureH, -cellsOf]
    · simp [mf11, pH0, pH2, bx, v1, v2, h, h', m1, w2, mk, sz, s3, w3', go11x0 lp, s4, w4', hl, n23, nil16, nil19, nil25, nil26, nil27, nil28, c5, -evMake, -evBox, -evLoad, -pureH, -cellsOf]
end Go.Proofs.Ytfidjdlmmcaplaa
/-
  Link: the laws' arguments; Former and Refuses, for every argument.
-/
namespace Go.Proofs.Ytfidjdlmmcaplaa
open Go

set_option maxRecDepth 100000 in
theorem fr_arg {x : AV} {n : Nat} (h : TA Try.prog (n + 2) 42 x) : ∃ f : FrS, x = frA f ∧ inI f.fr ∧ inI f.to ∧ inI f.seq ∧ inI f.ack ∧ f.body.length ≤ 9223372036854775807 := by
  obtain ⟨ls, rfl, hc, hl⟩ := TA.agg (show aggT Try.prog 42 = true by kernel_rfl) h
  simp only [TC, Try.underlying42, TCs, Try.underlying3, Try.underlying9] at hc
  obtain ⟨_, _, rfl, ⟨a, rfl, ha⟩, _, _, _, rfl, ⟨b, rfl, hb⟩, _, _, _, rfl, ⟨c, rfl, hc'⟩, _, _, _, rfl, ⟨d, rfl, hd⟩, _, _, _, rfl, ⟨s, rfl, hs⟩, _, rfl⟩ := hc
  exact ⟨⟨a, b, c, d, s⟩, rfl, ha, hb, hc', hd, hs⟩
theorem ev10L (args : List AV) (h : LawArgs Try.prog 8 Try.f10.params.toList args) : ∃ fuel, evP (envOf GW fsL) fuel mf10 1 args = some (.bool true) := by
  rw [Try.params10] at h
  obtain ⟨a, r, rfl, h0, h⟩ := h.cons
  obtain ⟨b, r, rfl, h1, h⟩ := h.cons
  obtain rfl := h.nil
  obtain ⟨n, rfl, hn⟩ := TA.i64 Try.underlying3 h0
  obtain ⟨f, rfl, hf, _⟩ := fr_arg (n := 6) h1
  exact ⟨300, ev10 hn f hf⟩
theorem ev11L (args : List AV) (h : LawArgs Try.prog 8 Try.f11.params.toList args) : ∃ fuel, evP (envOf GW fsL) fuel mf11 1 args = some (.bool true) := by
  rw [Try.params11] at h
  obtain ⟨a, r, rfl, h0, h⟩ := h.cons
  obtain ⟨b, r, rfl, h1, h⟩ := h.cons
  obtain ⟨c, r, rfl, h2, h⟩ := h.cons
  obtain rfl := h.nil
  obtain ⟨n, rfl, hn⟩ := TA.i64 Try.underlying3 h0
  obtain ⟨m, rfl, hm⟩ := TA.i64 Try.underlying3 h1
  obtain ⟨f, rfl, hf, _⟩ := fr_arg (n := 6) h2
  exact ⟨300, ev11 hm f⟩
end Go.Proofs.Ytfidjdlmmcaplaa
/-
  Link: MatchesReference, ends that begin anew, and frames that arrive.
-/
namespace Go.Proofs.Ytfidjdlmmcaplaa
open Go

def QD0 : MC := .region [⟨none, .mv (.var 14), none⟩, ⟨none, .build [.int .i64 0, .int .i64 0, .int .i64 0, .int .i64 0, .int .i64 0, .str []] [(0, (1, .tmp 0))], none⟩, ⟨some 23, .alloc 6 (.agg [.int .i64 0, .int .i64 0, .int .i64 0, .int .i64 0, .int .i64 0, .str []]), none⟩, ⟨none, .store 6 (.var 23) (.tmp 1), none⟩]
def QD1 : MC := .seq (.region [⟨none, .indexArr 3 1 (.var 13) (.cst (.int .i64 0)), none⟩, ⟨none, .load false 1 (.tmp 0), none⟩, ⟨none, .call (.fn 15) [.tmp 1, .cst (.int .i64 10)], none⟩, ⟨none, .bin .eql (.tmp 2) (.cst (.int .i64 8)), none⟩, ⟨none, .mv (.tmp 3), none⟩, ⟨none, .mv (.var 1), some (.tmp 4, true)⟩, ⟨none, .lenSl (.tmp 5), some (.tmp 4, true)⟩, ⟨none, .bin .gtr (.tmp 6) (.cst (.int .i64 0)), some (.tmp 4, true)⟩, ⟨some 29, .pick (.tmp 4) (.tmp 7) (.cst (.bool false)), none⟩]) (.cond (.var 29) (.region [⟨none, .mv (.var 1), none⟩, ⟨none, .indexArr 3 1 (.var 13) (.cst (.int .i64 2)), none⟩, ⟨none, .load false 1 (.tmp 1), none⟩, ⟨none, .mv (.var 1), none⟩, ⟨none, .lenSl (.tmp 3), none⟩, ⟨none, .call (.fn 15) [.tmp 2, .tmp 4], none⟩, ⟨none, .indexSl 5 (.tmp 0) (.tmp 5), none⟩, ⟨none, .load true 5 (.tmp 6), none⟩, ⟨none, .fieldAddr 1 (.var 23), none⟩, ⟨none, .store 5 (.tmp 8) (.tmp 7), none⟩]) (.seq (.region [⟨none, .mv (.var 11), none⟩, ⟨none, .lenSl (.tmp 0), none⟩, ⟨some 30, .bin .gtr (.tmp 1) (.cst (.int .i64 0)), none⟩]) (.cond (.var 30) (.region [⟨none, .mv (.var 11), none⟩, ⟨none, .indexArr 3 1 (.var 13) (.cst (.int .i64 2)), none⟩, ⟨none, .load false 1 (.tmp 1), none⟩, ⟨none, .mv (.var 11), none⟩, ⟨none, .lenSl (.tmp 3), none⟩, ⟨none, .call (.fn 15) [.tmp 2, .tmp 4], none⟩, ⟨none, .indexSl 6 (.tmp 0) (.tmp 5), none⟩, ⟨none, .load true 6 (.tmp 6), none⟩, ⟨none, .store 6 (.var 23) (.tmp 7), none⟩]) .skip)))
def QD2 : MC := .seq (.regionD [17, 15, 22, 25, 26] [⟨none, .fieldAddr 0 (.var 23), none⟩, ⟨none, .load false 1 (.tmp 0), none⟩, ⟨none, .indexArr 2 1 (.var 4) (.tmp 1), none⟩, ⟨none, .load false 1 (.tmp 2), none⟩, ⟨none, .fieldAddr 1 (.var 23), none⟩, ⟨none, .load true 5 (.tmp 4), none⟩, ⟨none, .call (.fn 23) [.tmp 3, .tmp 5], none⟩, ⟨none, .fieldAddr 0 (.var 23), none⟩, ⟨none, .load false 1 (.tmp 7), none⟩, ⟨none, .indexArr 2 1 (.var 5) (.tmp 8), none⟩, ⟨none, .load false 1 (.tmp 9), none⟩, ⟨none, .fieldAddr 1 (.var 23), none⟩, ⟨none, .load true 5 (.tmp 11), none⟩, ⟨none, .call (.fn 24) [.tmp 10, .tmp 12], none⟩, ⟨none, .call (.fn 22) [.tmp 6, .tmp 13], none⟩, ⟨some 31, .un .not (.tmp 14), none⟩] [(6, 7), (6, 8), (6, 9), (6, 10), (6, 11), (6, 12)]) (.cond (.var 31) (.seq (.region [⟨some 2, .mv (.cst (.bool false)), none⟩]) .ret) .skip)
theorem QDEF_eq : QDEF = .seq QD0 (.seq QD1 QD2) := rfl
set_option maxRecDepth 100000 in
set_option maxHeartbeats 16000000 in
theorem qNew {K : List KC} {A : Arena} {P : List Nat} {pa pb y : Nat} {fv v0 v1 v3 v12 v27 v28 v32 v34 v37 : AV} {S : Nat → EndS} {fl : List (Nat × FrS)} (h : Inv A P pa pb fv S S fl) (hy : y ∈ P) {c0 c1 c2 : Int} (hr : A[y]? = some (row3 c0 c1 c2)) (hc2 : inI c2) {s n : Nat} (hs : s < 2) (hw : ∀ t, t < 2 → Wf n (S t)) (hn : n ≤ 200) :
    ∃ B S', run (envOf GW fsM) 300 (.code QNEW :: .blk 4 :: .code QKILL4 :: K) (sq v0 v1 v3 (.ptr pa 0 0) (.ptr pb 0 0) fv v12 (.ptr y 0 0) (.int .i64 (s : Int)) v27 v28 v32 v34 v37) A = run (envOf GW fsM) 300 K (st3x2 v0 v1 v3 (.ptr pa 0 0) (.ptr pb 0 0) fv v12 (.ptr y 0 0) .undef) B ∧
      Inv B P pa pb fv S' S' fl ∧ (∀ t, t < 2 → Wf (n + 1) (S' t)) ∧ ∀ j, j ∈ P → B[j]? = A[j]? := by
  have hws := hw s hs
  have pc := pick_range c2 4 (by omega)
  have m15 := M15_eq hc2 (show (0 : Int) < 4 by omega)
  obtain ⟨z, hz⟩ : ∃ z, z = pick c2 4 := ⟨_, rfl⟩
  rw [← hz] at m15 pc
  have hep := hws.epoch
  have b1 := evAdd (a := (S s).epoch) (b := z) (by omega)
  obtain ⟨e, he⟩ : ∃ e, e = (S s).epoch + z := ⟨_, rfl⟩
  rw [← he] at b1
  have hlow := h.low
  obtain ⟨a0, a1, b0, b1', qv, lv, ra, rb, eb⟩ := h.rows hs
  have rowb := eb.row
  have hr' : A[y]? = some (.row 3 false [.agg [.int .i64 c0, .int .i64 c1, .int .i64 c2]]) := hr
  obtain ⟨A1, v1', g1, F1⟩ := (ev13 (fun _ _ _ => none) A e).1 (by omega)
  obtain ⟨A2, v2', g2, F2⟩ := (ev14 (fun _ _ _ => none) A1 e).1 (by omega)
  have l1 : A.length < A1.length := g1.low A.length (mem_own.2 (.inl rfl))
  have l2 : A1.length < A2.length := g2.low A1.length (mem_own.2 (.inl rfl))
  have g1' := g1.beside F2 (fun j _ => by simp)
  have F12 : Fr A A2 [] := F1.trans F2 fun j hj => by simp at hj
  obtain ⟨i2, p2, e2a, e2b⟩ := h.more F12 [A.length, A1.length] (fun j hj => by
    simp at hj
    rcases hj with rfl | rfl
    · exact ⟨by omega, by omega⟩
    · exact ⟨by omega, by omega⟩)
  rw [ra] at e2a
  rw [rb] at e2b
  have iA := i2.newA hs g1' (by simp) e2a (P' := A1.length :: P) (fun j hj => by
    obtain ⟨ia, ib, qa, la, qb, lb, T, h0⟩ := h
    rcases List.mem_cons.1 hj with rfl | hj
    · exact ⟨by simp, by omega⟩
    · have := (h0.p j hj).2
      exact ⟨by simp [hj], by omega⟩)
  obtain ⟨A3, hA3⟩ : ∃ A3, A3 = A2.set pa (if s = 0 then two A.length a1 else two a0 A.length) := ⟨_, rfl⟩
  rw [← hA3] at iA
  have hpab : pa ≠ pb := hlow.2.2
  have e3b : A3[pb]? = some (two b0 b1') := by
    rw [hA3, List.getElem?_set_ne hpab]; exact e2b
  have g2' : EndAt A3 A1.length (newS e) .nilS .nilS := g2.keep fun j hj => by
    rw [own_nil0, List.mem_singleton] at hj
    subst hj
    rw [hA3, List.getElem?_set_ne (by omega)]
  have iB := iA.newB hs g2' (by simp) e3b (P' := P) (fun j hj => by
    obtain ⟨ia, ib, qa, la, qb, lb, T, h0⟩ := h
    have := (h0.p j hj).2
    exact ⟨by simp [hj], by omega⟩)
  obtain ⟨A4, hA4⟩ : ∃ A4, A4 = A3.set pb (if s = 0 then two A1.length b1' else two b0 A1.length) := ⟨_, rfl⟩
  rw [← hA4] at iB
  refine ⟨A4, upd S s (newS e), ?_, iB, upd_wf hw (Wf.new (n + 1) (by omega)), fun j hj => ?_⟩
  · have n1 : evBin .neq (.int .i64 0) (.int .i64 0) = some (.bool false) := rfl
    unfold two at ra rb e2a e3b hA3 hA4
    rcases (show s = 0 ∨ s = 1 by omega) with rfl | rfl
    · rw [if_pos rfl] at hA3 hA4 eb rowb
      have st3 : evStore 1 A2 (.ptr pa 0 0) (.ptr A.length 0 0) = some A3 := by
        rw [hA3]; simp [evStore, e2a]
      have st4 : evStore 1 A3 (.ptr pb 0 0) (.ptr A1.length 0 0) = some A4 := by
        rw [hA4]; simp [evStore, e3b]
      simp [QNEW, QKILL4, pH2, evIndexArr, ra, rb, rowb, hr', m15, b1, v1', v2', n1, e2a, st3, e3b, st4, -evBin, -pureH, -evStore]
    · rw [if_neg (by omega)] at hA3 hA4
      have st3 : evStore 1 A2 (.ptr pa 0 1) (.ptr A.length 0 0) = some A3 := by
        rw [hA3]; simp [evStore, e2a]
      have st4 : evStore 1 A3 (.ptr pb 0 1) (.ptr A1.length 0 0) = some A4 := by
        rw [hA4]; simp [evStore, e3b]
      have rowb' : A[b1']? = _ := rowb
      simp [QNEW, QKILL4, pH2, evIndexArr, ra, rb, rowb', hr', m15, b1, v1', v2', n1, e2a, st3, e3b, st4, -evBin, -pureH, -evStore]
  · obtain ⟨ia, ib, qa, la, qb, lb, T, h0⟩ := h
    have h1 := h0.p j hj
    have n1 : j ≠ pa := fun e => by
      have := h0.tpa
      rw [← e, h1.1] at this
      cases this
    have n2 : j ≠ pb := fun e => by
      have := h0.tpb
      rw [← e, h1.1] at this
      cases this
    rw [hA4, List.getElem?_set_ne (Ne.symm n2), hA3, List.getElem?_set_ne (Ne.symm n1), F12.2 j h1.2 (by simp)]
abbrev sd (v0 v1 v3 v4 v5 v11 v12 v13 v14 v23 v27 v28 v29 v30 v32 v34 v37 : AV) : List AV := [v0, v1, .undef, v3, v4, v5, .undef, .undef, .undef, .undef, .undef, v11, v12, v13, v14, .undef, .undef, .undef, .undef, .undef, .undef, .undef, .undef, v23, .undef, .undef, .undef, v27, v28, v29, v30, .undef, v32, .undef, v34, .undef, .undef, v37, .undef, .undef, .undef]
set_option maxRecDepth 100000 in
set_option maxHeartbeats 16000000 in
theorem qRecv {K : List KC} {A : Arena} {P : List Nat} {pa pb w : Nat} {fv v0 v1 v3 v12 v13 v14 v27 v28 v29 v30 v32 v34 v37 : AV} {S : Nat → EndS} {fl : List (Nat × FrS)} (h : Inv A P pa pb fv S S fl) (hwp : w ∈ P) {t : Nat} {g : FrS} (ht : t < 2) (hr : A[w]? = some (.row 6 false [flA (t, g)])) {n : Nat} (hw : ∀ t, t < 2 → Wf n (S t)) (hn : n ≤ 200) :
    ∃ B S', run (envOf GW fsM) 300 (.code QD2 :: .blk 4 :: .code QKILL4 :: K) (sd v0 v1 v3 (.ptr pa 0 0) (.ptr pb 0 0) fv v12 v13 v14 (.ptr w 0 0) v27 v28 v29 v30 v32 v34 v37) A = run (envOf GW fsM) 300 K (st3x2 v0 v1 v3 (.ptr pa 0 0) (.ptr pb 0 0) fv v12 v13 .undef) B ∧
      Inv B P pa pb fv S' S' fl ∧ (∀ t, t < 2 → Wf (n + 1) (S' t)) ∧ ∀ j, j ∈ P → B[j]? = A[j]? := by
  have hws := hw t ht
  obtain ⟨ia, qa, la, ea, ⟨p, q, ra, pq⟩, sa⟩ := h.stepA ht
  obtain ⟨B, o1, va, qa', la', ga, sla, na, oa, Fa⟩ := ev23 (fun _ _ _ => none) ea (by have := hws.lost; omega) (by have := hws.queue; omega) hws.received g
  obtain ⟨iB, pB, eB1, eB2⟩ := sa B _ qa' la' (idsOf o1) ga oa Fa (fun j hj => ⟨.inr (na j hj).1, sla.low j hj, (na j hj).2⟩)
  obtain ⟨ib, qb, lb, eb, ⟨p', q', rb, pq'⟩, sb⟩ := iB.stepB ht
  obtain ⟨C, o2, vb, qb', lb', gb, slb, nb, ob, Fb⟩ := ev24 eb (fun _ _ _ => none) (by have := hws.lost; omega) (by have := hws.queue; omega) hws.received (fun q hq => (hws.at_ q hq).1) g
  obtain ⟨iC, pC, eC1, eC2⟩ := sb C _ qb' lb' (idsOf o2) gb ob Fb (fun j hj => ⟨.inr (nb j hj).1, slb.low j hj, (nb j hj).2⟩)
  have slaC : SlP 1 C o1 ((receiveS (S t) g).2.map .str) := sla.keep fun j hj => pC j (List.mem_append.2 (.inl hj))
  have hl : (receiveS (S t) g).2.length ≤ 1 := by
    unfold receiveS
    split
    · split
      · simp
      · split <;> simp
    · simp
  have m22 := ev22 (fun _ _ _ => none) slaC slb (by omega)
  have inP : ∀ j, j ∈ P → j ∈ idsOf o2 ++ (idsOf o1 ++ P) := fun j hj => List.mem_append.2 (.inr (List.mem_append.2 (.inr hj)))
  have hr' : A[w]? = some (.row 6 false [.agg [.int .i64 (t : Int), .int .i64 g.fr, .int .i64 g.to, .int .i64 g.seq, .int .i64 g.ack, .str g.body]]) := hr
  have hrB : B[w]? = some (.row 6 false [.agg [.int .i64 (t : Int), .int .i64 g.fr, .int .i64 g.to, .int .i64 g.seq, .int .i64 g.ack, .str g.body]]) := (pB w hwp).trans hr
  have lde : loadElem (.agg [.int .i64 (t : Int), .int .i64 g.fr, .int .i64 g.to, .int .i64 g.seq, .int .i64 g.ack, .str g.body]) 6 1 true 5 = some (frA g) := rfl
  rw [rb] at eB2
  have hmono : ∀ t', t' < 2 → Wf (n + 1) (upd S t (receiveS (S t) g).1 t') := upd_wf hw ((hws.recv g).mono (by omega))
  refine ⟨C, upd S t (receiveS (S t) g).1, ?_, iC.less inP, hmono, fun j hj => by rw [pC j (List.mem_append.2 (.inr hj)), pB j hj]⟩
  obtain ⟨F, hF⟩ : ∃ F, F = frA g := ⟨_, rfl⟩
  rw [← hF] at va vb lde
  rcases (show t = 0 ∨ t = 1 by omega) with rfl | rfl
  · rw [if_pos rfl] at pq pq'
    subst pq
    subst pq'
    simp only [Int.natCast_zero, Int.cast_ofNat_Int] at hr' hrB lde
    simp [QD2, QKILL4, evIndexArr, hr', ra, lde, va, hrB, rb, vb, m22, eB2.symm, -evBin, -pureH]
  · rw [if_neg (by omega)] at pq pq'
    subst pq
    subst pq'
    simp only [Int.natCast_one] at hr' hrB lde
    simp [QD2, QKILL4, evIndexArr, hr', ra, lde, va, hrB, rb, vb, m22, eB2.symm, -evBin, -pureH]
end Go.Proofs.Ytfidjdlmmcaplaa
