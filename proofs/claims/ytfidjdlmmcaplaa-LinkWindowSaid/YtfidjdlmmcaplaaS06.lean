/-
  What the proof is built on (L27 to L29).
-/
import Derived.Test.YtfidjdlmmcaplaaS05
/-
  Link: what the law Window comes upon, plain.
-/
namespace Go.Proofs.Ytfidjdlmmcaplaa
open Go

def hel (k : Nat) : Int := if k = 0 then 0 else ((3 * ((k - 1) / 3) + 1 : Nat) : Int)
/-- without a peer: n messages, k ticks -/
def W0 (n k : Nat) : EndS := ⟨3, 0, msgs n, 1 + n, 0, false, k, false, hel k, []⟩
def fHello : FrS := ⟨3, 0, 0, 0, []⟩
theorem tick_W0 (n : Nat) {k : Nat} (hk : k ≤ 7) : tickS (W0 n k) = (W0 n (k + 1), if k % 3 = 0 then [fHello] else []) := by
  rcases (show k = 0 ∨ k = 1 ∨ k = 2 ∨ k = 3 ∨ k = 4 ∨ k = 5 ∨ k = 6 ∨ k = 7 by omega) with rfl | rfl | rfl | rfl | rfl | rfl | rfl | rfl <;> rfl
theorem W0_bd (n : Nat) {k : Nat} (hk : k ≤ 10) : Bd (W0 n k) := by
  refine ⟨show (0 : Int) ≤ (k : Int) ∧ (k : Int) ≤ 1152921504606846975 by omega, fun q hq => ?_, ?_⟩
  · have := msgs_at q hq
    omega
  · show (0 : Int) ≤ hel k ∧ hel k ≤ 1152921504606846975
    unfold hel
    split <;> omega
/-- with a peer that has been heard; the first eight were sent at tick a (0: not yet) -/
def ws (n : Nat) (a : Int) : List QE := ((msgs n).take 8).map (fun q => { q with at_ := a }) ++ (msgs n).drop 8
theorem ws_zero (n : Nat) : ws n 0 = msgs n := by
  unfold ws
  have : ((msgs n).take 8).map (fun q => { q with at_ := 0 }) = (msgs n).take 8 := by
    conv => rhs; rw [← List.map_id ((msgs n).take 8)]
    refine List.map_congr_left fun q hq => ?_
    have := msgs_at q (List.mem_of_mem_take hq)
    cases q
    simp only at this
    rw [this]
    rfl
  rw [this, List.take_append_drop]
theorem ws_len (n : Nat) (a : Int) : (ws n a).length = n := by
  have := msgs_len n
  unfold ws
  simp only [List.length_append, List.length_map, List.length_take, List.length_drop]
  omega
theorem ws_take (n : Nat) (a : Int) : (ws n a).take 8 = ((msgs n).take 8).map (fun q => { q with at_ := a }) := by
  have hl := msgs_len n
  unfold ws
  by_cases h : 8 ≤ n
  · rw [List.take_append_of_le_length (by simp; omega), List.take_of_length_le (by simp; omega)]
  · rw [List.drop_of_length_le (by omega), List.append_nil, List.take_of_length_le (by simp; omega)]
theorem ws_drop (n : Nat) (a : Int) : (ws n a).drop 8 = (msgs n).drop 8 := by
  have hl := msgs_len n
  unfold ws
  by_cases h : 8 ≤ n
  · rw [List.drop_append_of_le_length (by simp; omega), List.drop_of_length_le (by simp; omega), List.nil_append]
  · rw [List.drop_of_length_le (by simp; omega), List.drop_of_length_le (by omega)]
theorem ws_at {n : Nat} {a : Int} : ∀ q ∈ ws n a, q.at_ = a ∨ q.at_ = 0 := by
  intro q hq
  unfold ws at hq
  rcases List.mem_append.1 hq with h | h
  · obtain ⟨p, _, rfl⟩ := List.mem_map.1 h
    exact .inl rfl
  · exact .inr (msgs_at q (List.mem_of_mem_drop h))
def atv (k j : Nat) : Int := if j = 0 then 0 else ((k + 1 + 3 * ((j - 1) / 3) : Nat) : Int)
def W3 (n k j : Nat) : EndS := ⟨3, 9, ws n (atv k j), 1 + n, 0, decide (j = 0), ((k + j : Nat) : Int), true, hel k, []⟩
def outW (n : Nat) : List FrS := (List.range (min n 8)).map fun (i : Nat) => (⟨3, 9, 1 + (i : Int), 0, txt (i + 1)⟩ : FrS)
theorem outW_len (n : Nat) : (outW n).length = min n 8 := by simp [outW]
def fMet : FrS := ⟨3, 9, 0, 0, []⟩
theorem due_atv (k j : Nat) : dueS (((k + j : Nat) : Int) + 1) (atv k j) = decide (j % 3 = 0) := by
  unfold dueS atv
  by_cases h : j = 0
  · subst h; simp
  · rw [if_neg h, decide_eq_false (by omega), Bool.false_or]
    rw [Bool.eq_iff_iff, decide_eq_true_eq, decide_eq_true_eq]
    omega
theorem atv_succ (k j : Nat) : atv k (j + 1) = if j % 3 = 0 then ((k + j : Nat) : Int) + 1 else atv k j := by
  unfold atv
  rw [if_neg (by omega)]
  split
  · omega
  · rw [if_neg (by omega)]
    omega
theorem outS_W3 (n k j : Nat) : outS (W3 n k j) (((k + j : Nat) : Int) + 1) = if j % 3 = 0 then outW n else [] := by
  unfold outS
  have h0 : (W3 n k j).queue = ws n (atv k j) := rfl
  have h1 : ∀ q ∈ ((msgs n).take 8).map (fun q => ({ q with at_ := atv k j } : QE)), ((W3 n k j).heard && dueS (((k + j : Nat) : Int) + 1) q.at_) = decide (j % 3 = 0) := by
    intro q hq
    obtain ⟨p, _, rfl⟩ := List.mem_map.1 hq
    show (true && dueS (((k + j : Nat) : Int) + 1) (atv k j)) = _
    rw [due_atv, Bool.true_and]
  rw [h0, ws_take]
  by_cases hj : j % 3 = 0
  · rw [if_pos hj, List.filter_eq_self.2 (fun q hq => by rw [h1 q hq, decide_eq_true hj]), List.map_map]
    unfold outW msgs
    rw [← List.map_take, List.map_map, List.take_range]
    rw [Nat.min_comm]
    refine List.map_congr_left fun i hi => ?_
    rfl
  · rw [if_neg hj, List.filter_eq_nil_iff.2 (fun q hq => by rw [h1 q hq, decide_eq_false hj]; simp)]
    rfl
theorem tick_W3 (n k j : Nat) : tickS (W3 n k j) = (W3 n k (j + 1), if j = 0 ∧ n = 0 then [fMet] else if j % 3 = 0 then outW n else []) := by
  have h2 : tickS (W3 n k j) = tick1 (W3 n k j) := by
    unfold tickS
    rw [if_neg (by rintro ⟨h, _⟩; cases h)]
  have ho := outS_W3 n k j
  have hO : outO (W3 n k j) (((k + j : Nat) : Int) + 1) = if j = 0 ∧ n = 0 then [fMet] else if j % 3 = 0 then outW n else [] := by
    unfold outO
    rw [ho]
    have how : (W3 n k j).owes = decide (j = 0) := rfl
    rw [how]
    by_cases hj : j = 0
    · subst hj
      by_cases hn : n = 0
      · subst hn
        rfl
      · have hl := outW_len n
        rw [if_pos (show 0 % 3 = 0 from rfl), if_neg (by rintro ⟨h, _⟩; omega), if_neg (by rintro ⟨_, h⟩; exact hn h)]
    · rw [decide_eq_false hj, if_neg (show ¬ (j = 0 ∧ n = 0) from fun h => hj h.1)]
      exact if_neg (fun h => by cases h.2)
  rw [h2]
  unfold tick1
  rw [if_pos (show (W3 n k j).peer > 0 from show (9 : Int) > 0 by omega)]
  have ht : (W3 n k j).ticks + 1 = ((k + j : Nat) : Int) + 1 := rfl
  rw [ht, hO]
  have hq : ((W3 n k j).queue.take 8).map (sentQ (((k + j : Nat) : Int) + 1) (W3 n k j).heard) ++ (W3 n k j).queue.drop 8 = ws n (atv k (j + 1)) := by
    have h0 : (W3 n k j).queue = ws n (atv k j) := rfl
    rw [h0, ws_take, ws_drop, List.map_map]
    unfold ws
    congr 1
    refine List.map_congr_left fun q _ => ?_
    show (if (true && dueS (((k + j : Nat) : Int) + 1) (atv k j)) = true then _ else _) = _
    rw [due_atv, atv_succ, Bool.true_and]
    by_cases hj : j % 3 = 0
    · rw [decide_eq_true hj, if_pos rfl, if_pos hj]
    · rw [decide_eq_false hj, if_neg (by simp), if_neg hj]
  rw [hq]
  have hw : ((W3 n k j).owes && decide ((if j = 0 ∧ n = 0 then [fMet] else if j % 3 = 0 then outW n else []).length = 0)) = decide (j + 1 = 0) := by
    rw [show decide (j + 1 = 0) = false from rfl]
    have how : (W3 n k j).owes = decide (j = 0) := rfl
    rw [how]
    by_cases hj : j = 0
    · subst hj
      by_cases hn : n = 0
      · rw [if_pos ⟨rfl, hn⟩]; rfl
      · have hl := outW_len n
        rw [if_neg (by rintro ⟨_, h⟩; exact hn h), if_pos (show 0 % 3 = 0 from rfl), decide_eq_false (show ¬ (outW n).length = 0 by omega), Bool.and_false]
    · rw [decide_eq_false hj, Bool.false_and]
  rw [hw]
  have hk : ((k + j : Nat) : Int) + 1 = ((k + (j + 1) : Nat) : Int) := by omega
  rw [hk]
  rfl
theorem W3_bd (n : Nat) {k j : Nat} (hk : k ≤ 10) (hj : j ≤ 100) : Bd (W3 n k j) := by
  refine ⟨show (0 : Int) ≤ ((k + j : Nat) : Int) ∧ ((k + j : Nat) : Int) ≤ 1152921504606846975 by omega, fun q hq => ?_, ?_⟩
  · have h := ws_at q hq
    have : 0 ≤ atv k j ∧ atv k j ≤ 1000 := by
      unfold atv
      split <;> omega
    omega
  · show (0 : Int) ≤ hel k ∧ hel k ≤ 1152921504606846975
    unfold hel
    split <;> omega
def f9 : FrS := ⟨9, 0, 0, 0, []⟩
def f93 : FrS := ⟨9, 3, 0, 0, []⟩
def W1 (n k : Nat) : EndS := ⟨3, 9, msgs n, 1 + n, 0, true, k, false, hel k, []⟩
theorem rec_W0 (n k : Nat) : receiveS (W0 n k) f9 = (W1 n k, []) := by
  have ht : takes (W0 n k) f9 := ⟨by decide, .inl rfl, show (0 : Int) ≤ 9 by omega⟩
  unfold receiveS
  rw [if_pos ht, if_pos (show f9.to = 0 from rfl)]
  rfl
theorem keep_msgs (n : Nat) : (msgs n).filter (keepQ 0) = msgs n := by
  rw [List.filter_eq_self]
  intro q hq
  unfold keepQ
  rw [msgs_at q hq]
  rfl
theorem rec_W1 (n k : Nat) : receiveS (W1 n k) f93 = (W3 n k 0, []) := by
  have ht : takes (W1 n k) f93 := ⟨by decide, .inr rfl, show (9 : Int) ≤ 9 by omega⟩
  unfold receiveS
  rw [if_pos ht, if_neg (show ¬ f93.to = 0 from show ¬ (3 : Int) = 0 by omega), if_pos (.inl rfl)]
  have h1 : recS1 (W1 n k) f93 = W3 n k 0 := by
    unfold recS1 ackS
    have : ({ recS0 (W1 n k) f93 with heard := true } : EndS).queue = msgs n := rfl
    rw [this, show f93.ack = 0 from rfl, keep_msgs]
    unfold W3
    have h0 : ws n (atv k 0) = msgs n := ws_zero n
    rw [h0]
    rfl
  rw [h1]
end Go.Proofs.Ytfidjdlmmcaplaa
/-
  Link: what the law Lost comes upon, plain.
-/
namespace Go.Proofs.Ytfidjdlmmcaplaa
open Go

def qe2 (i : Nat) : QE := ⟨1 + (i : Int), txt (i + 1), if i < 8 then 2 else 0⟩
theorem fmS_queue (m : Nat) : (fmS m).queue = (List.range m).map qe2 := by
  show ((msgs m).take 8).map (fun q => { q with at_ := 2 }) ++ (msgs m).drop 8 = _
  have hl := msgs_len m
  by_cases h : m ≤ 8
  · rw [List.take_of_length_le (by omega), List.drop_of_length_le (by omega), List.append_nil]
    unfold msgs
    rw [List.map_map]
    refine List.map_congr_left fun i hi => ?_
    have := List.mem_range.1 hi
    simp [qe2, show i < 8 by omega]
  · obtain ⟨k, rfl⟩ : ∃ k, m = 8 + k := ⟨m - 8, by omega⟩
    unfold msgs
    rw [List.range_add, List.map_append, List.map_append, List.take_left' (by simp), List.drop_left' (by simp), List.map_map]
    congr 1
    rw [List.map_map, List.map_map]
    refine List.map_congr_left fun i hi => ?_
    have h8 : ¬ (8 + i < 8) := by omega
    simp [qe2, h8]
theorem keep_qe2 {d i : Nat} (hd : d ≤ 8) : keepQ (d : Int) (qe2 i) = decide (d ≤ i) := by
  unfold keepQ qe2
  simp only
  by_cases h : d ≤ i
  · rw [decide_eq_true h, decide_eq_false (show ¬ (1 + (i : Int) ≤ (d : Int)) by omega), Bool.and_false]
    rfl
  · rw [decide_eq_false h, decide_eq_true (show 1 + (i : Int) ≤ (d : Int) by omega), if_pos (by omega)]
    rfl
theorem ack_qe2 {d k : Nat} (hd : d ≤ 8) : ((List.range (d + k)).map qe2).filter (keepQ (d : Int)) = (List.range k).map fun i => qe2 (d + i) := by
  rw [List.range_add, List.map_append, List.filter_append, List.map_map]
  have h1 : ((List.range d).map qe2).filter (keepQ (d : Int)) = [] := by
    rw [List.filter_eq_nil_iff]
    intro q hq
    obtain ⟨i, hi, rfl⟩ := List.mem_map.1 hq
    have := List.mem_range.1 hi
    rw [keep_qe2 hd, decide_eq_false (by omega)]
    simp
  have h2 : ((List.range k).map (qe2 ∘ fun x => d + x)).filter (keepQ (d : Int)) = (List.range k).map (qe2 ∘ fun x => d + x) := by
    rw [List.filter_eq_self]
    intro q hq
    obtain ⟨i, hi, rfl⟩ := List.mem_map.1 hq
    show keepQ (d : Int) (qe2 (d + i)) = true
    rw [keep_qe2 hd, decide_eq_true (by omega)]
  rw [h1, h2, List.nil_append]
  rfl
/-- the first d of them acknowledged -/
def akS (d k : Nat) : EndS := { fmS (d + k) with queue := (List.range k).map fun i => qe2 (d + i) }
def fAck (d : Int) : FrS := ⟨5, 1, 0, d, []⟩
theorem rec_ack {d k : Nat} (hd : d ≤ 8) : receiveS (fmS (d + k)) (fAck d) = (akS d k, []) := by
  have ht : takes (fmS (d + k)) (fAck d) := by
    refine ⟨?_, .inr rfl, show (5 : Int) ≤ 5 by omega⟩
    unfold okF fAck
    simp
    omega
  unfold receiveS
  rw [if_pos ht, if_neg (show ¬ (fAck (d : Int)).to = 0 from show ¬ (1 : Int) = 0 by omega), if_pos (.inl rfl)]
  have h1 : recS1 (fmS (d + k)) (fAck d) = akS d k := by
    unfold recS1 recS0 meetS
    rw [if_pos (show (fAck d).fr = (fmS (d + k)).peer from rfl)]
    unfold ackS akS
    have : (fmS (d + k)).queue.filter (keepQ (d : Int)) = (List.range k).map fun i => qe2 (d + i) := by rw [fmS_queue, ack_qe2 hd]
    simp only [fAck, this]
    rfl
  rw [h1]
/-- the peer has begun anew -/
def loS (k : Nat) (d : Nat) (p : Int) : EndS := ⟨1, p, [], 1, 0, true, 2, false, 1, (List.range k).map fun i => txt (d + i + 1)⟩
def fNew (p : Int) : FrS := ⟨p, 0, 0, 0, []⟩
theorem rec_new {d k : Nat} {p : Int} (hp : 6 ≤ p ∧ p ≤ 200) : receiveS (akS d k) (fNew p) = (loS k d p, []) := by
  have ht : takes (akS d k) (fNew p) := by
    refine ⟨?_, .inl rfl, show (5 : Int) ≤ p by omega⟩
    unfold okF fNew
    simp
    omega
  unfold receiveS
  rw [if_pos ht, if_pos (show (fNew p).to = 0 from rfl)]
  have h1 : recS0 (akS d k) (fNew p) = loS k d p := by
    unfold recS0 meetS
    rw [if_neg (show ¬ (fNew p).fr = (akS d k).peer from show ¬ p = 5 by omega), if_pos (show (akS d k).peer > 0 from show (5 : Int) > 0 by omega)]
    unfold loS akS
    simp only [List.map_map]
    rfl
  rw [h1]
/-- the new peer has met this end -/
def liS (p : Int) : EndS := ⟨1, p, [], 1, 0, true, 2, true, 1, []⟩
def fOld (p : Int) : FrS := ⟨p, 1, 0, 0, []⟩
theorem rec_old {p : Int} (hp : 6 ≤ p ∧ p ≤ 200) : receiveS (loS 0 0 p) (fOld p) = (liS p, []) := by
  have ht : takes (loS 0 0 p) (fOld p) := by
    refine ⟨?_, .inr rfl, show p ≤ p by omega⟩
    unfold okF fOld
    simp
    omega
  unfold receiveS
  rw [if_pos ht, if_neg (show ¬ (fOld p).to = 0 from show ¬ (1 : Int) = 0 by omega), if_pos (.inl rfl)]
  have h1 : recS1 (loS 0 0 p) (fOld p) = liS p := by
    unfold recS1 recS0 meetS
    rw [if_pos (show (fOld p).fr = (loS 0 0 p).peer from rfl)]
    rfl
  rw [h1]
def bNew : Bytes := [110, 101, 119]
def lsS (p : Int) : EndS := ⟨1, p, [⟨1, bNew, 0⟩], 2, 0, true, 2, true, 1, []⟩
theorem send_new (p : Int) : sendS (liS p) bNew = lsS p := rfl
theorem tick_new {p : Int} (hp : 6 ≤ p) : (tickS (lsS p)).2 = [⟨1, p, 1, 0, bNew⟩] := by
  have h2 : tickS (lsS p) = tick1 (lsS p) := by
    unfold tickS
    rw [if_neg (by rintro ⟨h, _⟩; cases h)]
  rw [h2]
  unfold tick1
  rw [if_pos (show (lsS p).peer > 0 from show p > 0 by omega)]
  rfl
theorem lsS_bd (p : Int) : Bd (lsS p) := by
  refine ⟨show (0 : Int) ≤ 2 ∧ (2 : Int) ≤ 1152921504606846975 by omega, fun q hq => ?_, show (0 : Int) ≤ 1 ∧ (1 : Int) ≤ 1152921504606846975 by omega⟩
  have : q = ⟨1, bNew, 0⟩ := List.mem_singleton.1 hq
  rw [this]
  show (0 : Int) ≤ 0 ∧ (0 : Int) ≤ 1152921504606846975
  omega
end Go.Proofs.Ytfidjdlmmcaplaa
/-
  Link: the law Lost, run.
-/
namespace Go.Proofs.Ytfidjdlmmcaplaa
open Go

set_option maxRecDepth 100000 in
theorem loop9 {A : Arena} {v0 v1 v2 v4 : AV} {a : Nat} {qv lv : AV} (hE : EndAt A a metS qv lv) (b : Nat) (hb : ∀ j, j ∈ own a qv lv → b ≤ j) (hbA : b ≤ A.length) {m : Nat} (hm : m ≤ 20) (h0 : v0 = .int .i64 (m : Int)) :
    ∃ B qv', iter (evC (envOf GW fsL) 300 lp9x0) mask9x0 300 (st9x0 v0 v1 v2 v4 (.ptr a 0 0) (.int .i64 0)) A = some (.exit 0 ((st9x0 v0 v1 v2 v4 (.ptr a 0 0) (.int .i64 (m : Int))).set 15 (.bool false)) B) ∧
      EndAt B a (stN metS m) qv' lv ∧ (∀ j, j ∈ own a qv' lv → b ≤ j) ∧ A.length ≤ B.length ∧ ∀ j, j < b → B[j]? = A[j]? := by
  obtain ⟨o, h1, B, qv', rfl, h2⟩ := iter_inv (E := envOf GW fsL) (fuel := 300) (a := lp9x0) (mask := mask9x0)
    (fun κ σ A' => ∃ i qv', i + κ = m ∧ σ = st9x0 v0 v1 v2 v4 (.ptr a 0 0) (.int .i64 (i : Int)) ∧ EndAt A' a (stN metS i) qv' lv ∧ (∀ j, j ∈ own a qv' lv → b ≤ j) ∧ A.length ≤ A'.length ∧ ∀ j, j < b → A'[j]? = A[j]?)
    (fun o => ∃ B qv', o = .exit 0 ((st9x0 v0 v1 v2 v4 (.ptr a 0 0) (.int .i64 (m : Int))).set 15 (.bool false)) B ∧ EndAt B a (stN metS m) qv' lv ∧ (∀ j, j ∈ own a qv' lv → b ≤ j) ∧ A.length ≤ B.length ∧ ∀ j, j < b → B[j]? = A[j]?)
    (by
      rintro κ σ A' ⟨i, qv', hik, rfl, g1, g2, g3, g4⟩
      rw [cl9x0]
      have b1 := evLss (i : Int) (m : Int)
      by_cases hi : i < m
      · obtain ⟨C, q2, c1, c2, c3, c4⟩ := send_step g1 (by omega) (fun _ _ _ => none)
        have m17 := M17_eq (n := i + 1) (by omega)
        have b2 := evAdd (a := 1) (b := (i : Int)) (by omega)
        have b3 := evAdd (a := (i : Int)) (b := 1) (by omega)
        rw [show (1 : Int) + (i : Int) = ((i + 1 : Nat) : Int) by omega] at b2
        rw [show (i : Int) + 1 = ((i + 1 : Nat) : Int) by omega] at b3
        rw [decide_eq_true (by omega)] at b1
        obtain ⟨i1, hi1⟩ : ∃ i1, i1 = i + 1 := ⟨_, rfl⟩
        obtain ⟨T, hT⟩ : ∃ T, T = txt (i + 1) := ⟨_, rfl⟩
        rw [← hi1] at b2 b3
        rw [← hT] at m17 c1
        rw [← hi1] at m17
        refine .inl ⟨st9x0 v0 v1 v2 v4 (.ptr a 0 0) (.int .i64 (i1 : Int)), C, ?_, κ - 1, by omega, i1, q2, by omega, rfl, by rw [hi1]; exact c2, fun j hj => (c4 j hj).elim (g2 j) (fun h => by omega), Nat.le_trans g3 c3.1, fun j hj => ?_⟩
        · subst h0
          simp [lp9x0, b1, b2, b3, m17, c1, -evBin]
        · rw [c3.2 j (by omega) (fun h => by have := g2 j h; omega)]
          exact g4 j hj
      · obtain rfl : i = m := by omega
        rw [decide_eq_false (by omega)] at b1
        subst h0
        refine .inr ⟨_, ?_, (fun _ _ h => by cases h), A', qv', rfl, g1, g2, g3, g4⟩
        simp [lp9x0, b1, -evBin])
    300 m (st9x0 v0 v1 v2 v4 (.ptr a 0 0) (.int .i64 0)) A (by omega) ⟨0, qv, by omega, rfl, by rw [stN_zero rfl rfl]; exact hE, hb, Nat.le_refl _, fun _ _ => rfl⟩
  exact ⟨B, qv', h1, h2⟩
set_option maxRecDepth 100000 in
theorem loop9b {A : Arena} {v2 v4 v5 lv : AV} {k d : Nat} (hS : SlP 1 A lv (((List.range k).map fun i => txt (d + i + 1)).map .str)) (hk : k ≤ 20) (hd : d ≤ 8) :
    iter (evC (envOf GW fsL) 300 lp9x1) mask9x1 300 (st9x1 (.int .i64 (d : Int)) v2 v4 v5 lv (.int .i64 0)) A = some (.exit 2 ((st9x1 (.int .i64 (d : Int)) v2 v4 v5 lv (.int .i64 (k : Int))).set 17 (.bool false)) A) := by
  have hlen := hS.len
  simp only [List.length_map, List.length_range] at hlen
  obtain ⟨o, h1, rfl⟩ := iter_inv (E := envOf GW fsL) (fuel := 300) (a := lp9x1) (mask := mask9x1)
    (fun κ σ A' => ∃ i, i + κ = k ∧ σ = st9x1 (.int .i64 (d : Int)) v2 v4 v5 lv (.int .i64 (i : Int)) ∧ A' = A)
    (fun o => o = .exit 2 ((st9x1 (.int .i64 (d : Int)) v2 v4 v5 lv (.int .i64 (k : Int))).set 17 (.bool false)) A)
    (by
      rintro κ σ A' ⟨i, hik, rfl, rfl⟩
      rw [cl9x1]
      have b1 := evLss (i : Int) (k : Int)
      by_cases hi : i < k
      · rw [decide_eq_true (by omega)] at b1
        obtain ⟨r, es, _, e2, e3, e4⟩ := hS.index (i := i) (by simpa using hi) (by decide) .i64
        have ld : evLoad false 1 A' (.ptr r i 0) = some (.str (txt (d + i + 1))) := by
          simp only [evLoad, e2, e3]
          simp
        have b2 := evAdd (a := 1) (b := (d : Int)) (by omega)
        have b3 := evAdd (a := 1 + (d : Int)) (b := (i : Int)) (by omega)
        rw [show 1 + (d : Int) + (i : Int) = ((d + i + 1 : Nat) : Int) by omega] at b3
        obtain ⟨d1, hd1⟩ : ∃ d1, d1 = 1 + (d : Int) := ⟨_, rfl⟩
        rw [← hd1] at b2 b3
        have m17 := M17_eq (n := d + i + 1) (by omega)
        obtain ⟨w, hw⟩ : ∃ w, w = d + i + 1 := ⟨_, rfl⟩
        rw [← hw] at b3 m17 ld
        have b4 := evAdd (a := (i : Int)) (b := 1) (by omega)
        rw [show (i : Int) + 1 = ((i + 1 : Nat) : Int) by omega] at b4
        obtain ⟨i1, hi1⟩ : ∃ i1, i1 = i + 1 := ⟨_, rfl⟩
        rw [← hi1] at b4
        have b5 : evBin .neq (.str (txt w)) (.str (txt w)) = some (.bool false) := by simp [evBin]
        refine .inl ⟨_, A', ?_, κ - 1, by omega, i1, by omega, rfl, rfl⟩
        simp [lp9x1, hlen, b1, b2, b3, b4, b5, m17, e4, ld, -evBin, -evIndexSl, -evLoad, -evLenSl]
      · obtain rfl : i = k := by omega
        rw [decide_eq_false (by omega)] at b1
        refine .inr ⟨_, ?_, (fun _ _ h => by cases h), rfl⟩
        simp [lp9x1, hlen, b1, -evBin, -evLenSl])
    300 k (st9x1 (.int .i64 (d : Int)) v2 v4 v5 lv (.int .i64 0)) A (by omega) ⟨0, by omega, rfl, rfl⟩
  exact h1
set_option maxRecDepth 100000 in
set_option maxHeartbeats 16000000 in
theorem ev9 {x y z : Int} (hx : inI x) (hy : inI y) (hz : inI z) : evP (envOf GW fsL) 300 mf9 1 [.int .i64 x, .int .i64 y, .int .i64 z] = some (.bool true) := by
  have pm := pick_range x 21 (by omega)
  have m1 := M15_eq hx (show (0 : Int) < 21 by omega)
  obtain ⟨m, hm⟩ : ∃ m : Nat, (m : Int) = pick x 21 := ⟨(pick x 21).toNat, by omega⟩
  rw [← hm] at m1 pm
  have mn := minL_nat m 8
  rw [show ((8 : Nat) : Int) = 8 from rfl] at mn
  obtain ⟨w, hw⟩ : ∃ w, w = min m 8 := ⟨_, rfl⟩
  rw [← hw] at mn
  have b1 := evAdd (a := (w : Int)) (b := 1) (by omega)
  have pd := pick_range y ((w : Int) + 1) (by omega)
  have m2 := M15_eq hy (show (0 : Int) < (w : Int) + 1 by omega)
  obtain ⟨d, hd⟩ : ∃ d : Nat, (d : Int) = pick y ((w : Int) + 1) := ⟨(pick y ((w : Int) + 1)).toNat, by omega⟩
  rw [← hd] at m2 pd
  obtain ⟨w1, hw1⟩ : ∃ w1, w1 = (w : Int) + 1 := ⟨_, rfl⟩
  rw [← hw1] at b1 m2 pd
  have hd8 : d ≤ 8 ∧ d ≤ m := by omega
  obtain ⟨k, rfl⟩ : ∃ k, m = d + k := ⟨m - d, by omega⟩
  have pp := pick_range z 100 (by omega)
  have m3 := M15_eq hz (show (0 : Int) < 100 by omega)
  obtain ⟨p0, hp0⟩ : ∃ p0, p0 = pick z 100 := ⟨_, rfl⟩
  rw [← hp0] at m3 pp
  have b2 := evAdd (a := 6) (b := p0) (by omega)
  obtain ⟨p, hp⟩ : ∃ p, p = 6 + p0 := ⟨_, rfl⟩
  rw [← hp] at b2
  have hp6 : 6 ≤ p ∧ p ≤ 200 := by omega
  have b3 := evSub (a := ((d + k : Nat) : Int)) (b := (d : Int)) (by omega)
  rw [show ((d + k : Nat) : Int) - (d : Int) = (k : Int) by omega] at b3
  -- the run
  obtain ⟨A1, b, q1, l1, v1, g1, i1, F1⟩ := ev41 (fun _ _ _ => none) []
  rw [show ([] : Arena).length = 0 from rfl] at v1 g1 i1
  obtain ⟨A2, q2, lp, g2, i2, n2, k2⟩ := loop9 (v0 := .int .i64 ((d + k : Nat) : Int)) (v1 := .int .i64 (d : Int)) (v2 := .int .i64 z) (v4 := .bool true) g1 0 (fun _ _ => by omega) (by omega) (m := d + k) (by omega) rfl
  obtain ⟨A3, o3, v3, g3, s3, i3, F3⟩ := ev19 g2 (fun _ _ _ => none) (met_bd (d + k))
  rw [tick_met] at g3
  obtain ⟨A4, o4, v4, q4, l4, g4, s4, i4, j4, F4⟩ := ev23 (fun _ _ _ => none) g3 (by unfold fmS stN metS; simp) (by rw [fmS_len]; omega) (by unfold fmS stN metS; simp) (fAck (d : Int))
  rw [rec_ack hd8.1] at g4
  have w4 := ev27 g4 (fun _ _ _ => none)
  have hl4 : (akS d k).queue.length = k := by simp [akS]
  rw [hl4] at w4
  obtain ⟨A5, v5, g5, F5⟩ := ev28 g4 (fun _ _ _ => none)
  have e5 : { akS d k with lost := [] } = akS d k := rfl
  rw [e5] at g5
  have n5 := g4.2.2.1.len
  have n5' : evLenSl l4 = some (.int .i64 0) := n5
  obtain ⟨A6, o6, v6, q6, l6, g6, s6, i6, j6, F6⟩ := ev23 (fun _ _ _ => none) g5 (by unfold akS fmS stN metS; simp) (by rw [hl4]; omega) (by unfold akS fmS stN metS; simp) (fNew p)
  rw [rec_new hp6] at g6
  obtain ⟨A7, v7, g7, F7⟩ := ev28 g6 (fun _ _ _ => none)
  have S7 : SlP 1 A7 l6 (((List.range k).map fun i => txt (d + i + 1)).map .str) := g6.2.2.1.keep fun j hj => F7.2 j (g6.2.2.1.low j hj) (fun h => by
    rw [List.mem_singleton] at h
    subst h
    exact g6.2.2.2.2.1 hj)
  have e7 : { loS k d p with lost := [] } = loS 0 0 p := rfl
  rw [e7] at g7
  obtain ⟨A8, v8, g8, F8⟩ := ev28 g7 (fun _ _ _ => none)
  have e8 : { loS 0 0 p with lost := [] } = loS 0 0 p := rfl
  rw [e8] at g8
  have w8 := ev27 g8 (fun _ _ _ => none)
  have w8' : H27 (fun _ _ _ => none) [.ptr 0 0 0] A8 = some (.int .i64 0, A8) := w8
  have S8 : SlP 1 A8 l6 (((List.range k).map fun i => txt (d + i + 1)).map .str) := S7.keep fun j hj => F8.2 j (S7.low j hj) (fun h => by
    rw [List.mem_singleton] at h
    subst h
    exact g6.2.2.2.2.1 hj)
  have n8 := S8.len
  simp only [List.length_map, List.length_range] at n8
  have lp2 := loop9b (v2 := .int .i64 z) (v4 := .bool true) (v5 := .ptr 0 0 0) S8 (by omega) hd8.1
  obtain ⟨A9, o9, v9, q9, l9, g9, s9, i9, j9, F9⟩ := ev23 (fun _ _ _ => none) g8 (by simp [loS]) (by simp [loS]) (by simp [loS]) (fOld p)
  rw [rec_old hp6] at g9
  obtain ⟨A10, q10, v10, g10, F10, i10⟩ := ev16 g9 (fun _ _ _ => none) (b := bNew) (by unfold sendOk liS bNew; simp) (by simp [liS])
  rw [send_new] at g10
  obtain ⟨A11, o11, v11, g11, s11, i11, F11⟩ := ev19 g10 (fun _ _ _ => none) (lsS_bd p)
  rw [tick_new hp6.1] at s11
  have n11 := frLen s11
  have n11' : evLenSl o11 = some (.int .i64 1) := n11
  obtain ⟨r11, x11, l11⟩ := frAt s11 (i := 0) (by simp)
  have x11' : evIndexSl 5 A11 o11 (.int .i64 0) = some (.ptr r11 0 0) := x11
  have l11' : evLoad true 5 A11 (.ptr r11 0 0) = some (.agg [.int .i64 1, .int .i64 p, .int .i64 1, .int .i64 0, .str [110, 101, 119]]) := l11
  have v4' : H23 (fun _ _ _ => none) [.ptr 0 0 0, .agg [.int .i64 5, .int .i64 1, .int .i64 0, .int .i64 (d : Int), .str []]] A3 = some (o4, A4) := v4
  have v6' : H23 (fun _ _ _ => none) [.ptr 0 0 0, .agg [.int .i64 p, .int .i64 0, .int .i64 0, .int .i64 0, .str []]] A5 = some (o6, A6) := v6
  have v9' : H23 (fun _ _ _ => none) [.ptr 0 0 0, .agg [.int .i64 p, .int .i64 1, .int .i64 0, .int .i64 0, .str []]] A8 = some (o9, A9) := v9
  have v10' : H16 (fun _ _ _ => none) [.ptr 0 0 0, .str [110, 101, 119]] A9 = some (.int .i64 0, A10) := v10
  have v1' : H41 (fun _ _ _ => none) [] [] = some (.tup [.ptr 0 0 0, .ptr b 0 0, .bool true], A1) := v1
  obtain ⟨M, hM⟩ : ∃ M : Nat, M = d + k := ⟨_, rfl⟩
  rw [← hM] at m1 mn lp b3
  have c1 : evBin .neq (.int .i64 (k : Int)) (.int .i64 (k : Int)) = some (.bool false) := by rw [evNeq, decide_eq_false (by simp)]
  have c2 : evBin .neq (.int .i64 0) (.int .i64 0) = some (.bool false) := rfl
  have c3 : evBin .eql (.int .i64 1) (.int .i64 1) = some (.bool true) := rfl
  have n8' : evLenSl .nilS = some (.int .i64 0) := rfl
  have mn' : evMin2 false (.int .i64 (M : Int)) (.int .i64 8) = some (.int .i64 (w : Int)) := by simpa using mn
  rw [evP_run _ _ rfl]
  simp [mf9, pH0, pH2, m1, m2, m3, mn', b1, b2, b3, v1', go9x0 lp, v3, v4', w4, v5, n5', v6', v7, v8, w8', n8, n8', go9x1 lp2, v9', v10', v11, n11', x11', l11', c1, c2, c3, -evBin, -evMin2, -evLenSl, -evIndexSl, -evLoad, -pureH]
theorem ev9L (args : List AV) (h : LawArgs Try.prog 8 Try.f9.params.toList args) : ∃ fuel, evP (envOf GW fsL) fuel mf9 1 args = some (.bool true) := by
  rw [Try.params9] at h
  obtain ⟨a, r, rfl, h0, h⟩ := h.cons
  obtain ⟨b, r, rfl, h1, h⟩ := h.cons
  obtain ⟨c, r, rfl, h2, h⟩ := h.cons
  obtain rfl := h.nil
  obtain ⟨x, rfl, hx⟩ := TA.i64 Try.underlying3 h0
  obtain ⟨y, rfl, hy⟩ := TA.i64 Try.underlying3 h1
  obtain ⟨z, rfl, hz⟩ := TA.i64 Try.underlying3 h2
  exact ⟨300, ev9 hx hy hz⟩
end Go.Proofs.Ytfidjdlmmcaplaa
/-
  Link: the law Window, run.
-/
namespace Go.Proofs.Ytfidjdlmmcaplaa
open Go

theorem W0_stN (n : Nat) : stN (newS 3) n = W0 n 0 := rfl
set_option maxRecDepth 100000 in
theorem loop8a {A : Arena} {v0 v1 v2 v4 : AV} {a : Nat} {qv lv : AV} (hE : EndAt A a (newS 3) qv lv) {m : Nat} (hm : m ≤ 30) (h0 : v0 = .int .i64 (m : Int)) :
    ∃ B qv', iter (evC (envOf GW fsL) 300 lp8x0) mask8x0 300 (st8x0 v0 v1 v2 v4 (.ptr a 0 0) (.int .i64 0)) A = some (.exit 0 ((st8x0 v0 v1 v2 v4 (.ptr a 0 0) (.int .i64 (m : Int))).set 18 (.bool false)) B) ∧
      EndAt B a (stN (newS 3) m) qv' lv := by
  obtain ⟨o, h1, B, qv', rfl, h2⟩ := iter_inv (E := envOf GW fsL) (fuel := 300) (a := lp8x0) (mask := mask8x0)
    (fun κ σ A' => ∃ i qv', i + κ = m ∧ σ = st8x0 v0 v1 v2 v4 (.ptr a 0 0) (.int .i64 (i : Int)) ∧ EndAt A' a (stN (newS 3) i) qv' lv)
    (fun o => ∃ B qv', o = .exit 0 ((st8x0 v0 v1 v2 v4 (.ptr a 0 0) (.int .i64 (m : Int))).set 18 (.bool false)) B ∧ EndAt B a (stN (newS 3) m) qv' lv)
    (by
      rintro κ σ A' ⟨i, qv', hik, rfl, g1⟩
      rw [cl8x0]
      have b1 := evLss (i : Int) (m : Int)
      by_cases hi : i < m
      · obtain ⟨C, q2, c1, c2, c3, c4⟩ := send_step g1 (by omega) (fun _ _ _ => none)
        have m17 := M17_eq (n := i + 1) (by omega)
        have b2 := evAdd (a := 1) (b := (i : Int)) (by omega)
        have b3 := evAdd (a := (i : Int)) (b := 1) (by omega)
        rw [show (1 : Int) + (i : Int) = ((i + 1 : Nat) : Int) by omega] at b2
        rw [show (i : Int) + 1 = ((i + 1 : Nat) : Int) by omega] at b3
        rw [decide_eq_true (by omega)] at b1
        obtain ⟨i1, hi1⟩ : ∃ i1, i1 = i + 1 := ⟨_, rfl⟩
        obtain ⟨T, hT⟩ : ∃ T, T = txt (i + 1) := ⟨_, rfl⟩
        rw [← hi1] at b2 b3
        rw [← hT] at m17 c1
        rw [← hi1] at m17
        have n1 : evBin .neq (.int .i64 0) (.int .i64 0) = some (.bool false) := rfl
        refine .inl ⟨st8x0 v0 v1 v2 v4 (.ptr a 0 0) (.int .i64 (i1 : Int)), C, ?_, κ - 1, by omega, i1, q2, by omega, rfl, by rw [hi1]; exact c2⟩
        subst h0
        simp [lp8x0, b1, b2, b3, m17, c1, n1, -evBin]
      · obtain rfl : i = m := by omega
        rw [decide_eq_false (by omega)] at b1
        subst h0
        refine .inr ⟨_, ?_, (fun _ _ h => by cases h), A', qv', rfl, g1⟩
        simp [lp8x0, b1, -evBin])
    300 m (st8x0 v0 v1 v2 v4 (.ptr a 0 0) (.int .i64 0)) A (by omega) ⟨0, qv, by omega, rfl, by rw [stN_zero rfl rfl]; exact hE⟩
  exact ⟨B, qv', h1, h2⟩
theorem rem3 (i : Nat) : evBin .rem (.int .i64 (i : Int)) (.int .i64 3) = some (.int .i64 ((i % 3 : Nat) : Int)) := by
  have : (i : Int).tmod 3 = ((i % 3 : Nat) : Int) := by rw [Int.tmod_eq_emod_of_nonneg (by omega)]; omega
  simp only [evBin]; rw [if_pos trivial, if_neg (by decide), this]
def hRow : Ent := .row 5 false [frA fHello]
def mRow : Ent := .row 5 false [frA fMet]
set_option maxRecDepth 100000 in
theorem loop8b {A : Arena} {v0 v2 v4 v9 : AV} {y : Int} {a hr n k : Nat} {qv lv : AV} (hE : EndAt A a (W0 n 0) qv lv) (hr1 : A[hr]? = some hRow) (hr2 : hr ∉ own a qv lv) (hk : k ≤ 7) (m1 : M15 [.int .i64 y, .int .i64 8] = some (.int .i64 (k : Int))) :
    ∃ B, iter (evC (envOf GW fsL) 300 lp8x1) mask8x1 300 (st8x1 v0 (.int .i64 y) v2 v4 (.ptr a 0 0) (.ptr hr 0 0) v9 (.int .i64 0)) A = some (.exit 2 ((st8x1 v0 (.int .i64 y) v2 v4 (.ptr a 0 0) (.ptr hr 0 0) v9 (.int .i64 (k : Int))).set 20 (.bool false)) B) ∧
      EndAt B a (W0 n k) qv lv ∧ Fr A B (own a qv lv) := by
  obtain ⟨o, h1, B, rfl, h2⟩ := iter_inv (E := envOf GW fsL) (fuel := 300) (a := lp8x1) (mask := mask8x1)
    (fun κ σ A' => ∃ i, i + κ = k ∧ σ = st8x1 v0 (.int .i64 y) v2 v4 (.ptr a 0 0) (.ptr hr 0 0) v9 (.int .i64 (i : Int)) ∧ EndAt A' a (W0 n i) qv lv ∧ Fr A A' (own a qv lv))
    (fun o => ∃ B, o = .exit 2 ((st8x1 v0 (.int .i64 y) v2 v4 (.ptr a 0 0) (.ptr hr 0 0) v9 (.int .i64 (k : Int))).set 20 (.bool false)) B ∧ EndAt B a (W0 n k) qv lv ∧ Fr A B (own a qv lv))
    (by
      rintro κ σ A' ⟨i, hik, rfl, g1, g2⟩
      rw [cl8x1]
      have b1 := evLss (i : Int) (k : Int)
      by_cases hi : i < k
      · rw [decide_eq_true (by omega)] at b1
        obtain ⟨B, o, v, g3, s3, i3, F3⟩ := ev19 g1 (fun _ _ _ => none) (W0_bd n (by omega))
        rw [tick_W0 n (by omega)] at g3 s3
        have b2 := rem3 i
        have b3 := evEql ((i % 3 : Nat) : Int) 0
        have b4 := evNeq ((i % 3 : Nat) : Int) 0
        have b5 := evAdd (a := (i : Int)) (b := 1) (by omega)
        rw [show (i : Int) + 1 = ((i + 1 : Nat) : Int) by omega] at b5
        obtain ⟨i1, hi1⟩ : ∃ i1, i1 = i + 1 := ⟨_, rfl⟩
        obtain ⟨z, hz⟩ : ∃ z, z = i % 3 := ⟨_, rfl⟩
        rw [← hi1] at b5
        rw [← hz] at b2 b3 b4 s3
        refine .inl ⟨_, B, ?_, κ - 1, by omega, i1, by omega, rfl, by rw [hi1]; exact g3, g2.trans F3 fun j hj => .inl hj⟩
        have hrB : B[hr]? = some hRow := by
          rw [F3.2 hr (Nat.lt_of_lt_of_le (List.getElem?_eq_some_iff.1 hr1).1 g2.1) hr2, g2.2 hr (List.getElem?_eq_some_iff.1 hr1).1 hr2, hr1]
        have lh : evLoad true 5 B (.ptr hr 0 0) = some (frA fHello) := evLoad_row5 hrB
        have n1 : evBin .neq (.int .i64 1) (.int .i64 1) = some (.bool false) := rfl
        have n0 : evBin .neq (.int .i64 0) (.int .i64 0) = some (.bool false) := rfl
        have q : evEqAgg true [(0, 1), (1, 1), (2, 1), (3, 1), (4, 2)] (frA fHello) (frA fHello) = some (.bool false) := by rfl
        by_cases hz0 : z = 0
        · rw [if_pos hz0] at s3
          have hl := frLen s3
          have hl' : evLenSl o = some (.int .i64 1) := hl
          obtain ⟨r, x, l⟩ := frAt s3 (i := 0) (by simp)
          have x' : evIndexSl 5 B o (.int .i64 0) = some (.ptr r 0 0) := x
          have l' : evLoad true 5 B (.ptr r 0 0) = some (frA fHello) := l
          rw [decide_eq_true (by omega)] at b3
          rw [decide_eq_false (by omega)] at b4
          obtain ⟨F, hF⟩ : ∃ F, F = frA fHello := ⟨_, rfl⟩
          rw [← hF] at lh l' q
          simp [lp8x1, pH2, m1, b1, b2, b3, b4, b5, v, hl', x', l', lh, q, n1, -evBin, -evLenSl, -evIndexSl, -evLoad, -evEqAgg, -pureH]
        · rw [if_neg hz0] at s3
          have hl := frLen s3
          have hl' : evLenSl o = some (.int .i64 0) := hl
          rw [decide_eq_false (by omega)] at b3
          rw [decide_eq_true (by omega)] at b4
          simp [lp8x1, pH2, m1, b1, b2, b3, b4, b5, v, hl', n0, -evBin, -evLenSl, -evIndexSl, -evLoad, -evEqAgg, -pureH]
      · obtain rfl : i = k := by omega
        rw [decide_eq_false (by omega)] at b1
        refine .inr ⟨_, ?_, (fun _ _ h => by cases h), A', rfl, g1, g2⟩
        simp [lp8x1, pH2, m1, b1, -evBin, -pureH])
    300 k (st8x1 v0 (.int .i64 y) v2 v4 (.ptr a 0 0) (.ptr hr 0 0) v9 (.int .i64 0)) A (by omega) ⟨0, by omega, rfl, hE, Fr.refl _ _⟩
  exact ⟨B, h1, h2⟩
set_option maxRecDepth 100000 in
theorem loop8c {A : Arena} {v0 v2 v4 v5 v9 v12 o : AV} {n : Nat} (hS : SlP 5 A o ((outW n).map frA)) :
    ∃ B, iter (evC (envOf GW fsL) 300 lp8x2) mask8x2 300 (st8x2 v0 v2 v4 v5 v9 v12 o (.int .i64 0)) A = some (.exit 6 ((st8x2 v0 v2 v4 v5 v9 v12 o (.int .i64 ((min n 8 : Nat) : Int))).set 27 (.bool false)) B) ∧ Fr A B [] := by
  obtain ⟨k, hk⟩ : ∃ k, k = min n 8 := ⟨_, rfl⟩
  rw [← hk]
  have hlw := outW_len n
  rw [← hk] at hlw
  obtain ⟨r, h1, B, rfl, h2⟩ := iter_inv (E := envOf GW fsL) (fuel := 300) (a := lp8x2) (mask := mask8x2)
    (fun κ σ A' => ∃ i, i + κ = k ∧ σ = st8x2 v0 v2 v4 v5 v9 v12 o (.int .i64 (i : Int)) ∧ Fr A A' [])
    (fun r => ∃ B, r = .exit 6 ((st8x2 v0 v2 v4 v5 v9 v12 o (.int .i64 (k : Int))).set 27 (.bool false)) B ∧ Fr A B [])
    (by
      rintro κ σ A' ⟨i, hik, rfl, g1⟩
      rw [cl8x2]
      have hS' : SlP 5 A' o ((outW n).map frA) := hS.keep fun j hj => g1.2 j (hS.low j hj) (by simp)
      have hl := frLen hS'
      rw [hlw] at hl
      have b1 := evLss (i : Int) (k : Int)
      by_cases hi : i < k
      · rw [decide_eq_true (by omega)] at b1
        have b2 := evAdd (a := 1) (b := (i : Int)) (by omega)
        have b3 := evAdd (a := (i : Int)) (b := 1) (by omega)
        rw [show (1 : Int) + (i : Int) = ((i + 1 : Nat) : Int) by omega] at b2
        rw [show (i : Int) + 1 = ((i + 1 : Nat) : Int) by omega] at b3
        have m17 := M17_eq (n := i + 1) (by omega)
        have hG : (outW n)[i]'(by omega) = ⟨3, 9, ((i + 1 : Nat) : Int), 0, txt (i + 1)⟩ := by
          simp only [outW, List.getElem_map, List.getElem_range]
          congr 1
          omega
        obtain ⟨i1, hi1⟩ : ∃ i1, i1 = i + 1 := ⟨_, rfl⟩
        obtain ⟨T, hT⟩ : ∃ T, T = txt (i + 1) := ⟨_, rfl⟩
        rw [← hT, ← hi1] at hG
        rw [← hi1] at b2 b3
        rw [← hT, ← hi1] at m17
        obtain ⟨B, hB⟩ : ∃ B, B = A' ++ [Ent.row 5 false [.agg [.int .i64 3, .int .i64 9, .int .i64 (i1 : Int), .int .i64 0, .str T]]] := ⟨_, rfl⟩
        have F2 : Fr A' B [] := by rw [hB]; exact Fr.app _ _ _
        have hSB : SlP 5 B o ((outW n).map frA) := hS'.keep fun j hj => F2.2 j (hS'.low j hj) (by simp)
        obtain ⟨r, x, l⟩ := frAt hSB (i := i) (by omega)
        rw [hG] at l
        have l' : evLoad true 5 B (.ptr r i 0) = some (.agg [.int .i64 3, .int .i64 9, .int .i64 (i1 : Int), .int .i64 0, .str T]) := l
        have lB : evLoad true 5 B (.ptr A'.length 0 0) = some (.agg [.int .i64 3, .int .i64 9, .int .i64 (i1 : Int), .int .i64 0, .str T]) := by
          have : B[A'.length]? = some (.row 5 false [.agg [.int .i64 3, .int .i64 9, .int .i64 (i1 : Int), .int .i64 0, .str T]]) := by rw [hB]; simp
          simp only [evLoad, this]
          rfl
        have st : evStore 5 (A' ++ [Ent.row 5 false [.agg [.int .i64 0, .int .i64 0, .int .i64 0, .int .i64 0, .str []]]]) (.ptr A'.length 0 0) (.agg [.int .i64 3, .int .i64 9, .int .i64 (i1 : Int), .int .i64 0, .str T]) = some B := by
          rw [hB]
          simp [evStore]
        refine .inl ⟨_, B, ?_, κ - 1, by omega, i1, by omega, rfl, g1.trans F2 fun j hj => by simp at hj⟩
        simp [lp8x2, b1, b2, b3, hl, m17, st, x, l', lB, -evBin, -evLenSl, -evIndexSl, -evLoad, -evStore]
      · obtain rfl : i = k := by omega
        rw [decide_eq_false (by omega)] at b1
        refine .inr ⟨_, ?_, (fun _ _ h => by cases h), A', rfl, g1⟩
        simp [lp8x2, b1, hl, -evBin, -evLenSl])
    300 k (st8x2 v0 v2 v4 v5 v9 v12 o (.int .i64 0)) A (by omega) ⟨0, by omega, rfl, Fr.refl _ _⟩
  exact ⟨B, h1, h2⟩
set_option maxRecDepth 100000 in
set_option maxHeartbeats 4000000 in
theorem loop8d {A : Arena} {v0 v4 : AV} {z : Int} {a mr n k c : Nat} {qv lv : AV} (hE : EndAt A a (W3 n k 0) qv lv) (hr1 : A[mr]? = some mRow) (hr2 : mr ∉ own a qv lv) (hn : n ≤ 30) (hk : k ≤ 7) (hc : c ≤ 7) (m1 : M15 [.int .i64 z, .int .i64 8] = some (.int .i64 (c : Int))) (h0 : v0 = .int .i64 (n : Int)) :
    ∃ B, iter (evC (envOf GW fsL) 300 lp8x3) mask8x3 300 (st8x3 v0 (.int .i64 z) v4 (.ptr a 0 0) (.ptr mr 0 0) (.int .i64 0)) A = some (.exit 4 ((st8x3 v0 (.int .i64 z) v4 (.ptr a 0 0) (.ptr mr 0 0) (.int .i64 ((c + 1 : Nat) : Int))).set 22 (.bool false)) B) ∧
      EndAt B a (W3 n k (c + 1)) qv lv ∧ Fr A B (own a qv lv) := by
  obtain ⟨k1, hk1⟩ : ∃ k1, k1 = c + 1 := ⟨_, rfl⟩
  have bc := evAdd (a := 1) (b := (c : Int)) (by omega)
  rw [show (1 : Int) + (c : Int) = ((c + 1 : Nat) : Int) by omega, ← hk1] at bc
  rw [← hk1]
  obtain ⟨o, h1, B, rfl, h2⟩ := iter_inv (E := envOf GW fsL) (fuel := 300) (a := lp8x3) (mask := mask8x3)
    (fun κ σ A' => ∃ i, i + κ = k1 ∧ σ = st8x3 v0 (.int .i64 z) v4 (.ptr a 0 0) (.ptr mr 0 0) (.int .i64 (i : Int)) ∧ EndAt A' a (W3 n k i) qv lv ∧ Fr A A' (own a qv lv))
    (fun o => ∃ B, o = .exit 4 ((st8x3 v0 (.int .i64 z) v4 (.ptr a 0 0) (.ptr mr 0 0) (.int .i64 (k1 : Int))).set 22 (.bool false)) B ∧ EndAt B a (W3 n k k1) qv lv ∧ Fr A B (own a qv lv))
    (by
      rintro κ σ A' ⟨i, hik, rfl, g1, g2⟩
      rw [cl8x3]
      have b1 := evLss (i : Int) (k1 : Int)
      by_cases hi : i < k1
      · rw [decide_eq_true (by omega)] at b1
        obtain ⟨B, o, v, g3, s3, i3, F3⟩ := ev19 g1 (fun _ _ _ => none) (W3_bd n (by omega) (by omega))
        rw [tick_W3 n k i] at g3 s3
        have b2 := rem3 i
        have b4 := evNeq ((i % 3 : Nat) : Int) 0
        have b5 := evAdd (a := (i : Int)) (b := 1) (by omega)
        rw [show (i : Int) + 1 = ((i + 1 : Nat) : Int) by omega] at b5
        have b6 := evEql (i : Int) 0
        have b7 := evEql (n : Int) 0
        have mn := minL_nat n 8
        have mn' : evMin2 false (.int .i64 (n : Int)) (.int .i64 8) = some (.int .i64 ((min n 8 : Nat) : Int)) := by simpa using mn
        obtain ⟨w, hw⟩ : ∃ w, w = min n 8 := ⟨_, rfl⟩
        rw [← hw] at mn'
        have hrB : B[mr]? = some mRow := by
          rw [F3.2 mr (Nat.lt_of_lt_of_le (List.getElem?_eq_some_iff.1 hr1).1 g2.1) hr2, g2.2 mr (List.getElem?_eq_some_iff.1 hr1).1 hr2, hr1]
        have lh : evLoad true 5 B (.ptr mr 0 0) = some (frA fMet) := evLoad_row5 hrB
        have q : evEqAgg true [(0, 1), (1, 1), (2, 1), (3, 1), (4, 2)] (frA fMet) (frA fMet) = some (.bool false) := by rfl
        have n1 : evBin .neq (.int .i64 1) (.int .i64 1) = some (.bool false) := rfl
        have n0 : evBin .neq (.int .i64 0) (.int .i64 0) = some (.bool false) := rfl
        have nw : evBin .neq (.int .i64 (w : Int)) (.int .i64 (w : Int)) = some (.bool false) := by rw [evNeq, decide_eq_false (by simp)]
        have l00 : evBin .lss (.int .i64 0) (.int .i64 0) = some (.bool false) := rfl
        subst h0
        by_cases hA : i = 0 ∧ n = 0
        · obtain ⟨rfl, rfl⟩ := hA
          rw [if_pos ⟨rfl, rfl⟩] at s3
          have hl := frLen s3
          have hl' : evLenSl o = some (.int .i64 1) := hl
          obtain ⟨r, x, l⟩ := frAt s3 (i := 0) (by simp)
          have x' : evIndexSl 5 B o (.int .i64 0) = some (.ptr r 0 0) := x
          have l' : evLoad true 5 B (.ptr r 0 0) = some (frA fMet) := l
          refine .inl ⟨_, B, ?_, κ - 1, by omega, 1, by omega, rfl, g3, g2.trans F3 fun j hj => .inl hj⟩
          rw [decide_eq_true (by omega)] at b6 b7
          rw [decide_eq_false (by simp)] at b4
          have b4' : evBin .neq (.int .i64 0) (.int .i64 0) = some (.bool false) := rfl
          have b2' : evBin .rem (.int .i64 0) (.int .i64 3) = some (.int .i64 0) := rfl
          have b5' : evBin .add (.int .i64 0) (.int .i64 1) = some (.int .i64 1) := rfl
          have b6' : evBin .eql (.int .i64 0) (.int .i64 0) = some (.bool true) := rfl
          have b1' : evBin .lss (.int .i64 0) (.int .i64 (k1 : Int)) = some (.bool true) := b1
          have mn2 : evMin2 false (.int .i64 0) (.int .i64 8) = some (.int .i64 0) := by rw [hw] at mn'; exact mn'
          obtain ⟨F, hF⟩ : ∃ F, F = frA fMet := ⟨_, rfl⟩
          rw [← hF] at lh l' q
          simp [lp8x3, pH2, m1, bc, b1', b2', b4', b5', b6', mn2, v, hl', x', l', lh, q, n1, -evBin, -evLenSl, -evIndexSl, -evLoad, -evEqAgg, -evMin2, -pureH]
        · rw [if_neg hA] at s3
          have hcond : (decide ((i : Int) = 0) && decide ((n : Int) = 0)) = false := by
            rw [Bool.and_eq_false_iff, decide_eq_false_iff_not, decide_eq_false_iff_not]
            omega
          by_cases hz0 : i % 3 = 0
          · rw [if_pos hz0] at s3
            have hl := frLen s3
            rw [outW_len, ← hw] at hl
            obtain ⟨C, lp, F4⟩ := loop8c (v0 := .int .i64 (n : Int)) (v2 := .int .i64 z) (v4 := v4) (v5 := .ptr a 0 0) (v9 := .ptr mr 0 0) (v12 := .int .i64 (i : Int)) s3
            rw [← hw] at lp
            refine .inl ⟨_, C, ?_, κ - 1, by omega, i + 1, by omega, rfl, g3.beside F4 (fun j _ => by simp), (g2.trans F3 fun j hj => .inl hj).trans F4 fun j hj => by simp at hj⟩
            rw [hz0] at b2 b4
            have b4' : evBin .neq (.int .i64 ((0 : Nat) : Int)) (.int .i64 0) = some (.bool false) := rfl
            obtain ⟨i1, hi1⟩ : ∃ i1, i1 = i + 1 := ⟨_, rfl⟩
            rw [← hi1] at b5 ⊢
            obtain ⟨z0, hz0'⟩ : ∃ z0 : Int, z0 = ((0 : Nat) : Int) := ⟨_, rfl⟩
            rw [← hz0'] at b2 b4'
            obtain ⟨d1, hd1⟩ : ∃ d, d = decide ((i : Int) = 0) := ⟨_, rfl⟩
            obtain ⟨d2, hd2⟩ : ∃ d, d = decide ((n : Int) = 0) := ⟨_, rfl⟩
            rw [← hd1] at b6 hcond
            rw [← hd2] at b7 hcond
            cases d1
            · simp [lp8x3, pH2, m1, bc, b1, b2, b4', b5, b6, b7, mn', v, hl, nw, go8x2 lp, -evBin, -evLenSl, -evIndexSl, -evLoad, -evEqAgg, -evMin2, -pureH]
            · obtain rfl : d2 = false := by simpa using hcond
              simp [lp8x3, pH2, m1, bc, b1, b2, b4', b5, b6, b7, mn', v, hl, nw, go8x2 lp, -evBin, -evLenSl, -evIndexSl, -evLoad, -evEqAgg, -evMin2, -pureH]
          · rw [if_neg hz0] at s3
            have hl := frLen s3
            have hl' : evLenSl o = some (.int .i64 0) := hl
            have s0 : SlP 5 B o ((outW 0).map frA) := s3
            obtain ⟨C, lp, F4⟩ := loop8c (v0 := .int .i64 (n : Int)) (v2 := .int .i64 z) (v4 := v4) (v5 := .ptr a 0 0) (v9 := .ptr mr 0 0) (v12 := .int .i64 (i : Int)) s0
            refine .inl ⟨_, C, ?_, κ - 1, by omega, i + 1, by omega, rfl, g3.beside F4 (fun j _ => by simp), (g2.trans F3 fun j hj => .inl hj).trans F4 fun j hj => by simp at hj⟩
            rw [decide_eq_true (by omega)] at b4
            obtain ⟨q0, hq0⟩ : ∃ q0, q0 = i % 3 := ⟨_, rfl⟩
            rw [← hq0] at b2 b4
            obtain ⟨i1, hi1⟩ : ∃ i1, i1 = i + 1 := ⟨_, rfl⟩
            rw [← hi1] at b5 ⊢
            rw [decide_eq_false (by omega)] at b6
            simp [lp8x3, pH2, m1, bc, b1, b2, b4, b5, b6, mn', v, hl', n0, go8x2 lp, -evBin, -evLenSl, -evIndexSl, -evLoad, -evEqAgg, -evMin2, -pureH]
      · obtain rfl : i = k1 := by omega
        rw [decide_eq_false (by omega)] at b1
        refine .inr ⟨_, ?_, (fun _ _ h => by cases h), A', rfl, g1, g2⟩
        simp [lp8x3, pH2, m1, bc, b1, -evBin, -pureH])
    300 k1 (st8x3 v0 (.int .i64 z) v4 (.ptr a 0 0) (.ptr mr 0 0) (.int .i64 0)) A (by omega) ⟨0, by omega, rfl, hE, Fr.refl _ _⟩
  exact ⟨B, h1, h2⟩
end Go.Proofs.Ytfidjdlmmcaplaa
/-
  Link: the law Window, whole.
-/
namespace Go.Proofs.Ytfidjdlmmcaplaa
open Go

set_option maxRecDepth 100000 in
set_option maxHeartbeats 16000000 in
theorem ev8 {x y z : Int} (hx : inI x) (hy : inI y) (hz : inI z) : evP (envOf GW fsL) 300 mf8 1 [.int .i64 x, .int .i64 y, .int .i64 z] = some (.bool true) := by
  have pm := pick_range x 31 (by omega)
  have m1 := M15_eq hx (show (0 : Int) < 31 by omega)
  obtain ⟨m, hm⟩ : ∃ m : Nat, (m : Int) = pick x 31 := ⟨(pick x 31).toNat, by omega⟩
  rw [← hm] at m1 pm
  have pk := pick_range y 8 (by omega)
  have m2 := M15_eq hy (show (0 : Int) < 8 by omega)
  obtain ⟨k, hk⟩ : ∃ k : Nat, (k : Int) = pick y 8 := ⟨(pick y 8).toNat, by omega⟩
  rw [← hk] at m2 pk
  have pc := pick_range z 8 (by omega)
  have m3 := M15_eq hz (show (0 : Int) < 8 by omega)
  obtain ⟨c, hc⟩ : ∃ c : Nat, (c : Int) = pick z 8 := ⟨(pick z 8).toNat, by omega⟩
  rw [← hc] at m3 pc
  obtain ⟨A1, v1, g1, F1⟩ := (ev13 (fun _ _ _ => none) [] 3).1 (by omega)
  rw [show ([] : Arena).length = 0 from rfl] at v1 g1
  obtain ⟨A2, q2, lp, g2⟩ := loop8a (v0 := .int .i64 (m : Int)) (v1 := .int .i64 y) (v2 := .int .i64 z) (v4 := .bool true) g1 (m := m) (by omega) rfl
  rw [W0_stN] at g2
  obtain ⟨A3, hA3⟩ : ∃ A3, A3 = A2 ++ [hRow] := ⟨_, rfl⟩
  obtain ⟨A4, hA4⟩ : ∃ A4, A4 = A3 ++ [mRow] := ⟨_, rfl⟩
  have F3 : Fr A2 A3 [] := by rw [hA3]; exact Fr.app _ _ _
  have F4 : Fr A3 A4 [] := by rw [hA4]; exact Fr.app _ _ _
  have g4 := (g2.beside F3 (fun j _ => by simp)).beside F4 (fun j _ => by simp)
  have l3 : A3.length = A2.length + 1 := by rw [hA3]; simp
  have h4 : A4[A2.length]? = some hRow := by
    rw [F4.2 _ (by omega) (by simp), hA3]; simp
  have m4 : A4[A3.length]? = some mRow := by rw [hA4]; simp
  have o2 : ∀ j, j ∈ own 0 q2 .nilS → j < A2.length := g2.low
  have st3 : evStore 5 (A2 ++ [Ent.row 5 false [.agg [.int .i64 0, .int .i64 0, .int .i64 0, .int .i64 0, .str []]]]) (.ptr A2.length 0 0) (.agg [.int .i64 3, .int .i64 0, .int .i64 0, .int .i64 0, .str []]) = some A3 := by
    rw [hA3]
    simp [evStore, hRow, frA, fHello]
  have st4 : evStore 5 (A3 ++ [Ent.row 5 false [.agg [.int .i64 0, .int .i64 0, .int .i64 0, .int .i64 0, .str []]]]) (.ptr A3.length 0 0) (.agg [.int .i64 3, .int .i64 9, .int .i64 0, .int .i64 0, .str []]) = some A4 := by
    rw [hA4]
    simp [evStore, mRow, frA, fMet]
  obtain ⟨A5, lp2, g5, F5⟩ := loop8b (v0 := .int .i64 (m : Int)) (v2 := .int .i64 z) (v4 := .bool true) (v9 := .ptr A3.length 0 0) (y := y) (k := k) g4 h4 (fun h => by have := o2 _ h; omega) (by omega) m2
  have m5 : A5[A3.length]? = some mRow := by
    rw [F5.2 _ (by rw [hA4]; simp) (fun h => by have := o2 _ h; omega)]
    exact m4
  obtain ⟨A6, o6, v6, q6, l6, g6, s6, i6, j6, F6⟩ := ev23 (fun _ _ _ => none) g5 (by simp [W0]) (by simp [W0, msgs_len]; omega) (by simp [W0]) f9
  rw [rec_W0] at g6
  have hl5 : A3.length < A5.length := (List.getElem?_eq_some_iff.1 m5).1
  have no5 : A3.length ∉ own 0 q2 .nilS := fun h => by have := o2 _ h; omega
  have m6 : A6[A3.length]? = some mRow := by
    rw [F6.2 _ hl5 no5]
    exact m5
  have no6 : A3.length ∉ own 0 q6 l6 := fun h => (j6 _ h).elim no5 (fun h => by omega)
  obtain ⟨A7, o7, v7, q7, l7, g7, s7, i7, j7, F7⟩ := ev23 (fun _ _ _ => none) g6 (by simp [W1]) (by simp [W1, msgs_len]; omega) (by simp [W1]) f93
  rw [rec_W1] at g7
  have m7 : A7[A3.length]? = some mRow := by
    rw [F7.2 _ (Nat.lt_of_lt_of_le hl5 F6.1) no6]
    exact m6
  have no7 : A3.length ∉ own 0 q7 l7 := fun h => (j7 _ h).elim no6 (fun h => by have := F6.1; omega)
  obtain ⟨A8, lp3, g8, F8⟩ := loop8d (v0 := .int .i64 (m : Int)) (v4 := .bool true) (z := z) (c := c) g7 m7 no7 (by omega) (by omega) (by omega) m3 rfl
  have w8 := ev27 g8 (fun _ _ _ => none)
  rw [show (W3 m k (c + 1)).queue.length = m from ws_len m _] at w8
  have v6' : H23 (fun _ _ _ => none) [.ptr 0 0 0, .agg [.int .i64 9, .int .i64 0, .int .i64 0, .int .i64 0, .str []]] A5 = some (o6, A6) := v6
  have v7' : H23 (fun _ _ _ => none) [.ptr 0 0 0, .agg [.int .i64 9, .int .i64 3, .int .i64 0, .int .i64 0, .str []]] A6 = some (o7, A7) := v7
  have emm : evBin .eql (.int .i64 (m : Int)) (.int .i64 (m : Int)) = some (.bool true) := by rw [evEql, decide_eq_true rfl]
  have n0 : evBin .neq (.int .i64 0) (.int .i64 0) = some (.bool false) := rfl
  obtain ⟨c1, hc1⟩ : ∃ c1, c1 = c + 1 := ⟨_, rfl⟩
  rw [← hc1] at lp3
  rw [evP_run _ _ rfl]
  simp [mf8, pH0, pH2, m1, v1, go8x0 lp, st3, st4, go8x1 lp2, v6', v7', go8x3 lp3, w8, emm, n0, -evBin, -evStore, -pureH]
theorem ev8L (args : List AV) (h : LawArgs Try.prog 8 Try.f8.params.toList args) : ∃ fuel, evP (envOf GW fsL) fuel mf8 1 args = some (.bool true) := by
  rw [Try.params8] at h
  obtain ⟨a, r, rfl, h0, h⟩ := h.cons
  obtain ⟨b, r, rfl, h1, h⟩ := h.cons
  obtain ⟨c, r, rfl, h2, h⟩ := h.cons
  obtain rfl := h.nil
  obtain ⟨x, rfl, hx⟩ := TA.i64 Try.underlying3 h0
  obtain ⟨y, rfl, hy⟩ := TA.i64 Try.underlying3 h1
  obtain ⟨z, rfl, hz⟩ := TA.i64 Try.underlying3 h2
  exact ⟨300, ev8 hx hy hz⟩
end Go.Proofs.Ytfidjdlmmcaplaa
