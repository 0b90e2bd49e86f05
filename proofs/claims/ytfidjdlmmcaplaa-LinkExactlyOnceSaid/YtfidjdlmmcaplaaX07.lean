/-
  What the proof is built on (L59 to L62).
-/
import Derived.Test.YtfidjdlmmcaplaaX06
/-
  Link: a deed.
-/
namespace Go.Proofs.Ytfidjdlmmcaplaa
open Go

noncomputable def fs37 : List (FuncId × HModel) := [(13, H13), (15, pureH 4 M15), (16, H16), (17, pureH 4 M17), (26, pureH 4 M26), (38, H38), (39, H39), (40, H40)]
@[simp] theorem fs37_13 : lookM fs37 13 = some (H13) := rfl
@[simp] theorem fs37_15 : lookM fs37 15 = some (pureH 4 M15) := rfl
@[simp] theorem fs37_16 : lookM fs37 16 = some (H16) := rfl
@[simp] theorem fs37_17 : lookM fs37 17 = some (pureH 4 M17) := rfl
@[simp] theorem fs37_26 : lookM fs37 26 = some (pureH 4 M26) := rfl
@[simp] theorem fs37_38 : lookM fs37 38 = some (H38) := rfl
@[simp] theorem fs37_39 : lookM fs37 39 = some (H39) := rfl
@[simp] theorem fs37_40 : lookM fs37 40 = some (H40) := rfl
theorem sound37 : ∀ f M, lookM fs37 f = some M → FnSpecY Try.prog GW f M := lookM_cons spec13 (lookM_cons (FnSpecY.of_pure spec15 4) (lookM_cons spec16 (lookM_cons (FnSpecY.of_pure spec17 4) (lookM_cons (FnSpecY.of_pure spec26 4) (lookM_cons spec38 (lookM_cons spec39 (lookM_cons spec40 lookM_nil)))))))
noncomputable def H37 : HModel := fun _ => evFun (envOf GW fs37) 300 mf37
theorem spec37 : FnSpecY Try.prog GW 37 H37 := (evFun_sound (envOf_sound sound37) rfl at37 comp37 (by first | exact PureIn.nil | (repeat (first | exact PureIn.nil | refine PureIn.cons (M := _) rfl ?_)))).y
def DR0 : MC := .region [⟨some 2, .box (.var 1), none⟩]
def DR1 : MC := .region [⟨none, .indexArr 3 1 (.var 2) (.cst (.int .i64 1)), none⟩, ⟨none, .load false 1 (.tmp 0), none⟩, ⟨none, .call (.fn 15) [.tmp 1, .cst (.int .i64 2)], none⟩, ⟨some 3, .mv (.tmp 2), none⟩]
def DR2 : MC := .region [⟨none, .indexArr 3 1 (.var 2) (.cst (.int .i64 0)), none⟩, ⟨none, .load false 1 (.tmp 0), none⟩, ⟨some 8, .call (.fn 15) [.tmp 1, .cst (.int .i64 12)], none⟩]
def DTST1 : MC := .seq (.region [⟨none, .bin .eql (.var 8) (.cst (.int .i64 0)), none⟩, ⟨some 12, .mv (.tmp 0), none⟩]) (.cond (.var 12) .skip (.seq (.region [⟨none, .bin .eql (.var 8) (.cst (.int .i64 1)), none⟩, ⟨some 12, .mv (.tmp 0), none⟩]) (.cond (.var 12) .skip (.region [⟨none, .bin .eql (.var 8) (.cst (.int .i64 2)), none⟩, ⟨some 12, .mv (.tmp 0), none⟩]))))
def DSD0 : MC := .region [⟨none, .mv (.var 0), none⟩, ⟨none, .mv (.var 3), none⟩, ⟨none, .nilCheck (.tmp 0), none⟩, ⟨none, .fieldAddr 0 (.tmp 2), none⟩, ⟨none, .indexArr 2 1 (.tmp 3) (.tmp 1), none⟩, ⟨none, .load false 1 (.tmp 4), none⟩, ⟨none, .mv (.var 0), none⟩, ⟨none, .nilCheck (.tmp 6), none⟩, ⟨none, .fieldAddr 3 (.tmp 7), none⟩, ⟨none, .load false 1 (.tmp 8), none⟩, ⟨none, .lenSl (.tmp 9), none⟩, ⟨none, .call (.fn 17) [.tmp 10], none⟩, ⟨none, .call (.fn 16) [.tmp 5, .tmp 11], none⟩, ⟨some 13, .bin .eql (.tmp 12) (.cst (.int .i64 0)), none⟩]
def DSP1 : MC := .region [⟨none, .mv (.var 0), none⟩, ⟨none, .mv (.var 0), none⟩, ⟨none, .nilCheck (.tmp 1), none⟩, ⟨none, .fieldAddr 3 (.tmp 2), none⟩, ⟨none, .load false 1 (.tmp 3), none⟩, ⟨none, .mv (.var 3), none⟩, ⟨none, .buildF 1 [.tmp 5], none⟩, ⟨none, .appendN 1 8 (.tmp 4) (.tmp 6), none⟩, ⟨none, .nilCheck (.tmp 0), none⟩, ⟨none, .fieldAddr 3 (.tmp 8), none⟩, ⟨none, .store 1 (.tmp 9) (.tmp 7), none⟩]
def DSP2 : MC := .region [⟨none, .mv (.var 0), none⟩, ⟨none, .mv (.var 0), none⟩, ⟨none, .nilCheck (.tmp 1), none⟩, ⟨none, .fieldAddr 4 (.tmp 2), none⟩, ⟨none, .load false 1 (.tmp 3), none⟩, ⟨none, .mv (.var 0), none⟩, ⟨none, .mv (.var 3), none⟩, ⟨none, .nilCheck (.tmp 5), none⟩, ⟨none, .fieldAddr 0 (.tmp 7), none⟩, ⟨none, .indexArr 2 1 (.tmp 8) (.tmp 6), none⟩, ⟨none, .load false 1 (.tmp 9), none⟩, ⟨none, .call (.fn 26) [.tmp 10], none⟩, ⟨none, .buildF 1 [.tmp 11], none⟩, ⟨none, .appendN 1 8 (.tmp 4) (.tmp 12), none⟩, ⟨none, .nilCheck (.tmp 0), none⟩, ⟨none, .fieldAddr 4 (.tmp 14), none⟩, ⟨none, .store 1 (.tmp 15) (.tmp 13), none⟩]
def DSP3 : MC := .region [⟨none, .mv (.var 0), none⟩, ⟨none, .mv (.var 0), none⟩, ⟨none, .nilCheck (.tmp 1), none⟩, ⟨none, .fieldAddr 5 (.tmp 2), none⟩, ⟨none, .load false 1 (.tmp 3), none⟩, ⟨none, .buildF 1 [.cst (.int .i64 0)], none⟩, ⟨none, .appendN 1 8 (.tmp 4) (.tmp 5), none⟩, ⟨none, .nilCheck (.tmp 0), none⟩, ⟨none, .fieldAddr 5 (.tmp 7), none⟩, ⟨none, .store 1 (.tmp 8) (.tmp 6), none⟩]
def DSP4 : MC := .region [⟨none, .mv (.var 0), none⟩, ⟨none, .mv (.var 0), none⟩, ⟨none, .nilCheck (.tmp 1), none⟩, ⟨none, .fieldAddr 6 (.tmp 2), none⟩, ⟨none, .load false 1 (.tmp 3), none⟩, ⟨none, .buildF 1 [.cst (.int .i64 0)], none⟩, ⟨none, .appendN 1 8 (.tmp 4) (.tmp 5), none⟩, ⟨none, .nilCheck (.tmp 0), none⟩, ⟨none, .fieldAddr 6 (.tmp 7), none⟩, ⟨none, .store 1 (.tmp 8) (.tmp 6), none⟩]
def DSP5 : MC := .region [⟨none, .mv (.var 0), none⟩, ⟨none, .mv (.var 0), none⟩, ⟨none, .nilCheck (.tmp 1), none⟩, ⟨none, .fieldAddr 7 (.tmp 2), none⟩, ⟨none, .load false 1 (.tmp 3), none⟩, ⟨none, .buildF 1 [.cst (.bool false)], none⟩, ⟨none, .appendN 1 1 (.tmp 4) (.tmp 5), none⟩, ⟨none, .nilCheck (.tmp 0), none⟩, ⟨none, .fieldAddr 7 (.tmp 7), none⟩, ⟨none, .store 1 (.tmp 8) (.tmp 6), none⟩]
def DTST2 : MC := .seq (.region [⟨none, .bin .eql (.var 8) (.cst (.int .i64 3)), none⟩, ⟨some 14, .mv (.tmp 0), none⟩]) (.cond (.var 14) .skip (.seq (.region [⟨none, .bin .eql (.var 8) (.cst (.int .i64 4)), none⟩, ⟨some 14, .mv (.tmp 0), none⟩]) (.cond (.var 14) .skip (.region [⟨none, .bin .eql (.var 8) (.cst (.int .i64 5)), none⟩, ⟨some 14, .mv (.tmp 0), none⟩]))))
def DTICK : MC := .region [⟨none, .mv (.var 0), none⟩, ⟨none, .mv (.var 3), none⟩, ⟨none, .call (.fn 40) [.tmp 0, .tmp 1], none⟩]
def DTST3 : MC := .region [⟨none, .bin .eql (.var 8) (.cst (.int .i64 11)), none⟩, ⟨some 15, .mv (.tmp 0), none⟩]
def DNEW : MC := .seq (.region [⟨none, .mv (.var 0), none⟩, ⟨none, .mv (.var 3), none⟩, ⟨none, .nilCheck (.tmp 0), none⟩, ⟨none, .fieldAddr 0 (.tmp 2), none⟩, ⟨none, .indexArr 2 1 (.tmp 3) (.tmp 1), none⟩, ⟨none, .load false 1 (.tmp 4), none⟩, ⟨none, .call (.fn 26) [.tmp 5], none⟩, ⟨none, .bin .add (.tmp 6) (.cst (.int .i64 1)), none⟩, ⟨none, .indexArr 3 1 (.var 2) (.cst (.int .i64 2)), none⟩, ⟨none, .load false 1 (.tmp 8), none⟩, ⟨none, .call (.fn 15) [.tmp 9, .cst (.int .i64 3)], none⟩, ⟨none, .bin .add (.tmp 7) (.tmp 10), none⟩, ⟨none, .call (.fn 13) [.tmp 11], none⟩, ⟨none, .mv (.tmp 12), none⟩, ⟨none, .extract (.tmp 13) 0, none⟩, ⟨none, .extract (.tmp 13) 1, none⟩, ⟨some 4, .mv (.tmp 14), none⟩, ⟨some 5, .mv (.tmp 15), none⟩]) (.seq (.seq (.region [⟨none, .mv (.var 5), none⟩, ⟨none, .bin .neq (.tmp 0) (.cst (.int .i64 0)), none⟩, ⟨none, .mv (.tmp 1), none⟩, ⟨none, .mv (.var 4), some (.tmp 2, false)⟩, ⟨none, .eqNil 0 false (.tmp 3), some (.tmp 2, false)⟩, ⟨some 16, .pick (.tmp 2) (.cst (.bool true)) (.tmp 4), none⟩]) (.cond (.var 16) (.seq (.region [⟨none, .mv (.var 0), none⟩, ⟨none, .nilCheck (.tmp 0), none⟩, ⟨none, .fieldAddr 10 (.tmp 1), none⟩, ⟨none, .store 1 (.tmp 2) (.cst (.bool false)), none⟩]) .ret) .skip)) (.region [⟨none, .mv (.var 0), none⟩, ⟨none, .mv (.var 3), none⟩, ⟨none, .mv (.var 4), none⟩, ⟨none, .nilCheck (.tmp 0), none⟩, ⟨none, .fieldAddr 0 (.tmp 3), none⟩, ⟨none, .indexArr 2 1 (.tmp 4) (.tmp 1), none⟩, ⟨none, .store 1 (.tmp 5) (.tmp 2), none⟩]))
def DDEF : MC := .seq (.seq (.region [⟨none, .mv (.var 0), none⟩, ⟨none, .nilCheck (.tmp 0), none⟩, ⟨none, .fieldAddr 2 (.tmp 1), none⟩, ⟨none, .load false 1 (.tmp 2), none⟩, ⟨none, .lenSl (.tmp 3), none⟩, ⟨some 9, .bin .eql (.tmp 4) (.cst (.int .i64 0)), none⟩]) (.cond (.var 9) .ret .skip)) (.seq (.region [⟨none, .indexArr 3 1 (.var 2) (.cst (.int .i64 2)), none⟩, ⟨none, .load false 1 (.tmp 0), none⟩, ⟨none, .mv (.var 0), none⟩, ⟨none, .nilCheck (.tmp 2), none⟩, ⟨none, .fieldAddr 2 (.tmp 3), none⟩, ⟨none, .load false 1 (.tmp 4), none⟩, ⟨none, .lenSl (.tmp 5), none⟩, ⟨none, .call (.fn 15) [.tmp 1, .tmp 6], none⟩, ⟨some 6, .mv (.tmp 7), none⟩]) (.seq (.region [⟨none, .mv (.var 0), none⟩, ⟨none, .nilCheck (.tmp 0), none⟩, ⟨none, .fieldAddr 2 (.tmp 1), none⟩, ⟨none, .load false 1 (.tmp 2), none⟩, ⟨none, .mv (.var 6), none⟩, ⟨none, .indexSl 6 (.tmp 3) (.tmp 4), none⟩, ⟨none, .load true 6 (.tmp 5), none⟩, ⟨some 7, .alloc 6 (.agg [.int .i64 0, .int .i64 0, .int .i64 0, .int .i64 0, .int .i64 0, .str []]), none⟩, ⟨none, .store 6 (.var 7) (.tmp 6), none⟩]) (.seq (.seq (.region [⟨none, .indexArr 3 1 (.var 2) (.cst (.int .i64 0)), none⟩, ⟨none, .load false 1 (.tmp 0), none⟩, ⟨none, .call (.fn 15) [.tmp 1, .cst (.int .i64 12)], none⟩, ⟨some 10, .bin .neq (.tmp 2) (.cst (.int .i64 9)), none⟩]) (.cond (.var 10) (.region [⟨none, .mv (.var 0), none⟩, ⟨none, .mv (.var 6), none⟩, ⟨none, .call (.fn 38) [.tmp 0, .tmp 1], none⟩]) .skip)) (.seq (.region [⟨none, .indexArr 3 1 (.var 2) (.cst (.int .i64 0)), none⟩, ⟨none, .load false 1 (.tmp 0), none⟩, ⟨none, .call (.fn 15) [.tmp 1, .cst (.int .i64 12)], none⟩, ⟨some 11, .bin .neq (.tmp 2) (.cst (.int .i64 10)), none⟩]) (.cond (.var 11) (.region [⟨none, .mv (.var 0), none⟩, ⟨none, .load true 6 (.var 7), none⟩, ⟨none, .call (.fn 39) [.tmp 0, .tmp 1], none⟩]) .skip)))))
def DKILL : MC := .kill [0, 1, 2, 3, 4, 5, 6, 7, 8, 9, 10, 11, 12, 13, 14, 15, 16]
def DSEND : MC := .seq DSD0 (.cond (.var 13) (.seq DSP1 (.seq DSP2 (.seq DSP3 (.seq DSP4 DSP5)))) .skip)
theorem mf37_eq : mf37.mc = .seq DR0 (.seq DR1 (.seq DR2 (.seq (.block 0 (.seq DTST1 (.cond (.var 12) DSEND (.seq DTST2 (.cond (.var 14) DTICK (.seq DTST3 (.cond (.var 15) DNEW DDEF))))))) DKILL))) := rfl
abbrev sdd (v0 v1 v2 v3 v8 v12 v13 v14 v15 : AV) : List AV := [v0, v1, v2, v3, .undef, .undef, .undef, .undef, v8, .undef, .undef, .undef, v12, v13, v14, v15, .undef]
section
variable {E : Env} {fuel : Nat} {K : List KC} {v0 v1 v2 v3 v12 v13 v14 v15 : AV} {A : Arena} {k : Nat}
set_option maxRecDepth 100000 in
theorem tst1 (hk : k < 12) : run E fuel (.code DTST1 :: K) (sdd v0 v1 v2 v3 (.int .i64 (k : Int)) v12 v13 v14 v15) A = run E fuel K (sdd v0 v1 v2 v3 (.int .i64 (k : Int)) (.bool (decide (k ≤ 2))) v13 v14 v15) A := by
  have b0 := evEql (k : Int) 0
  have b1 := evEql (k : Int) 1
  have b2 := evEql (k : Int) 2
  by_cases h0 : k = 0
  · subst h0
    simp [DTST1]
  · rw [decide_eq_false (by omega)] at b0
    by_cases h1 : k = 1
    · subst h1
      simp [DTST1]
    · rw [decide_eq_false (by omega)] at b1
      have e : decide (k ≤ 2) = decide ((k : Int) = 2) := decide_eq_decide.2 (by omega)
      rw [e]
      simp [DTST1, b0, b1, b2, -evBin]
set_option maxRecDepth 100000 in
theorem tst2 (hk : k < 12) (h2 : 2 < k) : run E fuel (.code DTST2 :: K) (sdd v0 v1 v2 v3 (.int .i64 (k : Int)) v12 v13 v14 v15) A = run E fuel K (sdd v0 v1 v2 v3 (.int .i64 (k : Int)) v12 v13 (.bool (decide (k ≤ 5))) v15) A := by
  have b0 := evEql (k : Int) 3
  have b1 := evEql (k : Int) 4
  have b2 := evEql (k : Int) 5
  by_cases h0 : k = 3
  · subst h0
    simp [DTST2]
  · rw [decide_eq_false (by omega)] at b0
    by_cases h1 : k = 4
    · subst h1
      simp [DTST2]
    · rw [decide_eq_false (by omega)] at b1
      have e : decide (k ≤ 5) = decide ((k : Int) = 5) := decide_eq_decide.2 (by omega)
      rw [e]
      simp [DTST2, b0, b1, b2, -evBin]
theorem tst3 : run E fuel (.code DTST3 :: K) (sdd v0 v1 v2 v3 (.int .i64 (k : Int)) v12 v13 v14 v15) A = run E fuel K (sdd v0 v1 v2 v3 (.int .i64 (k : Int)) v12 v13 v14 (.bool (decide (k = 11)))) A := by
  have b0 := evEql (k : Int) 11
  have e : decide (k = 11) = decide ((k : Int) = 11) := decide_eq_decide.2 (by omega)
  rw [e]
  simp [DTST3, b0, -evBin]
end
section
variable {K : List KC} {v1 v2 v8 v12 v14 v15 : AV} {A : Arena} {x : Nat} {e : Nat → EndS} {c : Nat → List AV} {la : Nat → Nat} {P : List Nat} {i : Nat → Nat} {q l w : Nat → AV} {s : Nat}
set_option maxRecDepth 100000 in
theorem dsp1 (h : Ln A x e c la P i q l w) (hc : (c 1).length ≤ 1000) : ∃ B v, run (envOf GW fs37) 300 (.code DSP1 :: K) (sdd (.ptr x 0 0) v1 v2 (.int .i64 (s : Int)) v8 v12 (.bool true) v14 v15) A = run (envOf GW fs37) 300 K (sdd (.ptr x 0 0) v1 v2 (.int .i64 (s : Int)) v8 v12 (.bool true) v14 v15) B ∧ Ln B x e (upd c 1 (c 1 ++ [.int .i64 (s : Int)])) la P i q l (upd w 1 v) ∧ ∀ j, j ∈ P → B[j]? = A[j]? := by
  obtain ⟨B, C, k1, k2, hC, pC, rB⟩ := h.push (k := 1) (bytes := 8) (v := .int .i64 (s : Int)) (by omega) (by omega) (by omega)
  have hrow := h.row
  rw [hrow] at rB
  have f : evLoad false 1 A (.ptr x 0 3) = some (w 1) := h.ldw (k := 1) (by omega)
  obtain ⟨v, hv⟩ : ∃ v, v = AV.sl A.length 0 (c 1 ++ [AV.int .i64 (s : Int)]).length := ⟨_, rfl⟩
  rw [← hv] at k1 k2 hC
  have k1' : evAppendN 1 8 A (w 1) (.fs 1 [.int .i64 (s : Int)]) = some (v, B) := k1
  have k2' : evStore 1 B (.ptr x 0 3) v = some C := k2
  refine ⟨C, v, ?_, hC, pC⟩
  simp [DSP1, hrow, rB, f, k1', k2', -evLoad, -evStore]
set_option maxRecDepth 100000 in
theorem dsp2 (h : Ln A x e c la P i q l w) (hs : s < 2) (hc : (c 2).length ≤ 1000) : ∃ B v, run (envOf GW fs37) 300 (.code DSP2 :: K) (sdd (.ptr x 0 0) v1 v2 (.int .i64 (s : Int)) v8 v12 (.bool true) v14 v15) A = run (envOf GW fs37) 300 K (sdd (.ptr x 0 0) v1 v2 (.int .i64 (s : Int)) v8 v12 (.bool true) v14 v15) B ∧ Ln B x e (upd c 2 (c 2 ++ [.int .i64 (e s).epoch])) la P i q l (upd w 2 v) ∧ ∀ j, j ∈ P → B[j]? = A[j]? := by
  obtain ⟨B, C, k1, k2, hC, pC, rB⟩ := h.push (k := 2) (bytes := 8) (v := .int .i64 (e s).epoch) (by omega) (by omega) (by omega)
  have hrow := h.row
  rw [hrow] at rB
  have f : evLoad false 1 A (.ptr x 0 4) = some (w 2) := h.ldw (k := 2) (by omega)
  have a26 := ev26 (h.end_ hs) (fun _ _ _ => none)
  obtain ⟨xi, li⟩ := h.idx hs
  obtain ⟨v, hv⟩ : ∃ v, v = AV.sl A.length 0 (c 2 ++ [AV.int .i64 (e s).epoch]).length := ⟨_, rfl⟩
  rw [← hv] at k1 k2 hC
  have k1' : evAppendN 1 8 A (w 2) (.fs 1 [.int .i64 (e s).epoch]) = some (v, B) := k1
  have k2' : evStore 1 B (.ptr x 0 4) v = some C := k2
  refine ⟨C, v, ?_, hC, pC⟩
  simp [DSP2, hrow, rB, f, a26, xi, li, k1', k2', -evLoad, -evStore, -pureH]
set_option maxRecDepth 100000 in
theorem dsp3 (h : Ln A x e c la P i q l w) (hc : (c 3).length ≤ 1000) : ∃ B v, run (envOf GW fs37) 300 (.code DSP3 :: K) (sdd (.ptr x 0 0) v1 v2 (.int .i64 (s : Int)) v8 v12 (.bool true) v14 v15) A = run (envOf GW fs37) 300 K (sdd (.ptr x 0 0) v1 v2 (.int .i64 (s : Int)) v8 v12 (.bool true) v14 v15) B ∧ Ln B x e (upd c 3 (c 3 ++ [.int .i64 0])) la P i q l (upd w 3 v) ∧ ∀ j, j ∈ P → B[j]? = A[j]? := by
  obtain ⟨B, C, k1, k2, hC, pC, rB⟩ := h.push (k := 3) (bytes := 8) (v := .int .i64 0) (by omega) (by omega) (by omega)
  have hrow := h.row
  rw [hrow] at rB
  have f : evLoad false 1 A (.ptr x 0 5) = some (w 3) := h.ldw (k := 3) (by omega)
  obtain ⟨v, hv⟩ : ∃ v, v = AV.sl A.length 0 (c 3 ++ [AV.int .i64 0]).length := ⟨_, rfl⟩
  rw [← hv] at k1 k2 hC
  have k1' : evAppendN 1 8 A (w 3) (.fs 1 [.int .i64 0]) = some (v, B) := k1
  have k2' : evStore 1 B (.ptr x 0 5) v = some C := k2
  refine ⟨C, v, ?_, hC, pC⟩
  simp [DSP3, hrow, rB, f, k1', k2', -evLoad, -evStore]
set_option maxRecDepth 100000 in
theorem dsp4 (h : Ln A x e c la P i q l w) (hc : (c 4).length ≤ 1000) : ∃ B v, run (envOf GW fs37) 300 (.code DSP4 :: K) (sdd (.ptr x 0 0) v1 v2 (.int .i64 (s : Int)) v8 v12 (.bool true) v14 v15) A = run (envOf GW fs37) 300 K (sdd (.ptr x 0 0) v1 v2 (.int .i64 (s : Int)) v8 v12 (.bool true) v14 v15) B ∧ Ln B x e (upd c 4 (c 4 ++ [.int .i64 0])) la P i q l (upd w 4 v) ∧ ∀ j, j ∈ P → B[j]? = A[j]? := by
  obtain ⟨B, C, k1, k2, hC, pC, rB⟩ := h.push (k := 4) (bytes := 8) (v := .int .i64 0) (by omega) (by omega) (by omega)
  have hrow := h.row
  rw [hrow] at rB
  have f : evLoad false 1 A (.ptr x 0 6) = some (w 4) := h.ldw (k := 4) (by omega)
  obtain ⟨v, hv⟩ : ∃ v, v = AV.sl A.length 0 (c 4 ++ [AV.int .i64 0]).length := ⟨_, rfl⟩
  rw [← hv] at k1 k2 hC
  have k1' : evAppendN 1 8 A (w 4) (.fs 1 [.int .i64 0]) = some (v, B) := k1
  have k2' : evStore 1 B (.ptr x 0 6) v = some C := k2
  refine ⟨C, v, ?_, hC, pC⟩
  simp [DSP4, hrow, rB, f, k1', k2', -evLoad, -evStore]
set_option maxRecDepth 100000 in
theorem dsp5 (h : Ln A x e c la P i q l w) (hc : (c 5).length ≤ 1000) : ∃ B v, run (envOf GW fs37) 300 (.code DSP5 :: K) (sdd (.ptr x 0 0) v1 v2 (.int .i64 (s : Int)) v8 v12 (.bool true) v14 v15) A = run (envOf GW fs37) 300 K (sdd (.ptr x 0 0) v1 v2 (.int .i64 (s : Int)) v8 v12 (.bool true) v14 v15) B ∧ Ln B x e (upd c 5 (c 5 ++ [.bool false])) la P i q l (upd w 5 v) ∧ ∀ j, j ∈ P → B[j]? = A[j]? := by
  obtain ⟨B, C, k1, k2, hC, pC, rB⟩ := h.push (k := 5) (bytes := 1) (v := .bool false) (by omega) (by omega) (by omega)
  have hrow := h.row
  rw [hrow] at rB
  have f : evLoad false 1 A (.ptr x 0 7) = some (w 5) := h.ldw (k := 5) (by omega)
  obtain ⟨v, hv⟩ : ∃ v, v = AV.sl A.length 0 (c 5 ++ [AV.bool false]).length := ⟨_, rfl⟩
  rw [← hv] at k1 k2 hC
  have k1' : evAppendN 1 1 A (w 5) (.fs 1 [.bool false]) = some (v, B) := k1
  have k2' : evStore 1 B (.ptr x 0 7) v = some C := k2
  refine ⟨C, v, ?_, hC, pC⟩
  simp [DSP5, hrow, rB, f, k1', k2', -evLoad, -evStore]
end
theorem cont_send (X : PS) (s : Nat) : upd (upd (upd (upd (upd (cont X) 1 (cont X 1 ++ [.int .i64 (s : Int)])) 2 (cont X 2 ++ [.int .i64 (X.e s).epoch])) 3 (cont X 3 ++ [.int .i64 0])) 4 (cont X 4 ++ [.int .i64 0])) 5 (cont X 5 ++ [.bool false]) = cont (sendP X s) := by
  have old : ∀ {α : Type} (f : Nat → α) (v : α) (m : Nat), m < X.N → upd f X.N v m = f m := fun f v m hm => upd_ne _ _ (by omega)
  funext k
  match k with
  | 0 => rfl
  | 1 => exact range_push X.N _ _ _ (by simp only [sendP, upd_same]) (fun m hm => by simp only [sendP, old _ _ m hm])
  | 2 => exact range_push X.N _ _ _ (by simp only [sendP, upd_same]) (fun m hm => by simp only [sendP, old _ _ m hm])
  | 3 => exact range_push X.N _ _ _ (by simp only [sendP, upd_same]) (fun m hm => by simp only [sendP, old _ _ m hm])
  | 4 => exact range_push X.N _ _ _ (by simp only [sendP, upd_same]) (fun m hm => by simp only [sendP, old _ _ m hm])
  | 5 => exact range_push X.N _ _ _ (by simp only [sendP, upd_same]) (fun m hm => by simp only [sendP, old _ _ m hm])
  | k + 6 => rfl
set_option maxRecDepth 100000 in
set_option maxHeartbeats 8000000 in
theorem dSend {K : List KC} {v1 v2 v8 v12 v14 v15 : AV} {A : Arena} {x : Nat} {X : PS} {P : List Nat} (h : LnP A x X P) {s : Nat} (hs : s < 2) (hN : X.N ≤ 1000) (hnx : 0 ≤ (X.e s).next ∧ (X.e s).next ≤ 1000000) :
    ∃ B v13, run (envOf GW fs37) 300 (.code DSEND :: K) (sdd (.ptr x 0 0) v1 v2 (.int .i64 (s : Int)) v8 v12 .undef v14 v15) A = run (envOf GW fs37) 300 K (sdd (.ptr x 0 0) v1 v2 (.int .i64 (s : Int)) v8 v12 v13 v14 v15) B ∧ LnP B x (if sendOk (X.e s) (txt X.N) then sendP X s else X) P ∧ ∀ j, j ∈ P → B[j]? = A[j]? := by
  obtain ⟨i, q, l, w, h⟩ := h
  have hrow := h.row
  have hE := h.end_ hs
  obtain ⟨xi, li⟩ := h.idx hs
  have f3 : evLoad false 1 A (.ptr x 0 3) = some (w 1) := h.ldw (k := 1) (by omega)
  have hl1 := h.len (k := 1) (by omega)
  rw [cont_len X (by omega) (by omega)] at hl1
  have m17 := M17_eq (n := X.N) (by omega)
  have m := pH1 M17 (fun _ _ _ => none) A .i64 (X.N : Int)
  rw [m17] at m
  obtain ⟨T, hT⟩ : ∃ T, T = txt X.N := ⟨_, rfl⟩
  rw [← hT] at m ⊢
  by_cases hok : sendOk (X.e s) T
  · rw [if_pos hok]
    obtain ⟨B, qa', va, ga, Fa, na⟩ := ev16 hE (fun _ _ _ => none) hok (by omega)
    obtain ⟨h2, p2⟩ := h.step hs (out := []) ga (fun j hj => by
      rcases mem_own.1 hj with h | h | h
      · exact .inl (mem_own.2 (.inl h))
      · exact .inr (na j h)
      · exact .inl (mem_own.2 (.inr (.inr h)))) (Fa.mono fun j _ hj => by
      rw [List.mem_cons] at hj
      exact mem_own.2 (hj.imp (fun h => h) .inl)) (fun j hj => by simp at hj)
    rw [List.nil_append] at h2
    have lc : ∀ k, k ≠ 0 → k < 6 → (cont X k).length ≤ 1000 := fun k h0 h6 => by rw [cont_len X h0 h6]; exact hN
    obtain ⟨C1, w1, r1, g1, p3⟩ := dsp1 (K := .code (.seq DSP2 (.seq DSP3 (.seq DSP4 DSP5))) :: K) (v1 := v1) (v2 := v2) (v8 := v8) (v12 := v12) (v14 := v14) (v15 := v15) (s := s) h2 (lc 1 (by omega) (by omega))
    obtain ⟨C2, w2, r2, g2, p4⟩ := dsp2 (K := .code (.seq DSP3 (.seq DSP4 DSP5)) :: K) (v1 := v1) (v2 := v2) (v8 := v8) (v12 := v12) (v14 := v14) (v15 := v15) g1 hs (lc 2 (by omega) (by omega))
    obtain ⟨C3, w3, r3, g3, p5⟩ := dsp3 (K := .code (.seq DSP4 DSP5) :: K) (v1 := v1) (v2 := v2) (v8 := v8) (v12 := v12) (v14 := v14) (v15 := v15) (s := s) g2 (lc 3 (by omega) (by omega))
    obtain ⟨C4, w4, r4, g4, p6⟩ := dsp4 (K := .code DSP5 :: K) (v1 := v1) (v2 := v2) (v8 := v8) (v12 := v12) (v14 := v14) (v15 := v15) (s := s) g3 (lc 4 (by omega) (by omega))
    obtain ⟨C5, w5, r5, g5, p7⟩ := dsp5 (K := K) (v1 := v1) (v2 := v2) (v8 := v8) (v12 := v12) (v14 := v14) (v15 := v15) (s := s) g4 (lc 5 (by omega) (by omega))
    have ec : upd (upd (upd (upd (upd (cont X) 1 (cont X 1 ++ [.int .i64 (s : Int)])) 2 (cont X 2 ++ [.int .i64 (upd X.e s (sendS (X.e s) T) s).epoch])) 3 (cont X 3 ++ [.int .i64 0])) 4 (cont X 4 ++ [.int .i64 0])) 5 (cont X 5 ++ [.bool false]) = cont (sendP X s) := by
      rw [upd_same]
      exact cont_send X s
    have g5' : Ln C5 x (upd X.e s (sendS (X.e s) T)) (upd (upd (upd (upd (upd (cont X) 1 (cont X 1 ++ [.int .i64 (s : Int)])) 2 (cont X 2 ++ [.int .i64 (upd X.e s (sendS (X.e s) T) s).epoch])) 3 (cont X 3 ++ [.int .i64 0])) 4 (cont X 4 ++ [.int .i64 0])) 5 (cont X 5 ++ [.bool false])) X.la P i (upd q s qa') (upd l s (l s)) (upd (upd (upd (upd (upd w 1 w1) 2 w2) 3 w3) 4 w4) 5 w5) := g5
    rw [ec, hT] at g5'
    refine ⟨C5, .bool true, ?_, ⟨i, _, _, _, g5'⟩, fun j hj => (p7 j hj).trans ((p6 j hj).trans ((p5 j hj).trans ((p4 j hj).trans ((p3 j hj).trans (p2 j hj)))))⟩
    rw [← r5, ← r4, ← run_seq, ← r3, ← run_seq, ← r2, ← run_seq, ← r1]
    have n1 : evBin .eql (.int .i64 0) (.int .i64 0) = some (.bool true) := rfl
    simp [DSEND, DSD0, hrow, xi, li, f3, hl1, m, va, n1, -evBin, -evLoad, -pureH, -evLenSl]
  · rw [if_neg hok]
    have va := ev16_no hE (fun _ _ _ => none) hok
    refine ⟨A, .bool false, ?_, ⟨i, q, l, w, h⟩, fun _ _ => rfl⟩
    have n1 : evBin .eql (.int .i64 260) (.int .i64 0) = some (.bool false) := rfl
    simp [DSEND, DSD0, hrow, xi, li, f3, hl1, m, va, n1, -evBin, -evLoad, -pureH, -evLenSl]
end Go.Proofs.Ytfidjdlmmcaplaa
/-
  Link: a deed, the rest.
-/
namespace Go.Proofs.Ytfidjdlmmcaplaa
open Go

/-- a run is done and leaves an arena -/
def Done (r : Option Out) (B : Arena) : Prop := ∃ σ, r = some (.normal σ B) ∨ r = some (.ret σ B)
theorem flAt {A : Arena} {v : AV} {xs : List (Nat × FrS)} (h : SlP 6 A v (xs.map flA)) {i : Nat} (hi : i < xs.length) : ∃ r, evIndexSl 6 A v (.int .i64 (i : Int)) = some (.ptr r i 0) ∧ evLoad true 6 A (.ptr r i 0) = some (flA xs[i]) := by
  obtain ⟨r, es, h1, h2, h3, h4⟩ := h.index (i := i) (by simpa using hi) (by decide) .i64
  rw [List.getElem_map] at h3
  refine ⟨r, h4, ?_⟩
  simp only [evLoad, h2, h3]
  rfl
set_option maxRecDepth 100000 in
theorem dTick {K : List KC} {v1 v2 v8 v12 v13 v14 v15 : AV} {A : Arena} {x : Nat} {X : PS} {P : List Nat} (h : LnP A x X P) {s : Nat} (hs : s < 2) (hb : Bd (X.e s)) (ht : ∀ f ∈ (tickS (X.e s)).2, TickF X (X.e s).peer s f) (hN : X.N < 300) (hfl : X.fl.length ≤ 100000) :
    ∃ B, run (envOf GW fs37) 300 (.code DTICK :: K) (sdd (.ptr x 0 0) v1 v2 (.int .i64 (s : Int)) v8 v12 v13 v14 v15) A = run (envOf GW fs37) 300 K (sdd (.ptr x 0 0) v1 v2 (.int .i64 (s : Int)) v8 v12 v13 v14 v15) B ∧ LnP B x (tickP X s) P ∧ ∀ j, j ∈ P → B[j]? = A[j]? := by
  obtain ⟨B, v40, hB, pB⟩ := ev40 (fun _ _ _ => none) h hs hb ht hN hfl
  refine ⟨B, ?_, hB, pB⟩
  simp [DTICK, v40]
set_option maxRecDepth 100000 in
set_option maxHeartbeats 8000000 in
theorem dNew {v1 v8 v12 v13 v14 v15 : AV} {A : Arena} {x y : Nat} {X : PS} {P : List Nat} (h : LnP A x X P) {c0 c1 c2 : Int} (hr : A[y]? = some (row3 c0 c1 c2)) (hc2 : inI c2) {s : Nat} (hs : s < 2) (he : 1 ≤ (X.e s).epoch ∧ (X.e s).epoch ≤ 900000) :
    ∃ B, Done (run (envOf GW fs37) 300 [.code DNEW, .blk 0, .code DKILL] (sdd (.ptr x 0 0) v1 (.ptr y 0 0) (.int .i64 (s : Int)) v8 v12 v13 v14 v15) A) B ∧ LnP B x { X with e := upd X.e s (newS ((X.e s).epoch + 1 + pick c2 3)) } P ∧ ∀ j, j ∈ P → B[j]? = A[j]? := by
  obtain ⟨i, q, l, w, h⟩ := h
  have pc := pick_range c2 3 (by omega)
  have m15 := M15_eq hc2 (show (0 : Int) < 3 by omega)
  obtain ⟨z, hz⟩ : ∃ z, z = pick c2 3 := ⟨_, rfl⟩
  rw [← hz] at m15 pc ⊢
  have b1 := evAdd (a := (X.e s).epoch) (b := 1) (by omega)
  have b2 := evAdd (a := (X.e s).epoch + 1) (b := z) (by omega)
  obtain ⟨E, hE⟩ : ∃ E, E = (X.e s).epoch + 1 + z := ⟨_, rfl⟩
  rw [← hE] at b2 ⊢
  obtain ⟨F, hF⟩ : ∃ F, F = (X.e s).epoch + 1 := ⟨_, rfl⟩
  rw [← hF] at b1 b2
  have hrow := h.row
  have a26 := ev26 (h.end_ hs) (fun _ _ _ => none)
  obtain ⟨xi, li⟩ := h.idx hs
  have hr' : A[y]? = some (.row 3 false [.agg [.int .i64 c0, .int .i64 c1, .int .i64 c2]]) := hr
  have ly : evIndexArr 3 1 A (.ptr y 0 0) (.int .i64 2) = some (.ptr y 0 2) := by simp [evIndexArr, hr']
  have ly2 : evLoad false 1 A (.ptr y 0 2) = some (.int .i64 c2) := by
    simp only [evLoad, hr']; rfl
  obtain ⟨A1, v13', g1, F1⟩ := (ev13 (fun _ _ _ => none) A E).1 (by omega)
  obtain ⟨C, st, hC, pC⟩ := h.newE hs g1 (Nat.le_refl _) F1
  have hr1 : A1[x]? = A[x]? := F1.2 x h.xlt (by simp)
  rw [hrow] at hr1
  have x1 : evIndexArr 2 1 A1 (.ptr x 0 0) (.int .i64 (s : Int)) = some (.ptr x 0 s) := by
    rcases (show s = 0 ∨ s = 1 by omega) with rfl | rfl <;> simp [evIndexArr, hr1]
  have n1 : evBin .neq (.int .i64 0) (.int .i64 0) = some (.bool false) := rfl
  refine ⟨C, ⟨[.undef, .undef, .undef, .undef, .undef, .undef, .undef, .undef, .undef, .undef, .undef, .undef, .undef, .undef, .undef, .undef, .undef], .inl ?_⟩, ⟨_, _, _, _, hC⟩, pC⟩
  simp [DNEW, DKILL, pH2, hrow, hr1, hr', a26, xi, li, x1, b1, b2, ly, ly2, m15, v13', n1, st, -evBin, -evLoad, -pureH, -evStore]
def cutP (X : PS) (n : Nat) : PS := { X with fl := X.fl.take n ++ X.fl.drop (n + 1) }
def delP (X : PS) (k n t : Nat) (f : FrS) : PS :=
  if k = 10 then cutP X n else recvP (if k = 9 then X else cutP X n) t f
set_option maxRecDepth 100000 in
set_option maxHeartbeats 16000000 in
theorem dDef {v1 v8 v12 v13 v14 v15 : AV} {A : Arena} {x y : Nat} {X : PS} {P : List Nat} (h : LnP A x X P) (hy : y ∈ P) {c0 c1 c2 : Int} (hr : A[y]? = some (row3 c0 c1 c2)) (hc0 : inI c0) (hc2 : inI c2) {k : Nat} (hk : pick c0 12 = (k : Int)) {n t : Nat} {f : FrS} (hn : X.fl[n]? = some (t, f)) (hp : pick c2 (X.fl.length : Int) = (n : Int)) (ht : t < 2) (hd : DelOk X t f) (hfl : X.fl.length ≤ 100000) {s : AV} :
    ∃ B, Done (run (envOf GW fs37) 300 [.code DDEF, .blk 0, .code DKILL] (sdd (.ptr x 0 0) v1 (.ptr y 0 0) s v8 v12 v13 v14 v15) A) B ∧ LnP B x (delP X k n t f) P ∧ ∀ j, j ∈ P → B[j]? = A[j]? := by
  obtain ⟨i, q, l, w, h⟩ := h
  have hnl : n < X.fl.length := (List.getElem?_eq_some_iff.1 hn).1
  have hng : X.fl[n] = (t, f) := (List.getElem?_eq_some_iff.1 hn).2
  have m15a := M15_eq hc2 (show (0 : Int) < (X.fl.length : Int) by omega)
  have m15b := M15_eq hc0 (show (0 : Int) < 12 by omega)
  rw [hp] at m15a
  rw [hk] at m15b
  have hrow := h.row
  have hS : SlP 6 A (w 0) (X.fl.map flA) := h.slot (k := 0) (by omega)
  have hlen : evLenSl (w 0) = some (.int .i64 (X.fl.length : Int)) := by
    have := hS.len
    rwa [List.length_map] at this
  obtain ⟨r, x1, l1⟩ := flAt hS hnl
  rw [hng] at l1
  have l1' : evLoad true 6 A (.ptr r n 0) = some (.agg [.int .i64 (t : Int), .int .i64 f.fr, .int .i64 f.to, .int .i64 f.seq, .int .i64 f.ack, .str f.body]) := l1
  have f2 : evLoad false 1 A (.ptr x 0 2) = some (w 0) := h.ldw (k := 0) (by omega)
  have hr' : A[y]? = some (.row 3 false [.agg [.int .i64 c0, .int .i64 c1, .int .i64 c2]]) := hr
  have ix : ∀ B : Arena, B[y]? = A[y]? → B[y]? = some (.row 3 false [.agg [.int .i64 c0, .int .i64 c1, .int .i64 c2]]) ∧ evIndexArr 3 1 B (.ptr y 0 0) (.int .i64 0) = some (.ptr y 0 0) ∧ evIndexArr 3 1 B (.ptr y 0 0) (.int .i64 2) = some (.ptr y 0 2) ∧ evLoad false 1 B (.ptr y 0 0) = some (.int .i64 c0) ∧ evLoad false 1 B (.ptr y 0 2) = some (.int .i64 c2) := fun B hB => by
    rw [hr'] at hB
    refine ⟨hB, by simp [evIndexArr, hB], by simp [evIndexArr, hB], ?_, ?_⟩
    · simp only [evLoad, hB]; rfl
    · simp only [evLoad, hB]; rfl
  obtain ⟨_, _, j2, _, j4⟩ := ix A rfl
  obtain ⟨A0, hA0⟩ : ∃ A0, A0 = A ++ [Ent.row 6 false [.agg [.int .i64 0, .int .i64 0, .int .i64 0, .int .i64 0, .int .i64 0, .str []]]] := ⟨_, rfl⟩
  obtain ⟨A1, hA1⟩ : ∃ A1, A1 = A ++ [Ent.row 6 false [flA (t, f)]] := ⟨_, rfl⟩
  obtain ⟨z, hz⟩ : ∃ z, z = A.length := ⟨_, rfl⟩
  have st0 : evStore 6 A0 (.ptr z 0 0) (.agg [.int .i64 (t : Int), .int .i64 f.fr, .int .i64 f.to, .int .i64 f.seq, .int .i64 f.ack, .str f.body]) = some A1 := by
    have hr0 : A0[z]? = some (.row 6 false [.agg [.int .i64 0, .int .i64 0, .int .i64 0, .int .i64 0, .int .i64 0, .str []]]) := by rw [hA0, hz]; simp
    have := evStore_of (size := 6) (o := 0) (i := 0) (e' := flA (t, f)) (a := flA (t, f)) hr0 rfl rfl rfl (by omega) rfl
    rw [show (AV.agg [.int .i64 (t : Int), .int .i64 f.fr, .int .i64 f.to, .int .i64 f.seq, .int .i64 f.ack, .str f.body]) = flA (t, f) from rfl, this, hA0, hA1, hz]
    simp
  have hF : Fr A A1 [] := by rw [hA1]; exact Fr.app _ _ _
  have hl1 : A1.length = A.length + 1 := by rw [hA1]; simp
  obtain ⟨h1, p1⟩ := h.more hF [z] (fun j hj => by rw [List.mem_singleton] at hj; omega)
  have hrz : A1[z]? = some (.row 6 false [flA (t, f)]) := by rw [hA1, hz]; simp
  obtain ⟨_, k1, _, k3, _⟩ := ix A1 (p1 y hy)
  have hry1 := (ix A1 (p1 y hy)).1
  have b0 := evEql (X.fl.length : Int) 0
  rw [decide_eq_false (by omega)] at b0
  have b1 := evNeq (k : Int) 9
  have b2 := evNeq (k : Int) 10
  -- the frame is taken off the line, or not
  obtain ⟨B, v38, hB, pB⟩ : ∃ B, (k ≠ 9 → H38 (fun _ _ _ => none) [.ptr x 0 0, .int .i64 (n : Int)] A1 = some (pack [], B)) ∧ (LnP B x (if k = 9 then X else cutP X n) ([z] ++ P) ∧ (k = 9 → B = A1)) ∧ ∀ j, j ∈ [z] ++ P → B[j]? = A1[j]? := by
    by_cases c : k = 9
    · refine ⟨A1, fun h0 => absurd c h0, ⟨?_, fun _ => rfl⟩, fun _ _ => rfl⟩
      rw [if_pos c]
      exact ⟨i, q, l, w, h1⟩
    · obtain ⟨B, g1, g2, g3⟩ := ev38 (fun _ _ _ => none) ⟨i, q, l, w, h1⟩ hnl (by omega)
      refine ⟨B, fun _ => g1, ⟨?_, fun h0 => absurd h0 c⟩, g3⟩
      rw [if_neg c]
      exact g2
  obtain ⟨hB, hB9⟩ := hB
  have hrzB : B[z]? = some (.row 6 false [flA (t, f)]) := (pB z (by simp)).trans hrz
  have lz : evLoad true 6 B (.ptr z 0 0) = some (.agg [.int .i64 (t : Int), .int .i64 f.fr, .int .i64 f.to, .int .i64 f.seq, .int .i64 f.ack, .str f.body]) := by
    simp only [evLoad, hrzB]; rfl
  obtain ⟨hryB, q1, _, q3, _⟩ := ix B ((pB y (by simp [hy])).trans (p1 y hy))
  have hd' : DelOk (if k = 9 then X else cutP X n) t f := by
    split
    · exact hd
    · exact ⟨hd.d, hd.l, hd.ep, hd.len, hd.o, hd.n, hd.a, hd.b, hd.c, hd.N⟩
  obtain ⟨C, v39, hC, pC⟩ : ∃ C, (k ≠ 10 → H39 (fun _ _ _ => none) [.ptr x 0 0, flA (t, f)] B = some (pack [], C)) ∧ (LnP C x (delP X k n t f) ([z] ++ P) ∧ (k = 10 → C = B)) ∧ ∀ j, j ∈ [z] ++ P → C[j]? = B[j]? := by
    unfold delP
    by_cases c : k = 10
    · refine ⟨B, fun h0 => absurd c h0, ⟨?_, fun _ => rfl⟩, fun _ _ => rfl⟩
      rw [if_pos c]
      rw [if_neg (by omega)] at hB
      exact hB
    · obtain ⟨C, g1, g2, g3⟩ := ev39 (fun _ _ _ => none) hB ht hd'
      refine ⟨C, fun _ => g1, ⟨?_, fun h0 => absurd h0 c⟩, g3⟩
      rw [if_neg c]
      exact g2
  obtain ⟨hC, hC10⟩ := hC
  have inP : ∀ j, j ∈ P → j ∈ [z] ++ P := fun j hj => by simp [hj]
  refine ⟨C, ?_, ?_, fun j hj => (pC j (inP j hj)).trans ((pB j (inP j hj)).trans (p1 j hj))⟩
  rotate_left
  · obtain ⟨i', q', l', w', hC⟩ := hC
    exact ⟨i', q', l', w', hC.less inP⟩
  refine ⟨[.undef, .undef, .undef, .undef, .undef, .undef, .undef, .undef, .undef, .undef, .undef, .undef, .undef, .undef, .undef, .undef, .undef], .inl ?_⟩
  have pk : pack [] = .tup [] := rfl
  rw [pk] at v38 v39
  by_cases c9 : k = 9
  · rw [decide_eq_false (by omega)] at b1
    rw [decide_eq_true (by omega)] at b2
    have e9 := hB9 c9
    have v39' : H39 (fun _ _ _ => none) [.ptr x 0 0, .agg [.int .i64 (t : Int), .int .i64 f.fr, .int .i64 f.to, .int .i64 f.seq, .int .i64 f.ack, .str f.body]] A1 = some (.tup [], C) := by
      rw [← e9]; exact v39 (by omega)
    rw [e9] at lz q1 q3 hryB
    simp [DDEF, DKILL, pH2, hrow, hr', f2, hlen, b0, j2, j4, m15a, m15b, x1, l1', ← hA0, ← hz, st0, k1, k3, b1, b2, lz, hry1, v39', -evBin, -evLoad, -pureH, -evStore, -evLenSl, -evIndexSl]
  · rw [decide_eq_true (by omega)] at b1
    have v38' := v38 c9
    by_cases c10 : k = 10
    · rw [decide_eq_false (by omega)] at b2
      have e10 := hC10 c10
      rw [e10]
      simp [DDEF, DKILL, pH2, hrow, hr', f2, hlen, b0, j2, j4, m15a, m15b, x1, l1', ← hA0, ← hz, st0, k1, k3, q1, q3, b1, b2, hry1, hryB, v38', -evBin, -evLoad, -pureH, -evStore, -evLenSl, -evIndexSl]
    · rw [decide_eq_true (by omega)] at b2
      have v39' : H39 (fun _ _ _ => none) [.ptr x 0 0, .agg [.int .i64 (t : Int), .int .i64 f.fr, .int .i64 f.to, .int .i64 f.seq, .int .i64 f.ack, .str f.body]] B = some (.tup [], C) := v39 c10
      simp [DDEF, DKILL, pH2, hrow, hr', f2, hlen, b0, j2, j4, m15a, m15b, x1, l1', ← hA0, ← hz, st0, k1, k3, q1, q3, b1, b2, lz, hry1, hryB, v38', v39', -evBin, -evLoad, -pureH, -evStore, -evLenSl, -evIndexSl]
set_option maxRecDepth 100000 in
theorem dDef0 {v1 v8 v12 v13 v14 v15 v2 s : AV} {A : Arena} {x : Nat} {X : PS} {P : List Nat} (h : LnP A x X P) (h0 : X.fl.length = 0) :
    Done (run (envOf GW fs37) 300 [.code DDEF, .blk 0, .code DKILL] (sdd (.ptr x 0 0) v1 v2 s v8 v12 v13 v14 v15) A) A := by
  obtain ⟨i, q, l, w, h⟩ := h
  have hrow := h.row
  have hS : SlP 6 A (w 0) (X.fl.map flA) := h.slot (k := 0) (by omega)
  have hlen : evLenSl (w 0) = some (.int .i64 0) := by
    have := hS.len
    rw [List.length_map, h0] at this
    exact this
  have f2 : evLoad false 1 A (.ptr x 0 2) = some (w 0) := h.ldw (k := 0) (by omega)
  have b0 : evBin .eql (.int .i64 0) (.int .i64 0) = some (.bool true) := rfl
  refine ⟨[.ptr x 0 0, v1, v2, s, .undef, .undef, .undef, .undef, v8, .bool true, .undef, .undef, v12, v13, v14, v15, .undef], .inr ?_⟩
  simp [DDEF, hrow, f2, hlen, b0, -evBin, -evLoad, -evLenSl]
end Go.Proofs.Ytfidjdlmmcaplaa
/-
  Link: a deed as a whole, and that deeds keep what holds of the line.
-/
namespace Go.Proofs.Ytfidjdlmmcaplaa
open Go

def deedP (X : PS) (c0 c1 c2 : Int) : PS :=
  if (pick c0 12).toNat ≤ 2 then (if sendOk (X.e (pick c1 2).toNat) (txt X.N) then sendP X (pick c1 2).toNat else X)
  else if (pick c0 12).toNat ≤ 5 then tickP X (pick c1 2).toNat
  else if (pick c0 12).toNat = 11 then { X with e := upd X.e (pick c1 2).toNat (newS ((X.e (pick c1 2).toNat).epoch + 1 + pick c2 3)) }
  else match X.fl[(pick c2 (X.fl.length : Int)).toNat]? with
    | none => X
    | some x => delP X (pick c0 12).toNat (pick c2 (X.fl.length : Int)).toNat x.1 x.2
structure OkX (n : Nat) (X : PS) (G : Logs) : Prop where
  j : J X G
  w : ∀ t, t < 2 → Wf n (X.e t)
  N : X.N ≤ n + 1
  fl : X.fl.length ≤ 10 * n
theorem OkX.del {n : Nat} {X : PS} {G : Logs} (h : OkX n X G) (hn : n ≤ 190) {x : Nat × FrS} (hx : x ∈ X.fl) : DelOk X x.1 x.2 := by
  have ht := (h.j.fl x hx).1
  obtain ⟨_, h2, h3, h4, h5, h6⟩ := h.j.recv (t := x.1) (f := x.2) hx (by have := h.N; omega)
  have hw := h.w x.1 ht
  have hr := (hw.recv x.2).lost
  have h7 := hw.lost
  exact ⟨h2, ⟨h3, h4⟩, h5, h6, h.j.lo _ (flip ht).1, by omega, by omega, by have := hw.queue; omega, hw.received, by have := h.N; omega⟩
theorem OkX.mono {n : Nat} {X : PS} {G : Logs} (h : OkX n X G) : OkX (n + 1) X G := ⟨h.j, fun t ht => (h.w t ht).mono (by omega), by have := h.N; omega, by have := h.fl; omega⟩
theorem upd_wf' {n : Nat} {S : Nat → EndS} (hw : ∀ t, t < 2 → Wf n (S t)) {s : Nat} {X : EndS} (hX : Wf (n + 1) X) : ∀ t, t < 2 → Wf (n + 1) (upd S s X t) := by
  intro t ht
  by_cases e : t = s
  · subst e; rw [upd_same]; exact hX
  · rw [upd_ne _ _ e]; exact (hw t ht).mono (by omega)
/-- a frame of the line arrives, and may have been taken off it -/
theorem OkX.recv {n : Nat} {X : PS} {G : Logs} (h : OkX n X G) (hn : n ≤ 190) {x : Nat × FrS} (hx : x ∈ X.fl) {fl' : List (Nat × FrS)} (hs : ∀ y ∈ fl', y ∈ X.fl) (hl : fl'.length ≤ X.fl.length) : ∃ G', OkX (n + 1) (recvP { X with fl := fl' } x.1 x.2) G' := by
  have ht := (h.j.fl x hx).1
  obtain ⟨⟨G', h1⟩, _⟩ := h.j.recv (t := x.1) (f := x.2) hx (by have := h.N; omega)
  refine ⟨G', h1.less (fl' := fl') hs, ?_, ?_, ?_⟩
  · have hw := h.w x.1 ht
    exact upd_wf' h.w ((hw.recv x.2).lostE.mono (by omega))
  · show X.N ≤ n + 1 + 1
    have := h.N; omega
  · show fl'.length ≤ 10 * (n + 1)
    have := h.fl; omega
theorem OkX.deed {n : Nat} {X : PS} {G : Logs} (h : OkX n X G) (hn : n ≤ 190) (c0 c1 c2 : Int) : ∃ G', OkX (n + 1) (deedP X c0 c1 c2) G' := by
  have p1 := pick_range c1 2 (by omega)
  have p2 := pick_range c2 3 (by omega)
  obtain ⟨s, hs⟩ : ∃ s, s = (pick c1 2).toNat := ⟨_, rfl⟩
  have hs2 : s < 2 := by omega
  have hN := h.N
  have hfl := h.fl
  unfold deedP
  rw [← hs]
  split
  · split
    · rename_i hok
      refine ⟨sendG X G s, h.j.send hs2, ?_, ?_, ?_⟩
      · exact upd_wf' h.w ((h.w s hs2).send hok)
      · show X.N + 1 ≤ _
        omega
      · show X.fl.length ≤ _
        omega
    · exact ⟨G, h.mono⟩
  · split
    · refine ⟨G, h.j.tick hs2 h.w (by omega) (by omega), ?_, ?_, ?_⟩
      · exact upd_wf' h.w (h.w s hs2).tick
      · show X.N ≤ _
        omega
      · show (X.fl ++ (tickS (X.e s)).2.map _).length ≤ _
        rw [List.length_append, List.length_map]
        have := tick_len (X.e s)
        omega
    · split
      · have hep := (h.w s hs2).epoch
        refine ⟨G, h.j.new hs2 (by omega), ?_, ?_, ?_⟩
        · exact upd_wf' h.w (Wf.new (n + 1) (by omega))
        · show X.N ≤ _
          omega
        · show X.fl.length ≤ _
          omega
      · split
        · exact ⟨G, h.mono⟩
        · rename_i x hx
          have hxm := List.mem_of_getElem? hx
          have cut : ∀ m, (∀ y ∈ X.fl.take m ++ X.fl.drop (m + 1), y ∈ X.fl) ∧ (X.fl.take m ++ X.fl.drop (m + 1)).length ≤ X.fl.length := fun m => ⟨fun y hy => by
            rcases List.mem_append.1 hy with hy | hy
            · exact List.mem_of_mem_take hy
            · exact List.mem_of_mem_drop hy, by simp; omega⟩
          unfold delP
          split
          · refine ⟨G, h.j.less (cut _).1, fun t ht => (h.w t ht).mono (by omega), ?_, ?_⟩
            · show X.N ≤ _
              omega
            · have := (cut (pick c2 (X.fl.length : Int)).toNat).2
              show (X.fl.take _ ++ X.fl.drop _).length ≤ _
              omega
          · split
            · exact h.recv hn hxm (fl' := X.fl) (fun y hy => hy) (Nat.le_refl _)
            · exact h.recv hn hxm (cut _).1 (cut _).2
theorem done_fun {hd : Handler} {args : List AV} {A B : Arena} (ha : args.length = 2) (h : Done (run (envOf GW fs37) 300 [.code mf37.mc] (args ++ List.replicate 15 .undef) A) B) : H37 hd args A = some (pack [], B) := by
  unfold H37
  rw [evFun_run _ _ (by rw [ha]; rfl)]
  obtain ⟨σ, h | h⟩ := h
  · rw [show mf37.len - mf37.n = 15 from rfl, h]
    rfl
  · rw [show mf37.len - mf37.n = 15 from rfl, h]
    rfl
set_option maxRecDepth 100000 in
set_option maxHeartbeats 4000000 in
theorem ev37 (hd : Handler) {A : Arena} {x : Nat} {X : PS} {P : List Nat} (h : LnP A x X P) {n : Nat} {G : Logs} (ok : OkX n X G) (hn : n ≤ 190) {c0 c1 c2 : Int} (h0 : inI c0) (h1 : inI c1) (h2 : inI c2) :
    ∃ B, H37 hd [.ptr x 0 0, .agg [.int .i64 c0, .int .i64 c1, .int .i64 c2]] A = some (pack [], B) ∧ LnP B x (deedP X c0 c1 c2) P ∧ ∀ j, j ∈ P → B[j]? = A[j]? := by
  have p0 := pick_range c0 12 (by omega)
  have p1 := pick_range c1 2 (by omega)
  have m0 := M15_eq h0 (show (0 : Int) < 12 by omega)
  have m1 := M15_eq h1 (show (0 : Int) < 2 by omega)
  obtain ⟨k, hk⟩ : ∃ k : Nat, pick c0 12 = (k : Int) := ⟨(pick c0 12).toNat, by omega⟩
  obtain ⟨s, hs⟩ : ∃ s : Nat, pick c1 2 = (s : Int) := ⟨(pick c1 2).toNat, by omega⟩
  have hs2 : s < 2 := by omega
  have hk12 : k < 12 := by omega
  rw [hk] at m0
  rw [hs] at m1
  have eD : deedP X c0 c1 c2 = if k ≤ 2 then (if sendOk (X.e s) (txt X.N) then sendP X s else X) else if k ≤ 5 then tickP X s else if k = 11 then { X with e := upd X.e s (newS ((X.e s).epoch + 1 + pick c2 3)) } else match X.fl[(pick c2 (X.fl.length : Int)).toNat]? with
    | none => X
    | some x => delP X k (pick c2 (X.fl.length : Int)).toNat x.1 x.2 := by
    unfold deedP
    rw [hk, hs]
    simp only [Int.toNat_natCast]
  rw [eD]
  have hN := ok.N
  have hfl := ok.fl
  have hws := ok.w s hs2
  obtain ⟨A1, hA1⟩ : ∃ A1, A1 = A ++ [row3 c0 c1 c2] := ⟨_, rfl⟩
  obtain ⟨y, hy⟩ : ∃ y, y = A.length := ⟨_, rfl⟩
  have hF : Fr A A1 [] := by rw [hA1]; exact Fr.app _ _ _
  have hl1 : A1.length = A.length + 1 := by rw [hA1]; simp
  obtain ⟨hLn, p1'⟩ : LnP A1 x X ([y] ++ P) ∧ ∀ j, j ∈ P → A1[j]? = A[j]? := by
    obtain ⟨i, q, l, w, h⟩ := h
    obtain ⟨h', p'⟩ := h.more hF [y] (fun j hj => by rw [List.mem_singleton] at hj; omega)
    exact ⟨⟨i, q, l, w, h'⟩, p'⟩
  have hry : A1[y]? = some (row3 c0 c1 c2) := by rw [hA1, hy]; simp
  have hry' : A1[y]? = some (.row 3 false [.agg [.int .i64 c0, .int .i64 c1, .int .i64 c2]]) := hry
  have bx : A ++ [Ent.row 3 false [.agg [.int .i64 c0, .int .i64 c1, .int .i64 c2]]] = A1 := hA1.symm
  have i0 : evIndexArr 3 1 A1 (.ptr y 0 0) (.int .i64 0) = some (.ptr y 0 0) := by simp [evIndexArr, hry']
  have i1 : evIndexArr 3 1 A1 (.ptr y 0 0) (.int .i64 1) = some (.ptr y 0 1) := by simp [evIndexArr, hry']
  have l0 : evLoad false 1 A1 (.ptr y 0 0) = some (.int .i64 c0) := by
    simp only [evLoad, hry']; rfl
  have l1 : evLoad false 1 A1 (.ptr y 0 1) = some (.int .i64 c1) := by
    simp only [evLoad, hry']; rfl
  obtain ⟨v1, hv1⟩ : ∃ v1 : AV, v1 = .agg [.int .i64 c0, .int .i64 c1, .int .i64 c2] := ⟨_, rfl⟩
  have e0 : run (envOf GW fs37) 300 [.code mf37.mc] ([.ptr x 0 0, .agg [.int .i64 c0, .int .i64 c1, .int .i64 c2]] ++ List.replicate 15 .undef) A = run (envOf GW fs37) 300 [.code (.seq DTST1 (.cond (.var 12) DSEND (.seq DTST2 (.cond (.var 14) DTICK (.seq DTST3 (.cond (.var 15) DNEW DDEF)))))), .blk 0, .code DKILL] (sdd (.ptr x 0 0) v1 (.ptr y 0 0) (.int .i64 (s : Int)) (.int .i64 (k : Int)) .undef .undef .undef .undef) A1 := by
    rw [mf37_eq, hv1]
    simp [DR0, DR1, DR2, evBox, bx, ← hy, pH2, i0, i1, l0, l1, m0, m1, hry', -pureH, -evLoad]
  have kill : ∀ (a b c d e f g h i : AV) (B : Arena), Done (run (envOf GW fs37) 300 [.blk 0, .code DKILL] (sdd a b c d e f g h i) B) B := fun a b c d e f g h i B => ⟨[.undef, .undef, .undef, .undef, .undef, .undef, .undef, .undef, .undef, .undef, .undef, .undef, .undef, .undef, .undef, .undef, .undef], .inl (by simp [DKILL])⟩
  suffices hS : ∃ B, Done (run (envOf GW fs37) 300 [.code (.seq DTST1 (.cond (.var 12) DSEND (.seq DTST2 (.cond (.var 14) DTICK (.seq DTST3 (.cond (.var 15) DNEW DDEF)))))), .blk 0, .code DKILL] (sdd (.ptr x 0 0) v1 (.ptr y 0 0) (.int .i64 (s : Int)) (.int .i64 (k : Int)) .undef .undef .undef .undef) A1) B ∧ LnP B x (if k ≤ 2 then (if sendOk (X.e s) (txt X.N) then sendP X s else X) else if k ≤ 5 then tickP X s else if k = 11 then { X with e := upd X.e s (newS ((X.e s).epoch + 1 + pick c2 3)) } else match X.fl[(pick c2 (X.fl.length : Int)).toNat]? with
    | none => X
    | some x => delP X k (pick c2 (X.fl.length : Int)).toNat x.1 x.2) ([y] ++ P) ∧ ∀ j, j ∈ [y] ++ P → B[j]? = A1[j]? by
    obtain ⟨B, hB, gB, pB⟩ := hS
    rw [← e0] at hB
    refine ⟨B, done_fun rfl hB, ?_, fun j hj => (pB j (by simp [hj])).trans (p1' j hj)⟩
    obtain ⟨i, q, l, w, gB⟩ := gB
    exact ⟨i, q, l, w, gB.less fun j hj => by simp [hj]⟩
  rw [run_seq, tst1 hk12]
  have cond : ∀ (a b : MC) (K : List KC) (v0 v1 v2 v3 v8 v13 v14 v15 : AV) (d : Bool) (B : Arena), run (envOf GW fs37) 300 (.code (.cond (.var 12) a b) :: K) (sdd v0 v1 v2 v3 v8 (.bool d) v13 v14 v15) B = run (envOf GW fs37) 300 (.code (if d = true then a else b) :: K) (sdd v0 v1 v2 v3 v8 (.bool d) v13 v14 v15) B := by
    intro a b K v0 v1 v2 v3 v8 v13 v14 v15 d B
    cases d <;> simp
  have cond2 : ∀ (a b : MC) (K : List KC) (v0 v1 v2 v3 v8 v12 v13 v15 : AV) (d : Bool) (B : Arena), run (envOf GW fs37) 300 (.code (.cond (.var 14) a b) :: K) (sdd v0 v1 v2 v3 v8 v12 v13 (.bool d) v15) B = run (envOf GW fs37) 300 (.code (if d = true then a else b) :: K) (sdd v0 v1 v2 v3 v8 v12 v13 (.bool d) v15) B := by
    intro a b K v0 v1 v2 v3 v8 v12 v13 v15 d B
    cases d <;> simp
  have cond3 : ∀ (a b : MC) (K : List KC) (v0 v1 v2 v3 v8 v12 v13 v14 : AV) (d : Bool) (B : Arena), run (envOf GW fs37) 300 (.code (.cond (.var 15) a b) :: K) (sdd v0 v1 v2 v3 v8 v12 v13 v14 (.bool d)) B = run (envOf GW fs37) 300 (.code (if d = true then a else b) :: K) (sdd v0 v1 v2 v3 v8 v12 v13 v14 (.bool d)) B := by
    intro a b K v0 v1 v2 v3 v8 v12 v13 v14 d B
    cases d <;> simp
  rw [cond]
  by_cases hk2 : k ≤ 2
  · rw [if_pos hk2, if_pos (decide_eq_true hk2)]
    have hnx := hws.next
    obtain ⟨B, v13, r, hB, pB⟩ := dSend (K := [.blk 0, .code DKILL]) (v1 := v1) (v2 := .ptr y 0 0) (v8 := .int .i64 (k : Int)) (v12 := .bool (decide (k ≤ 2))) (v14 := .undef) (v15 := .undef) hLn hs2 (by omega) (by omega)
    rw [r]
    exact ⟨B, kill _ _ _ _ _ _ _ _ _ _, hB, pB⟩
  · rw [if_neg hk2, if_neg (by simpa using hk2), run_seq, tst2 hk12 (by omega), cond2]
    by_cases hk5 : k ≤ 5
    · rw [if_pos hk5, if_pos (decide_eq_true hk5)]
      obtain ⟨B, r, hB, pB⟩ := dTick (K := [.blk 0, .code DKILL]) (v1 := v1) (v2 := .ptr y 0 0) (v8 := .int .i64 (k : Int)) (v12 := .bool (decide (k ≤ 2))) (v13 := .undef) (v14 := .bool (decide (k ≤ 5))) (v15 := .undef) hLn hs2 (hws.bd (by omega)) (ok.j.tickF hs2 ok.w (by omega)) (by omega) (by omega)
      rw [r]
      exact ⟨B, kill _ _ _ _ _ _ _ _ _ _, hB, pB⟩
    · rw [if_neg hk5, if_neg (by simpa using hk5), run_seq, tst3, cond3]
      by_cases hk11 : k = 11
      · rw [if_pos hk11, if_pos (decide_eq_true hk11)]
        have hep := hws.epoch
        exact dNew hLn hry h2 hs2 (by omega)
      · rw [if_neg hk11, if_neg (by simpa using hk11)]
        by_cases hl0 : X.fl.length = 0
        · have e : X.fl[(pick c2 (X.fl.length : Int)).toNat]? = none := List.getElem?_eq_none (by omega)
          rw [e]
          exact ⟨A1, dDef0 hLn hl0, hLn, fun _ _ => rfl⟩
        · have pc := pick_range c2 (X.fl.length : Int) (by omega)
          obtain ⟨m, hm⟩ : ∃ m : Nat, pick c2 (X.fl.length : Int) = (m : Int) := ⟨(pick c2 (X.fl.length : Int)).toNat, by omega⟩
          have hml : m < X.fl.length := by omega
          have em : (pick c2 (X.fl.length : Int)).toNat = m := by omega
          rw [em]
          have e : X.fl[m]? = some X.fl[m] := List.getElem?_eq_getElem hml
          rw [e]
          have hx := List.getElem_mem hml
          exact dDef hLn (by simp) hry h0 h2 hk (t := X.fl[m].1) (f := X.fl[m].2) e hm (ok.j.fl _ hx).1 (ok.del hn hx) (by omega)
end Go.Proofs.Ytfidjdlmmcaplaa
/-
  Link: lists of three integers as arguments.
-/
namespace Go.Proofs.Ytfidjdlmmcaplaa
open Go

def c3A (c : Int × Int × Int) : AV := .agg [.int .i64 c.1, .int .i64 c.2.1, .int .i64 c.2.2]
set_option maxRecDepth 100000 in
theorem three_arg {x : AV} {n : Nat} (h : TA Try.prog (n + 2) 35 x) : ∃ c : Int × Int × Int, x = c3A c ∧ inI c.1 ∧ inI c.2.1 ∧ inI c.2.2 := by
  obtain ⟨ls, rfl, hc, hl⟩ := TA.agg (show aggT Try.prog 35 = true by kernel_rfl) h
  simp only [TC, Try.underlying35] at hc
  rw [show Try.prog.cellsOf 3 = 1 by kernel_rfl] at hc
  simp only [TCa, TC, Try.underlying3] at hc
  obtain ⟨_, _, rfl, ⟨a, rfl, ha⟩, _, _, _, rfl, ⟨b, rfl, hb⟩, _, _, _, rfl, ⟨c, rfl, hc'⟩, _, rfl⟩ := hc
  exact ⟨(a, b, c), rfl, ha, hb, hc'⟩
theorem calls_arg {x : AV} {n : Nat} (h : TA Try.prog (n + 3) 22 x) : ∃ cs : List (Int × Int × Int), SlA 3 (cs.map c3A) x ∧ ∀ c ∈ cs, inI c.1 ∧ inI c.2.1 ∧ inI c.2.2 := by
  obtain ⟨es, h1, h2, h3⟩ := TA.sl Try.underlying22 h
  rw [show Try.prog.cellsOf 35 = 3 by kernel_rfl] at h1
  obtain ⟨cs, rfl, h4⟩ := map_of_forall (f := c3A) (p := fun c => inI c.1 ∧ inI c.2.1 ∧ inI c.2.2) (fun x hx => three_arg (n := n) (h3 x hx))
  exact ⟨cs, h1, h4⟩
end Go.Proofs.Ytfidjdlmmcaplaa
/-
  Link: ExactlyOnce.
-/
namespace Go.Proofs.Ytfidjdlmmcaplaa
open Go

noncomputable def fsO : List (FuncId × HModel) := [(12, pureH 4 M12), (26, pureH 4 M26), (27, H27), (36, H36), (37, H37)]
@[simp] theorem fsO_12 : lookM fsO 12 = some (pureH 4 M12) := rfl
@[simp] theorem fsO_26 : lookM fsO 26 = some (pureH 4 M26) := rfl
@[simp] theorem fsO_27 : lookM fsO 27 = some (H27) := rfl
@[simp] theorem fsO_36 : lookM fsO 36 = some (H36) := rfl
@[simp] theorem fsO_37 : lookM fsO 37 = some (H37) := rfl
theorem soundO : ∀ f M, lookM fsO f = some M → FnSpecY Try.prog GW f M := lookM_cons (FnSpecY.of_pure (PureSpec.of_ev (E := envOf GW fs12) (envOf_sound sound12) rfl at12 comp12 5 fun _ _ h => ⟨300, h⟩) 4) (lookM_cons (FnSpecY.of_pure spec26 4) (lookM_cons spec27 (lookM_cons spec36 (lookM_cons spec37 lookM_nil))))
/-- is the message open? -/
def opn (X : PS) (s m : Nat) : Bool := decide (1 ≤ m) && (decide ((X.sd m : Int) = (s : Int)) && (decide (X.fm m = (X.e s).epoch) && (decide (X.ar m = 0) && !X.ls m)))
def openL (X : PS) (s n : Nat) : List Nat := (List.range n).filter (opn X s)
theorem openL_succ (X : PS) (s n : Nat) : ((openL X s (n + 1)).length : Int) = (openL X s n).length + (if opn X s n = true then 1 else 0) := by
  unfold openL
  rw [List.range_succ, List.filter_append, List.length_append]
  by_cases h : opn X s n = true
  · rw [if_pos h, List.filter_cons_of_pos h]; rfl
  · rw [if_neg h, List.filter_cons_of_neg h]; simp
theorem openL_le (X : PS) (s n : Nat) : (openL X s n).length ≤ n := by
  have := List.length_filter_le (opn X s) (List.range n)
  rw [List.length_range] at this
  exact this
theorem OkX.open_ {n : Nat} {X : PS} {G : Logs} (h : OkX n X G) (hn : n ≤ 190) {s : Nat} (hs : s < 2) : (openL X s X.N).length ≤ (X.e s).queue.length := by
  refine h.j.open_le hs (by have := h.N; omega) _ (List.nodup_range.filter _) fun m hm => ?_
  obtain ⟨h1, h2⟩ := List.mem_filter.1 hm
  have := List.mem_range.1 h1
  unfold opn at h2
  simp only [Bool.and_eq_true, decide_eq_true_eq, Bool.not_eq_true'] at h2
  obtain ⟨a, b, c, d, e⟩ := h2
  exact ⟨a, this, by omega, c, d, e⟩
set_option maxRecDepth 100000 in
set_option maxHeartbeats 8000000 in
theorem round6a {A : Arena} {x : Nat} {X : PS} {P : List Nat} {i : Nat → Nat} {q l w : Nat → AV} (h : Ln A x X.e (cont X) X.la P i q l w) {s : Nat} (hs : s < 2) {n : Nat} (h1 : 1 ≤ n) (hn : n < X.N) (hN : X.N < 300) (v0 v2 v4 : AV) :
    run (envOf GW fsO) 300 [.code lp6x0] (st6x0 v0 v2 (.ptr x 0 0) v4 (.int .i64 (s : Int)) (.int .i64 ((openL X s n).length : Int)) (.int .i64 (n : Int))) A = some (.normal (st6x0 v0 v2 (.ptr x 0 0) v4 (.int .i64 (s : Int)) (.int .i64 ((openL X s (n + 1)).length : Int)) (.int .i64 ((n + 1 : Nat) : Int))) A) := by
  have hrow := h.row
  have f3 : evLoad false 1 A (.ptr x 0 3) = some (w 1) := h.ldw (k := 1) (by omega)
  have f4 : evLoad false 1 A (.ptr x 0 4) = some (w 2) := h.ldw (k := 2) (by omega)
  have f6 : evLoad false 1 A (.ptr x 0 6) = some (w 4) := h.ldw (k := 4) (by omega)
  have f7 : evLoad false 1 A (.ptr x 0 7) = some (w 5) := h.ldw (k := 5) (by omega)
  have hl1 := h.len (k := 1) (by omega)
  rw [cont_len X (by omega) (by omega)] at hl1
  obtain ⟨r1, x1, l1⟩ := h.gsd hn
  obtain ⟨r2, x2, l2⟩ := h.gfm hn
  obtain ⟨r3, x3, l3⟩ := h.gar hn
  obtain ⟨r4, x4, l4⟩ := h.gls hn
  have a26 := ev26 (h.end_ hs) (fun _ _ _ => none)
  obtain ⟨xi, li⟩ := h.idx hs
  have b1 := evLss (n : Int) (X.N : Int)
  rw [decide_eq_true (by omega)] at b1
  have b2 := evEql (X.sd n : Int) (s : Int)
  have b3 := evEql (X.fm n) (X.e s).epoch
  have b4 := evEql (X.ar n) 0
  have hle := openL_le X s n
  have b5 := evAdd (a := ((openL X s n).length : Int)) (b := 1) (by omega)
  have b6 := evAdd (a := (n : Int)) (b := 1) (by omega)
  rw [show (n : Int) + 1 = ((n + 1 : Nat) : Int) by omega] at b6
  rw [openL_succ]
  have ho : opn X s n = (decide ((X.sd n : Int) = (s : Int)) && (decide (X.fm n = (X.e s).epoch) && (decide (X.ar n = 0) && !X.ls n))) := by
    unfold opn
    rw [decide_eq_true h1, Bool.true_and]
  rw [ho]
  obtain ⟨O, hO⟩ : ∃ O, O = ((openL X s n).length : Int) := ⟨_, rfl⟩
  rw [← hO] at b5 ⊢
  obtain ⟨O1, hO1⟩ : ∃ O1, O1 = O + 1 := ⟨_, rfl⟩
  rw [← hO1] at b5
  obtain ⟨t, ht⟩ : ∃ t, t = n + 1 := ⟨_, rfl⟩
  rw [← ht] at b6 ⊢
  obtain ⟨d2, hd2⟩ : ∃ d, d = decide ((X.sd n : Int) = (s : Int)) := ⟨_, rfl⟩
  obtain ⟨d3, hd3⟩ : ∃ d, d = decide (X.fm n = (X.e s).epoch) := ⟨_, rfl⟩
  obtain ⟨d4, hd4⟩ : ∃ d, d = decide (X.ar n = 0) := ⟨_, rfl⟩
  obtain ⟨d5, hd5⟩ : ∃ d, d = X.ls n := ⟨_, rfl⟩
  rw [← hd2] at b2 ⊢
  rw [← hd3] at b3 ⊢
  rw [← hd4] at b4 ⊢
  rw [← hd5] at l4 ⊢
  have hz : O + 0 = O := by omega
  cases d2
  · simp [lp6x0, b1, b2, b6, hrow, f3, hl1, x1, l1, -evBin, -evLoad, -pureH, -evLenSl, -evIndexSl]
  · cases d3
    · simp [lp6x0, b1, b2, b3, b6, hrow, f3, f4, hl1, x1, l1, x2, l2, a26, xi, li, -evBin, -evLoad, -pureH, -evLenSl, -evIndexSl]
    · cases d4
      · simp [lp6x0, b1, b2, b3, b4, b6, hrow, f3, f4, f6, hl1, x1, l1, x2, l2, x3, l3, a26, xi, li, -evBin, -evLoad, -pureH, -evLenSl, -evIndexSl]
      · cases d5
        · simp [lp6x0, b1, b2, b3, b4, b5, b6, hrow, f3, f4, f6, f7, hl1, x1, l1, x2, l2, x3, l3, x4, l4, a26, xi, li, hO1, -evBin, -evLoad, -pureH, -evLenSl, -evIndexSl]
        · simp [lp6x0, b1, b2, b3, b4, b6, hrow, f3, f4, f6, f7, hl1, x1, l1, x2, l2, x3, l3, x4, l4, a26, xi, li, -evBin, -evLoad, -pureH, -evLenSl, -evIndexSl]
theorem loop6a {A : Arena} {x : Nat} {X : PS} {P : List Nat} {i : Nat → Nat} {q l w : Nat → AV} (h : Ln A x X.e (cont X) X.la P i q l w) {s : Nat} (hs : s < 2) (hN : X.N < 300) (hN1 : 1 ≤ X.N) (v0 v2 v4 : AV) : ∀ (k n m : Nat), n + k = X.N → 1 ≤ n → k < m →
    iter (evC (envOf GW fsO) 300 lp6x0) mask6x0 m (st6x0 v0 v2 (.ptr x 0 0) v4 (.int .i64 (s : Int)) (.int .i64 ((openL X s n).length : Int)) (.int .i64 (n : Int))) A = some (.exit 4 ((st6x0 v0 v2 (.ptr x 0 0) v4 (.int .i64 (s : Int)) (.int .i64 ((openL X s X.N).length : Int)) (.int .i64 (X.N : Int))).set 11 (.bool false)) A)
  | _, _, 0, _, _, h => by omega
  | 0, n, m + 1, hk, h1, hm => by
    obtain rfl : n = X.N := by omega
    have hrow := h.row
    have f3 : evLoad false 1 A (.ptr x 0 3) = some (w 1) := h.ldw (k := 1) (by omega)
    have hl1 := h.len (k := 1) (by omega)
    rw [cont_len X (by omega) (by omega)] at hl1
    have b1 := evLss (X.N : Int) (X.N : Int)
    rw [decide_eq_false (by omega)] at b1
    rw [iter_succ, cl6x0]
    simp [lp6x0, b1, hrow, f3, hl1, -evBin, -evLoad, -evLenSl]
  | k + 1, n, m + 1, hk, h1, hm => by
    rw [iter_succ, cl6x0, round6a h hs h1 (by omega) hN]
    exact loop6a h hs hN hN1 v0 v2 v4 k (n + 1) m (by omega) (by omega) (by omega)
set_option maxRecDepth 100000 in
theorem round6b {A : Arena} {x : Nat} {X : PS} {P : List Nat} (h : LnP A x X P) {n : Nat} {G : Logs} (ok : OkX n X G) (hn : n ≤ 190) {s : Nat} (hs : s < 2) (v0 v2 v4 : AV) :
    run (envOf GW fsO) 300 [.code lp6x1] (st6x1 v0 v2 (.ptr x 0 0) v4 (.int .i64 (s : Int))) A = some (.normal (st6x1 v0 v2 (.ptr x 0 0) v4 (.int .i64 ((s + 1 : Nat) : Int))) A) := by
  obtain ⟨i, q, l, w, h⟩ := h
  have hN := ok.N
  have hN1 := ok.j.n1
  have lp := loop6a h hs (by omega) hN1 v0 v2 v4 (X.N - 1) 1 300 (by omega) (by omega) (by omega)
  have e1 : (openL X s 1).length = 0 := by
    have e : openL X s 1 = [] := by
      show (List.range 1).filter (opn X s) = []
      rw [show List.range 1 = [0] from rfl, List.filter_cons_of_neg (by simp [opn])]
      rfl
    rw [e]; rfl
  rw [e1] at lp
  have lp' : iter (evC (envOf GW fsO) 300 lp6x0) mask6x0 300 (st6x0 v0 v2 (.ptr x 0 0) v4 (.int .i64 (s : Int)) (.int .i64 0) (.int .i64 1)) A = _ := lp
  have hrow := h.row
  have a27 := ev27 (h.end_ hs) (fun _ _ _ => none)
  obtain ⟨xi, li⟩ := h.idx hs
  have hop := ok.open_ hn hs
  have b1 := evLss (s : Int) 2
  rw [decide_eq_true (by omega)] at b1
  have b2 := evAdd (a := (s : Int)) (b := 1) (by omega)
  rw [show (s : Int) + 1 = ((s + 1 : Nat) : Int) by omega] at b2
  have b3 := evGtr ((openL X s X.N).length : Int) ((X.e s).queue.length : Int)
  rw [decide_eq_false (by omega)] at b3
  obtain ⟨t, ht⟩ : ∃ t, t = s + 1 := ⟨_, rfl⟩
  rw [← ht] at b2 ⊢
  simp [lp6x1, b1, b2, b3, hrow, a27, xi, li, go6x0 lp', -evBin, -evLoad]
theorem loop6b {A : Arena} {x : Nat} {X : PS} {P : List Nat} (h : LnP A x X P) {n : Nat} {G : Logs} (ok : OkX n X G) (hn : n ≤ 190) (v0 v2 v4 : AV) :
    iter (evC (envOf GW fsO) 300 lp6x1) mask6x1 300 (st6x1 v0 v2 (.ptr x 0 0) v4 (.int .i64 0)) A = some (.exit 2 ((st6x1 v0 v2 (.ptr x 0 0) v4 (.int .i64 2)).set 10 (.bool false)) A) := by
  have r1 : run (envOf GW fsO) 300 [.code lp6x1] (st6x1 v0 v2 (.ptr x 0 0) v4 (.int .i64 0)) A = some (.normal (st6x1 v0 v2 (.ptr x 0 0) v4 (.int .i64 1)) A) := round6b h ok hn (s := 0) (by omega) v0 v2 v4
  have r2 : run (envOf GW fsO) 300 [.code lp6x1] (st6x1 v0 v2 (.ptr x 0 0) v4 (.int .i64 1)) A = some (.normal (st6x1 v0 v2 (.ptr x 0 0) v4 (.int .i64 2)) A) := round6b h ok hn (s := 1) (by omega) v0 v2 v4
  rw [iter_succ, cl6x1, r1]
  simp only
  rw [iter_succ, cl6x1, r2]
  simp only
  rw [iter_succ, cl6x1]
  simp [lp6x1]
set_option maxRecDepth 100000 in
set_option maxHeartbeats 4000000 in
theorem round6c {A : Arena} {x : Nat} {X : PS} (h : LnP A x X []) {i : Nat} {G : Logs} (ok : OkX i X G) {v0 v2 : AV} {cs : List (Int × Int × Int)} (hv0 : SlA 3 (cs.map c3A) v0) (hi : i < cs.length) (hi120 : i < 120) (hin : ∀ c ∈ cs, inI c.1 ∧ inI c.2.1 ∧ inI c.2.2) :
    ∃ B X' G', run (envOf GW fsO) 300 [.code lp6x2] (st6x2 v0 v2 (.ptr x 0 0) (.int .i64 (i : Int))) A = some (.normal (st6x2 v0 v2 (.ptr x 0 0) (.int .i64 ((i + 1 : Nat) : Int))) B) ∧ LnP B x X' [] ∧ OkX (i + 1) X' G' := by
  obtain ⟨c, hc⟩ : ∃ c, c = cs[i] := ⟨_, rfl⟩
  have hci := hin c (by rw [hc]; exact List.getElem_mem hi)
  obtain ⟨c0, c1, c2⟩ := c
  simp only at hci
  obtain ⟨B, v37, hB, pB⟩ := ev37 (fun _ _ _ => none) h ok (by omega) hci.1 hci.2.1 hci.2.2
  obtain ⟨G', ok'⟩ := ok.deed (by omega) c0 c1 c2
  refine ⟨B, deedP X c0 c1 c2, G', ?_, hB, ok'⟩
  have lp := loop6b hB ok' (by omega) v0 v2 (.int .i64 (i : Int))
  obtain ⟨ii, q, l, w, h⟩ := h
  have hrow := h.row
  have ok1 := h.ldok
  obtain ⟨ii', q', l', w', hB⟩ := hB
  have hrowB := hB.row
  have okB := hB.ldok
  have hn := hv0.len
  rw [List.length_map] at hn
  have b1 := evLss (i : Int) (cs.length : Int)
  rw [decide_eq_true (by omega)] at b1
  have b2 := evLss (i : Int) 120
  rw [decide_eq_true (by omega)] at b2
  have b3 := evAdd (a := (i : Int)) (b := 1) (by omega)
  rw [show (i : Int) + 1 = ((i + 1 : Nat) : Int) by omega] at b3
  have he : (cs.map c3A)[i]? = some (c3A (c0, c1, c2)) := by simp [hi, ← hc]
  have ix := hv0.index (A := A) he rfl (by omega) .i64
  have ld : evLoad true 3 A (.fp (cellsOf (c3A (c0, c1, c2)))) = some (.agg [.int .i64 c0, .int .i64 c1, .int .i64 c2]) := rfl
  obtain ⟨C, hC⟩ : ∃ C, C = cellsOf (c3A (c0, c1, c2)) := ⟨_, rfl⟩
  rw [← hC] at ix ld
  obtain ⟨t, ht⟩ : ∃ t, t = i + 1 := ⟨_, rfl⟩
  rw [← ht] at b3 ⊢
  have pk : pack [] = .tup [] := rfl
  rw [pk] at v37
  simp [lp6x2, b1, b2, b3, hn, hrow, ok1, ix, ld, v37, hrowB, okB, go6x1 lp, -evBin, -evLoad, -evLenSl, -evIndexSl]
theorem ok0 : OkX 0 X0 (fun _ _ _ => []) := by
  refine ⟨⟨?_, ?_, ?_, ?_, ?_, ?_, ?_, ?_, ?_, ?_, ?_, ?_, ?_, ?_, ?_, ?_, ?_, ?_, ?_, ?_, ?_, ?_⟩, fun t _ => Wf.new 0 (by omega), Nat.le_refl _, Nat.le_refl _⟩
  · intro s _; show (1 : Int) ≤ 1; omega
  · intro s _; show (0 : Int) ≤ 0 ∧ (0 : Int) ≤ 1; omega
  · intro s _ h; cases h
  · intro s _; rfl
  · intro s _; rfl
  · intro s _ q hq; cases hq
  · intro s _; exact .nil
  · intro s _ p q n hn; cases hn
  · intro s _ p q; exact .nil
  · intro s _ p q _; rfl
  · intro s _ q _; rfl
  · intro s _ p q _; rfl
  · exact Nat.le_refl _
  · intro n m h1 h2 h3; have h3' : m < 1 := h3; omega
  · intro n h1 h2; have h2' : n < 1 := h2; omega
  · intro s _; show 0 < 1; omega
  · intro x hx; cases hx
  · intro s _; show 0 ≤ (0 : Int) ∧ (0 : Int) ≤ _; omega
  · intro s _ k n hk; simp at hk
  · intro s _ p n _ hn; cases hn
  · intro s _ _ n hn; cases hn
  · intro n h1 h2; have h2' : n < 1 := h2; omega
theorem loop6c {A : Arena} {x : Nat} (h : LnP A x X0 []) {v0 v2 : AV} {cs : List (Int × Int × Int)} (hv0 : SlA 3 (cs.map c3A) v0) (hin : ∀ c ∈ cs, inI c.1 ∧ inI c.2.1 ∧ inI c.2.2) :
    ∃ B X v4 v8 P, iter (evC (envOf GW fsO) 300 lp6x2) mask6x2 300 (st6x2 v0 v2 (.ptr x 0 0) (.int .i64 0)) A = some (.exit 0 ((st6x2 v0 v2 (.ptr x 0 0) v4).set 8 v8) B) ∧ LnP B x X P := by
  obtain ⟨N, hN⟩ : ∃ N, N = min cs.length 120 := ⟨_, rfl⟩
  obtain ⟨o, h1, B, X, v4, v8, P, rfl, hX⟩ := iter_inv (E := envOf GW fsO) (fuel := 300) (a := lp6x2) (mask := mask6x2)
    (fun κ σ A' => ∃ (i : Nat) (X : PS) (G : Logs), i + κ = N ∧ σ = st6x2 v0 v2 (.ptr x 0 0) (.int .i64 (i : Int)) ∧ LnP A' x X [] ∧ OkX i X G)
    (fun o => ∃ B X v4 v8 P, o = .exit 0 ((st6x2 v0 v2 (.ptr x 0 0) v4).set 8 v8) B ∧ LnP B x X P)
    (by
      rintro κ σ A' ⟨i, X, G, hik, rfl, g1, g2⟩
      rw [cl6x2]
      by_cases hi : i < N
      · obtain ⟨B, X', G', e, k1, k2⟩ := round6c g1 g2 (v2 := v2) hv0 (show i < cs.length by omega) (by omega) hin
        exact .inl ⟨_, B, e, κ - 1, by omega, i + 1, X', G', by omega, rfl, k1, k2⟩
      · obtain rfl : i = N := by omega
        have hn := hv0.len
        rw [List.length_map] at hn
        have b1 := evLss (i : Int) (cs.length : Int)
        have b2 := evLss (i : Int) 120
        refine .inr ⟨_, ?_, (fun _ _ h => by cases h), A', X, .int .i64 (i : Int), .bool false, [], rfl, g1⟩
        by_cases h1 : i < cs.length
        · rw [decide_eq_true (by omega)] at b1
          rw [decide_eq_false (by omega)] at b2
          simp [lp6x2, hn, b1, b2, -evBin, -evLenSl]
        · rw [decide_eq_false (by omega)] at b1
          simp [lp6x2, hn, b1, -evBin, -evLenSl])
    300 N (st6x2 v0 v2 (.ptr x 0 0) (.int .i64 0)) A (by omega) ⟨0, X0, _, by omega, rfl, h, ok0⟩
  exact ⟨B, X, v4, v8, P, h1, hX⟩
set_option maxRecDepth 100000 in
theorem ev6 {v0 : AV} {cs : List (Int × Int × Int)} (hv0 : SlA 3 (cs.map c3A) v0) (hin : ∀ c ∈ cs, inI c.1 ∧ inI c.2.1 ∧ inI c.2.2) : evP (envOf GW fsO) 300 mf6 1 [v0] = some (.bool true) := by
  obtain ⟨B, x, v36, hB⟩ := ev36 (fun _ _ _ => none) []
  obtain ⟨C, X, v4, v8, P, lp, hC⟩ := loop6c (v2 := .bool true) hB hv0 hin
  obtain ⟨i, q, l, w, hC⟩ := hC
  have hrow := hC.row
  have okC := hC.ldok
  rw [evP_run _ _ rfl]
  simp [mf6, v36, go6x2 lp, hrow, okC, -evLoad]
theorem ev6L (args : List AV) (h : LawArgs Try.prog 8 Try.f6.params.toList args) : ∃ fuel, evP (envOf GW fsO) fuel mf6 1 args = some (.bool true) := by
  rw [Try.params6] at h
  obtain ⟨a, r, rfl, h0, h⟩ := h.cons
  obtain rfl := h.nil
  obtain ⟨cs, hv0, hin⟩ := calls_arg (n := 5) h0
  exact ⟨300, ev6 hv0 hin⟩
end Go.Proofs.Ytfidjdlmmcaplaa
