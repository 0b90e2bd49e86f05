/-
  What the proof is built on (R0 to R7).
-/
import Derived.Test.YtfplfkcgjdkdaaaDoorA03
import Derived.Test.YtfplfkcgjdkdaaaDoorChecked
import Derived.KernelRfl
import Derived.Lib.ItoaNum
import Derived.WalkKit
import Derived.WalkLawsBesides
/-
  The functions, compiled; written by wip/gen.
-/
namespace Go.Proofs.YtfplfkcgjdkdaaaDoor
open Go
def mf3 : MFun := ⟨3, 13, .seq (.region [⟨some 3, .mv (.cst (.bool false)), none⟩]) (.seq (.region [⟨none, .call (.fn 12) [], none⟩, ⟨some 4, .mv (.tmp 0), none⟩]) (.seq (.region [⟨none, .mv (.var 2), none⟩, ⟨none, .mv (.var 2), none⟩, ⟨none, .lenStr (.tmp 1), none⟩, ⟨none, .minmax false (.tmp 2) [.cst (.int .i64 60)], none⟩, ⟨none, .sliceStr (.tmp 0) none (some (.tmp 3)), none⟩, ⟨some 2, .mv (.tmp 4), none⟩]) (.seq (.region [⟨none, .mv (.var 0), none⟩, ⟨none, .mv (.var 1), none⟩, ⟨none, .call (.fn 14) [.tmp 0, .tmp 1], none⟩, ⟨none, .call (.fn 13) [.tmp 2], none⟩, ⟨none, .mv (.tmp 3), none⟩, ⟨none, .extract (.tmp 4) 0, none⟩, ⟨none, .extract (.tmp 4) 1, none⟩, ⟨some 5, .mv (.tmp 5), none⟩, ⟨some 6, .mv (.tmp 6), none⟩]) (.seq (.region [⟨none, .mv (.var 0), none⟩, ⟨none, .mv (.var 1), none⟩, ⟨none, .call (.fn 14) [.tmp 0, .tmp 1], none⟩, ⟨none, .call (.fn 15) [.tmp 2], none⟩, ⟨none, .mv (.tmp 3), none⟩, ⟨none, .extract (.tmp 4) 0, none⟩, ⟨none, .extract (.tmp 4) 1, none⟩, ⟨some 7, .mv (.tmp 5), none⟩, ⟨some 8, .mv (.tmp 6), none⟩]) (.seq (.region [⟨none, .mv (.var 2), none⟩, ⟨none, .call (.fn 16) [.tmp 0], none⟩, ⟨none, .mv (.tmp 1), none⟩, ⟨none, .extract (.tmp 2) 0, none⟩, ⟨none, .extract (.tmp 2) 1, none⟩, ⟨some 9, .alloc 2 (.agg [.int .i64 0, .int .i64 0]), none⟩, ⟨none, .store 2 (.var 9) (.tmp 3), none⟩, ⟨some 10, .mv (.tmp 4), none⟩]) (.seq (.region [⟨none, .mv (.var 2), none⟩, ⟨none, .call (.fn 17) [.tmp 0], none⟩, ⟨none, .mv (.tmp 1), none⟩, ⟨none, .extract (.tmp 2) 0, none⟩, ⟨none, .extract (.tmp 2) 1, none⟩, ⟨some 11, .alloc 2 (.agg [.int .i64 0, .int .i64 0]), none⟩, ⟨none, .store 2 (.var 11) (.tmp 3), none⟩, ⟨some 12, .mv (.tmp 4), none⟩]) (.seq (.region [⟨none, .mv (.var 4), none⟩, ⟨none, .mv (.tmp 0), none⟩, ⟨none, .mv (.var 5), some (.tmp 1, true)⟩, ⟨none, .mv (.var 7), some (.tmp 1, true)⟩, ⟨none, .bin .eql (.tmp 2) (.tmp 3), some (.tmp 1, true)⟩, ⟨none, .pick (.tmp 1) (.tmp 4) (.cst (.bool false)), none⟩, ⟨none, .mv (.tmp 5), none⟩, ⟨none, .mv (.var 6), some (.tmp 6, true)⟩, ⟨none, .mv (.var 8), some (.tmp 6, true)⟩, ⟨none, .bin .eql (.tmp 7) (.tmp 8), some (.tmp 6, true)⟩, ⟨none, .pick (.tmp 6) (.tmp 9) (.cst (.bool false)), none⟩, ⟨none, .mv (.tmp 10), none⟩, ⟨none, .load true 2 (.var 9), some (.tmp 11, true)⟩, ⟨none, .load true 2 (.var 11), some (.tmp 11, true)⟩, ⟨none, .eqAgg false [(0, 1), (1, 1)] (.tmp 12) (.tmp 13), some (.tmp 11, true)⟩, ⟨none, .pick (.tmp 11) (.tmp 14) (.cst (.bool false)), none⟩, ⟨none, .mv (.tmp 15), none⟩, ⟨none, .mv (.var 10), some (.tmp 16, true)⟩, ⟨none, .mv (.var 12), some (.tmp 16, true)⟩, ⟨none, .bin .eql (.tmp 17) (.tmp 18), some (.tmp 16, true)⟩, ⟨none, .pick (.tmp 16) (.tmp 19) (.cst (.bool false)), none⟩, ⟨some 3, .mv (.tmp 20), none⟩]) .ret))))))), [.tmp 3]⟩
set_option maxHeartbeats 4000000 in
theorem comp3 : compFun Tryd.prog Tryd.f3 3 [0, 1, 2, 6, 7, 8, 9, 10, 11, 12, 13, 14, 15] [] true ([], []) = some mf3 := by kernel_rfl
theorem at3 : Tryd.prog.funcs[3]? = some Tryd.f3 := by kernel_rfl
def mf4 : MFun := ⟨2, 13, .seq (.region [⟨some 2, .mv (.cst (.bool false)), none⟩]) (.seq (.region [⟨none, .call (.fn 12) [], none⟩, ⟨some 3, .mv (.tmp 0), none⟩]) (.seq (.region [⟨none, .mv (.var 0), none⟩, ⟨none, .mv (.var 1), none⟩, ⟨none, .call (.fn 18) [.tmp 0, .tmp 1], none⟩, ⟨none, .mv (.tmp 2), none⟩, ⟨none, .extract (.tmp 3) 0, none⟩, ⟨none, .extract (.tmp 3) 1, none⟩, ⟨some 4, .alloc 2 (.agg [.int .i64 0, .int .i64 0]), none⟩, ⟨none, .store 2 (.var 4) (.tmp 4), none⟩, ⟨some 5, .mv (.tmp 5), none⟩]) (.seq (.seq (.region [⟨none, .mv (.var 5), none⟩, ⟨some 11, .bin .neq (.tmp 0) (.cst (.int .i64 0)), none⟩]) (.cond (.var 11) (.seq (.region [⟨none, .mv (.var 3), none⟩, ⟨none, .mv (.tmp 0), none⟩, ⟨none, .load true 2 (.var 4), some (.tmp 1, true)⟩, ⟨none, .call (.fn 19) [.tmp 2], some (.tmp 1, true)⟩, ⟨none, .un .not (.tmp 3), some (.tmp 1, true)⟩, ⟨none, .pick (.tmp 1) (.tmp 4) (.cst (.bool false)), none⟩, ⟨none, .mv (.tmp 5), none⟩, ⟨none, .load true 2 (.var 4), some (.tmp 6, true)⟩, ⟨none, .call (.fn 20) [.tmp 7], some (.tmp 6, true)⟩, ⟨none, .bin .eql (.tmp 8) (.cst (.int .i64 0)), some (.tmp 6, true)⟩, ⟨none, .pick (.tmp 6) (.tmp 9) (.cst (.bool false)), none⟩, ⟨some 2, .mv (.tmp 10), none⟩]) .ret) .skip)) (.seq (.region [⟨none, .load true 2 (.var 4), none⟩, ⟨none, .call (.fn 20) [.tmp 0], none⟩, ⟨some 6, .mv (.tmp 1), none⟩]) (.seq (.region [⟨none, .mv (.var 6), none⟩, ⟨none, .call (.fn 18) [.tmp 0, .cst (.int .i64 1)], none⟩, ⟨none, .mv (.tmp 1), none⟩, ⟨none, .extract (.tmp 2) 0, none⟩, ⟨none, .extract (.tmp 2) 1, none⟩, ⟨some 7, .alloc 2 (.agg [.int .i64 0, .int .i64 0]), none⟩, ⟨none, .store 2 (.var 7) (.tmp 3), none⟩, ⟨some 8, .mv (.tmp 4), none⟩]) (.seq (.seq (.region [⟨none, .mv (.var 6), none⟩, ⟨none, .bin .lss (.tmp 0) (.cst (.int .i64 (-1000000000))), none⟩, ⟨none, .mv (.tmp 1), none⟩, ⟨none, .mv (.var 6), some (.tmp 2, false)⟩, ⟨none, .bin .geq (.tmp 3) (.cst (.int .i64 1000000000)), some (.tmp 2, false)⟩, ⟨some 12, .pick (.tmp 2) (.cst (.bool true)) (.tmp 4), none⟩]) (.cond (.var 12) (.seq (.region [⟨none, .mv (.var 3), none⟩, ⟨none, .mv (.tmp 0), none⟩, ⟨none, .mv (.var 6), some (.tmp 1, true)⟩, ⟨none, .bin .eql (.tmp 2) (.cst (.int .i64 1000000000)), some (.tmp 1, true)⟩, ⟨none, .pick (.tmp 1) (.tmp 3) (.cst (.bool false)), none⟩, ⟨none, .mv (.tmp 4), none⟩, ⟨none, .load true 2 (.var 4), some (.tmp 5, true)⟩, ⟨none, .mv (.var 6), some (.tmp 5, true)⟩, ⟨none, .call (.fn 14) [.tmp 7, .cst (.int .i64 1)], some (.tmp 5, true)⟩, ⟨none, .eqAgg false [(0, 1), (1, 1)] (.tmp 6) (.tmp 8), some (.tmp 5, true)⟩, ⟨none, .pick (.tmp 5) (.tmp 9) (.cst (.bool false)), none⟩, ⟨some 2, .mv (.tmp 10), none⟩]) .ret) .skip)) (.seq (.region [⟨none, .mv (.var 6), none⟩, ⟨none, .bin .add (.tmp 0) (.cst (.int .i64 1)), none⟩, ⟨none, .call (.fn 18) [.tmp 1, .cst (.int .i64 1)], none⟩, ⟨none, .mv (.tmp 2), none⟩, ⟨none, .extract (.tmp 3) 0, none⟩, ⟨none, .extract (.tmp 3) 1, none⟩, ⟨some 9, .alloc 2 (.agg [.int .i64 0, .int .i64 0]), none⟩, ⟨none, .store 2 (.var 9) (.tmp 4), none⟩, ⟨some 10, .mv (.tmp 5), none⟩]) (.seq (.region [⟨none, .mv (.var 3), none⟩, ⟨none, .mv (.tmp 0), none⟩, ⟨none, .mv (.var 8), some (.tmp 1, true)⟩, ⟨none, .bin .eql (.tmp 2) (.cst (.int .i64 0)), some (.tmp 1, true)⟩, ⟨none, .pick (.tmp 1) (.tmp 3) (.cst (.bool false)), none⟩, ⟨none, .mv (.tmp 4), none⟩, ⟨none, .mv (.var 10), some (.tmp 5, true)⟩, ⟨none, .bin .eql (.tmp 6) (.cst (.int .i64 0)), some (.tmp 5, true)⟩, ⟨none, .pick (.tmp 5) (.tmp 7) (.cst (.bool false)), none⟩, ⟨none, .mv (.tmp 8), none⟩, ⟨none, .load true 2 (.var 7), some (.tmp 9, true)⟩, ⟨none, .load true 2 (.var 4), some (.tmp 9, true)⟩, ⟨none, .call (.fn 21) [.tmp 10, .tmp 11], some (.tmp 9, true)⟩, ⟨none, .bin .leq (.tmp 12) (.cst (.int .i64 0)), some (.tmp 9, true)⟩, ⟨none, .pick (.tmp 9) (.tmp 13) (.cst (.bool false)), none⟩, ⟨none, .mv (.tmp 14), none⟩, ⟨none, .load true 2 (.var 4), some (.tmp 15, true)⟩, ⟨none, .load true 2 (.var 9), some (.tmp 15, true)⟩, ⟨none, .call (.fn 21) [.tmp 16, .tmp 17], some (.tmp 15, true)⟩, ⟨none, .bin .lss (.tmp 18) (.cst (.int .i64 0)), some (.tmp 15, true)⟩, ⟨none, .pick (.tmp 15) (.tmp 19) (.cst (.bool false)), none⟩, ⟨some 2, .mv (.tmp 20), none⟩]) .ret)))))))), [.tmp 2]⟩
set_option maxHeartbeats 4000000 in
theorem comp4 : compFun Tryd.prog Tryd.f4 2 [0, 1, 4, 5, 6, 7, 8, 9, 10, 11, 12, 21, 45] [14] true ([], []) = some mf4 := by kernel_rfl
theorem at4 : Tryd.prog.funcs[4]? = some Tryd.f4 := by kernel_rfl
def mf5 : MFun := ⟨4, 20, .seq (.region [⟨some 4, .mv (.cst (.bool false)), none⟩]) (.seq (.region [⟨none, .call (.fn 12) [], none⟩, ⟨some 5, .mv (.tmp 0), none⟩]) (.seq (.region [⟨none, .mv (.var 2), none⟩, ⟨none, .bin .and (.tmp 0) (.cst (.int .i64 1023)), none⟩, ⟨none, .bin .rem (.tmp 1) (.cst (.int .i64 1000)), none⟩, ⟨none, .bin .add (.cst (.int .i64 1)) (.tmp 2), none⟩, ⟨some 2, .mv (.tmp 3), none⟩]) (.seq (.region [⟨none, .mv (.var 3), none⟩, ⟨none, .bin .and (.tmp 0) (.cst (.int .i64 1023)), none⟩, ⟨none, .bin .rem (.tmp 1) (.cst (.int .i64 1000)), none⟩, ⟨none, .bin .add (.cst (.int .i64 1)) (.tmp 2), none⟩, ⟨some 3, .mv (.tmp 3), none⟩]) (.seq (.region [⟨none, .mv (.var 0), none⟩, ⟨none, .bin .rem (.tmp 0) (.cst (.int .i64 1000000)), none⟩, ⟨none, .mv (.var 2), none⟩, ⟨none, .call (.fn 18) [.tmp 1, .tmp 2], none⟩, ⟨none, .mv (.tmp 3), none⟩, ⟨none, .extract (.tmp 4) 0, none⟩, ⟨none, .extract (.tmp 4) 1, none⟩, ⟨some 6, .alloc 2 (.agg [.int .i64 0, .int .i64 0]), none⟩, ⟨none, .store 2 (.var 6) (.tmp 5), none⟩, ⟨some 7, .mv (.tmp 6), none⟩]) (.seq (.region [⟨none, .mv (.var 1), none⟩, ⟨none, .bin .rem (.tmp 0) (.cst (.int .i64 1000000)), none⟩, ⟨none, .mv (.var 2), none⟩, ⟨none, .call (.fn 18) [.tmp 1, .tmp 2], none⟩, ⟨none, .mv (.tmp 3), none⟩, ⟨none, .extract (.tmp 4) 0, none⟩, ⟨none, .extract (.tmp 4) 1, none⟩, ⟨some 8, .alloc 2 (.agg [.int .i64 0, .int .i64 0]), none⟩, ⟨none, .store 2 (.var 8) (.tmp 5), none⟩, ⟨some 9, .mv (.tmp 6), none⟩]) (.seq (.seq (.region [⟨none, .mv (.var 7), none⟩, ⟨none, .bin .neq (.tmp 0) (.cst (.int .i64 0)), none⟩, ⟨none, .mv (.tmp 1), none⟩, ⟨none, .mv (.var 9), some (.tmp 2, false)⟩, ⟨none, .bin .neq (.tmp 3) (.cst (.int .i64 0)), some (.tmp 2, false)⟩, ⟨some 18, .pick (.tmp 2) (.cst (.bool true)) (.tmp 4), none⟩]) (.cond (.var 18) (.seq (.region [⟨some 4, .mv (.cst (.bool false)), none⟩]) .ret) .skip)) (.seq (.region [⟨none, .load true 2 (.var 6), none⟩, ⟨none, .mv (.var 3), none⟩, ⟨none, .call (.fn 22) [.tmp 0, .tmp 1], none⟩, ⟨none, .mv (.tmp 2), none⟩, ⟨none, .extract (.tmp 3) 0, none⟩, ⟨none, .extract (.tmp 3) 1, none⟩, ⟨some 10, .alloc 2 (.agg [.int .i64 0, .int .i64 0]), none⟩, ⟨none, .store 2 (.var 10) (.tmp 4), none⟩, ⟨some 11, .mv (.tmp 5), none⟩]) (.seq (.region [⟨none, .load true 2 (.var 8), none⟩, ⟨none, .mv (.var 3), none⟩, ⟨none, .call (.fn 22) [.tmp 0, .tmp 1], none⟩, ⟨none, .mv (.tmp 2), none⟩, ⟨none, .extract (.tmp 3) 0, none⟩, ⟨none, .extract (.tmp 3) 1, none⟩, ⟨some 12, .alloc 2 (.agg [.int .i64 0, .int .i64 0]), none⟩, ⟨none, .store 2 (.var 12) (.tmp 4), none⟩, ⟨some 13, .mv (.tmp 5), none⟩]) (.seq (.region [⟨none, .load true 2 (.var 10), none⟩, ⟨none, .mv (.var 3), none⟩, ⟨none, .call (.fn 22) [.tmp 0, .tmp 1], none⟩, ⟨none, .mv (.tmp 2), none⟩, ⟨none, .extract (.tmp 3) 0, none⟩, ⟨none, .extract (.tmp 3) 1, none⟩, ⟨some 14, .alloc 2 (.agg [.int .i64 0, .int .i64 0]), none⟩, ⟨none, .store 2 (.var 14) (.tmp 4), none⟩, ⟨some 15, .mv (.tmp 5), none⟩]) (.seq (.seq (.region [⟨none, .mv (.var 11), none⟩, ⟨none, .bin .neq (.tmp 0) (.cst (.int .i64 0)), none⟩, ⟨none, .mv (.tmp 1), none⟩, ⟨none, .mv (.var 13), some (.tmp 2, false)⟩, ⟨none, .bin .neq (.tmp 3) (.cst (.int .i64 0)), some (.tmp 2, false)⟩, ⟨none, .pick (.tmp 2) (.cst (.bool true)) (.tmp 4), none⟩, ⟨none, .mv (.tmp 5), none⟩, ⟨none, .mv (.var 15), some (.tmp 6, false)⟩, ⟨none, .bin .neq (.tmp 7) (.cst (.int .i64 0)), some (.tmp 6, false)⟩, ⟨none, .pick (.tmp 6) (.cst (.bool true)) (.tmp 8), none⟩, ⟨none, .mv (.tmp 9), none⟩, ⟨none, .load true 2 (.var 14), some (.tmp 10, false)⟩, ⟨none, .load true 2 (.var 10), some (.tmp 10, false)⟩, ⟨none, .eqAgg true [(0, 1), (1, 1)] (.tmp 11) (.tmp 12), some (.tmp 10, false)⟩, ⟨none, .pick (.tmp 10) (.cst (.bool true)) (.tmp 13), none⟩, ⟨none, .mv (.tmp 14), none⟩, ⟨none, .fieldAddr 1 (.var 10), some (.tmp 15, false)⟩, ⟨none, .load false 1 (.tmp 16), some (.tmp 15, false)⟩, ⟨none, .bin .lss (.tmp 17) (.cst (.int .i64 1)), some (.tmp 15, false)⟩, ⟨none, .pick (.tmp 15) (.cst (.bool true)) (.tmp 18), none⟩, ⟨none, .mv (.tmp 19), none⟩, ⟨none, .mv (.var 3), some (.tmp 20, false)⟩, ⟨none, .fieldAddr 1 (.var 10), some (.tmp 20, false)⟩, ⟨none, .load false 1 (.tmp 22), some (.tmp 20, false)⟩, ⟨none, .bin .rem (.tmp 21) (.tmp 23), some (.tmp 20, false)⟩, ⟨none, .bin .neq (.tmp 24) (.cst (.int .i64 0)), some (.tmp 20, false)⟩, ⟨some 19, .pick (.tmp 20) (.cst (.bool true)) (.tmp 25), none⟩]) (.cond (.var 19) (.seq (.region [⟨some 4, .mv (.cst (.bool false)), none⟩]) .ret) .skip)) (.seq (.region [⟨none, .fieldAddr 0 (.var 10), none⟩, ⟨none, .load false 1 (.tmp 0), none⟩, ⟨none, .mv (.var 3), none⟩, ⟨none, .fieldAddr 1 (.var 10), none⟩, ⟨none, .load false 1 (.tmp 3), none⟩, ⟨none, .bin .quo (.tmp 2) (.tmp 4), none⟩, ⟨none, .bin .mul (.tmp 1) (.tmp 5), none⟩, ⟨some 16, .mv (.tmp 6), none⟩]) (.seq (.region [⟨none, .mv (.var 16), none⟩, ⟨none, .fieldAddr 1 (.var 6), none⟩, ⟨none, .load false 1 (.tmp 1), none⟩, ⟨none, .bin .mul (.tmp 0) (.tmp 2), none⟩, ⟨none, .fieldAddr 0 (.var 6), none⟩, ⟨none, .load false 1 (.tmp 4), none⟩, ⟨none, .mv (.var 3), none⟩, ⟨none, .bin .mul (.tmp 5) (.tmp 6), none⟩, ⟨none, .bin .sub (.tmp 3) (.tmp 7), none⟩, ⟨none, .bin .mul (.cst (.int .i64 2)) (.tmp 8), none⟩, ⟨some 17, .mv (.tmp 9), none⟩]) (.seq (.region [⟨none, .mv (.var 5), none⟩, ⟨none, .mv (.tmp 0), none⟩, ⟨none, .mv (.var 17), some (.tmp 1, true)⟩, ⟨none, .fieldAddr 1 (.var 6), some (.tmp 1, true)⟩, ⟨none, .load false 1 (.tmp 3), some (.tmp 1, true)⟩, ⟨none, .un .neg (.tmp 4), some (.tmp 1, true)⟩, ⟨none, .bin .gtr (.tmp 2) (.tmp 5), some (.tmp 1, true)⟩, ⟨none, .pick (.tmp 1) (.tmp 6) (.cst (.bool false)), none⟩, ⟨none, .mv (.tmp 7), none⟩, ⟨none, .mv (.var 17), some (.tmp 8, true)⟩, ⟨none, .fieldAddr 1 (.var 6), some (.tmp 8, true)⟩, ⟨none, .load false 1 (.tmp 10), some (.tmp 8, true)⟩, ⟨none, .bin .leq (.tmp 9) (.tmp 11), some (.tmp 8, true)⟩, ⟨none, .pick (.tmp 8) (.tmp 12) (.cst (.bool false)), none⟩, ⟨none, .mv (.tmp 13), none⟩, ⟨none, .load true 2 (.var 6), some (.tmp 14, true)⟩, ⟨none, .load true 2 (.var 8), some (.tmp 14, true)⟩, ⟨none, .call (.fn 21) [.tmp 15, .tmp 16], some (.tmp 14, true)⟩, ⟨none, .bin .gtr (.tmp 17) (.cst (.int .i64 0)), some (.tmp 14, true)⟩, ⟨none, .mv (.tmp 18), some (.tmp 14, true)⟩, ⟨none, .load true 2 (.var 10), some (.tmp 19, false)⟩, ⟨none, .load true 2 (.var 12), some (.tmp 19, false)⟩, ⟨none, .call (.fn 21) [.tmp 20, .tmp 21], some (.tmp 19, false)⟩, ⟨none, .bin .leq (.tmp 22) (.cst (.int .i64 0)), some (.tmp 19, false)⟩, ⟨none, .pick (.tmp 19) (.cst (.bool true)) (.tmp 23), some (.tmp 14, true)⟩, ⟨none, .pick (.tmp 14) (.tmp 24) (.cst (.bool false)), none⟩, ⟨some 4, .mv (.tmp 25), none⟩]) .ret))))))))))))), [.tmp 4]⟩
set_option maxHeartbeats 4000000 in
theorem comp5 : compFun Tryd.prog Tryd.f5 4 [0, 1, 2, 3, 8, 9, 10, 11, 12, 13, 14, 15, 16, 17, 18, 19, 20, 21, 50, 95] [] true ([], []) = some mf5 := by kernel_rfl
theorem at5 : Tryd.prog.funcs[5]? = some Tryd.f5 := by kernel_rfl
def mf6 : MFun := ⟨2, 19, .seq (.region [⟨some 2, .box (.var 0), none⟩, ⟨some 3, .mv (.cst (.bool false)), none⟩]) (.seq (.region [⟨none, .call (.fn 12) [], none⟩, ⟨some 4, .mv (.tmp 0), none⟩]) (.seq (.region [⟨none, .mv (.var 1), none⟩, ⟨none, .mv (.var 1), none⟩, ⟨none, .lenStr (.tmp 1), none⟩, ⟨none, .minmax false (.tmp 2) [.cst (.int .i64 60)], none⟩, ⟨none, .sliceStr (.tmp 0) none (some (.tmp 3)), none⟩, ⟨some 1, .mv (.tmp 4), none⟩]) (.seq (.region [⟨none, .mv (.var 1), none⟩, ⟨none, .call (.fn 16) [.tmp 0], none⟩, ⟨none, .mv (.tmp 1), none⟩, ⟨none, .extract (.tmp 2) 0, none⟩, ⟨none, .extract (.tmp 2) 1, none⟩, ⟨some 5, .alloc 2 (.agg [.int .i64 0, .int .i64 0]), none⟩, ⟨none, .store 2 (.var 5) (.tmp 3), none⟩, ⟨some 6, .mv (.tmp 4), none⟩]) (.seq (.region [⟨none, .load true 2 (.var 5), none⟩, ⟨none, .call (.fn 13) [.tmp 0], none⟩, ⟨none, .mv (.tmp 1), none⟩, ⟨none, .extract (.tmp 2) 0, none⟩, ⟨none, .extract (.tmp 2) 1, none⟩, ⟨some 7, .mv (.tmp 3), none⟩, ⟨some 8, .mv (.tmp 4), none⟩]) (.seq (.seq (.region [⟨none, .mv (.var 6), none⟩, ⟨none, .bin .eql (.tmp 0) (.cst (.int .i64 0)), none⟩, ⟨none, .mv (.var 8), none⟩, ⟨none, .bin .eql (.tmp 2) (.cst (.int .i64 0)), none⟩, ⟨none, .eqBool true (.tmp 1) (.tmp 3), none⟩, ⟨none, .mv (.tmp 4), none⟩, ⟨none, .mv (.var 6), some (.tmp 5, false)⟩, ⟨none, .bin .eql (.tmp 6) (.cst (.int .i64 0)), some (.tmp 5, false)⟩, ⟨none, .mv (.tmp 7), some (.tmp 5, false)⟩, ⟨none, .mv (.var 7), some (.tmp 8, true)⟩, ⟨none, .mv (.var 1), some (.tmp 8, true)⟩, ⟨none, .bin .neq (.tmp 9) (.tmp 10), some (.tmp 8, true)⟩, ⟨none, .pick (.tmp 8) (.tmp 11) (.cst (.bool false)), some (.tmp 5, false)⟩, ⟨none, .pick (.tmp 5) (.cst (.bool true)) (.tmp 12), none⟩, ⟨none, .mv (.tmp 13), none⟩, ⟨none, .mv (.var 6), some (.tmp 14, false)⟩, ⟨none, .bin .neq (.tmp 15) (.cst (.int .i64 0)), some (.tmp 14, false)⟩, ⟨none, .mv (.tmp 16), some (.tmp 14, false)⟩, ⟨none, .load true 2 (.var 5), some (.tmp 17, true)⟩, ⟨none, .call (.fn 14) [.cst (.int .i64 0), .cst (.int .i64 0)], some (.tmp 17, true)⟩, ⟨none, .eqAgg true [(0, 1), (1, 1)] (.tmp 18) (.tmp 19), some (.tmp 17, true)⟩, ⟨none, .pick (.tmp 17) (.tmp 20) (.cst (.bool false)), some (.tmp 14, false)⟩, ⟨some 17, .pick (.tmp 14) (.cst (.bool true)) (.tmp 21), none⟩]) (.cond (.var 17) (.seq (.region [⟨some 3, .mv (.cst (.bool false)), none⟩]) .ret) .skip)) (.seq (.region [⟨none, .load true 6 (.var 2), none⟩, ⟨none, .call (.fn 23) [.tmp 0], none⟩, ⟨none, .mv (.tmp 1), none⟩, ⟨none, .extract (.tmp 2) 0, none⟩, ⟨none, .extract (.tmp 2) 1, none⟩, ⟨some 9, .alloc 6 (.agg [.int .i64 0, .int .i64 0, .int .i64 0, .int .i64 0, .int .i64 0, .int .i64 0]), none⟩, ⟨none, .store 6 (.var 9) (.tmp 3), none⟩, ⟨some 10, .mv (.tmp 4), none⟩]) (.seq (.seq (.region [⟨none, .mv (.var 10), none⟩, ⟨some 18, .un .not (.tmp 0), none⟩]) (.cond (.var 18) (.seq (.region [⟨none, .mv (.var 4), none⟩, ⟨some 3, .mv (.tmp 0), none⟩]) .ret) .skip)) (.seq (.region [⟨none, .indexArr 3 2 (.var 9) (.cst (.int .i64 0)), none⟩, ⟨none, .load true 2 (.tmp 0), none⟩, ⟨none, .call (.fn 13) [.tmp 1], none⟩, ⟨none, .mv (.tmp 2), none⟩, ⟨none, .extract (.tmp 3) 0, none⟩, ⟨none, .extract (.tmp 3) 1, none⟩, ⟨some 11, .mv (.tmp 4), none⟩, ⟨some 12, .mv (.tmp 5), none⟩]) (.seq (.region [⟨none, .mv (.var 11), none⟩, ⟨none, .call (.fn 16) [.tmp 0], none⟩, ⟨none, .mv (.tmp 1), none⟩, ⟨none, .extract (.tmp 2) 0, none⟩, ⟨none, .extract (.tmp 2) 1, none⟩, ⟨some 13, .alloc 2 (.agg [.int .i64 0, .int .i64 0]), none⟩, ⟨none, .store 2 (.var 13) (.tmp 3), none⟩, ⟨some 14, .mv (.tmp 4), none⟩]) (.seq (.region [⟨none, .indexArr 3 2 (.var 9) (.cst (.int .i64 0)), none⟩, ⟨none, .load true 2 (.tmp 0), none⟩, ⟨none, .indexArr 3 2 (.var 9) (.cst (.int .i64 1)), none⟩, ⟨none, .load true 2 (.tmp 2), none⟩, ⟨none, .indexArr 3 2 (.var 9) (.cst (.int .i64 2)), none⟩, ⟨none, .load true 2 (.tmp 4), none⟩, ⟨none, .call (.fn 24) [.tmp 1, .tmp 3, .tmp 5], none⟩, ⟨some 15, .alloc 2 (.agg [.int .i64 0, .int .i64 0]), none⟩, ⟨none, .store 2 (.var 15) (.tmp 6), none⟩]) (.seq (.region [⟨none, .indexArr 3 2 (.var 9) (.cst (.int .i64 1)), none⟩, ⟨none, .load true 2 (.tmp 0), none⟩, ⟨none, .indexArr 3 2 (.var 9) (.cst (.int .i64 2)), none⟩, ⟨none, .load true 2 (.tmp 2), none⟩, ⟨none, .call (.fn 21) [.tmp 1, .tmp 3], none⟩, ⟨none, .bin .gtr (.tmp 4) (.cst (.int .i64 0)), none⟩, ⟨none, .mv (.tmp 5), none⟩, ⟨none, .indexArr 3 2 (.var 9) (.cst (.int .i64 1)), some (.tmp 6, false)⟩, ⟨none, .load true 2 (.tmp 7), some (.tmp 6, false)⟩, ⟨none, .load true 2 (.var 15), some (.tmp 6, false)⟩, ⟨none, .call (.fn 21) [.tmp 8, .tmp 9], some (.tmp 6, false)⟩, ⟨none, .bin .leq (.tmp 10) (.cst (.int .i64 0)), some (.tmp 6, false)⟩, ⟨none, .mv (.tmp 11), some (.tmp 6, false)⟩, ⟨none, .load true 2 (.var 15), some (.tmp 12, true)⟩, ⟨none, .indexArr 3 2 (.var 9) (.cst (.int .i64 2)), some (.tmp 12, true)⟩, ⟨none, .load true 2 (.tmp 14), some (.tmp 12, true)⟩, ⟨none, .call (.fn 21) [.tmp 13, .tmp 15], some (.tmp 12, true)⟩, ⟨none, .bin .leq (.tmp 16) (.cst (.int .i64 0)), some (.tmp 12, true)⟩, ⟨none, .pick (.tmp 12) (.tmp 17) (.cst (.bool false)), some (.tmp 6, false)⟩, ⟨none, .pick (.tmp 6) (.cst (.bool true)) (.tmp 18), none⟩, ⟨some 16, .mv (.tmp 19), none⟩]) (.seq (.region [⟨none, .mv (.var 4), none⟩, ⟨none, .mv (.tmp 0), none⟩, ⟨none, .mv (.var 12), some (.tmp 1, true)⟩, ⟨none, .bin .eql (.tmp 2) (.cst (.int .i64 0)), some (.tmp 1, true)⟩, ⟨none, .pick (.tmp 1) (.tmp 3) (.cst (.bool false)), none⟩, ⟨none, .mv (.tmp 4), none⟩, ⟨none, .mv (.var 14), some (.tmp 5, true)⟩, ⟨none, .bin .eql (.tmp 6) (.cst (.int .i64 0)), some (.tmp 5, true)⟩, ⟨none, .pick (.tmp 5) (.tmp 7) (.cst (.bool false)), none⟩, ⟨none, .mv (.tmp 8), none⟩, ⟨none, .load true 2 (.var 13), some (.tmp 9, true)⟩, ⟨none, .indexArr 3 2 (.var 9) (.cst (.int .i64 0)), some (.tmp 9, true)⟩, ⟨none, .load true 2 (.tmp 11), some (.tmp 9, true)⟩, ⟨none, .eqAgg false [(0, 1), (1, 1)] (.tmp 10) (.tmp 12), some (.tmp 9, true)⟩, ⟨none, .pick (.tmp 9) (.tmp 13) (.cst (.bool false)), none⟩, ⟨none, .mv (.tmp 14), none⟩, ⟨none, .mv (.var 16), some (.tmp 15, true)⟩, ⟨none, .pick (.tmp 15) (.tmp 16) (.cst (.bool false)), none⟩, ⟨none, .mv (.tmp 17), none⟩, ⟨none, .load true 2 (.var 15), some (.tmp 18, true)⟩, ⟨none, .indexArr 3 2 (.var 9) (.cst (.int .i64 0)), some (.tmp 18, true)⟩, ⟨none, .load true 2 (.tmp 20), some (.tmp 18, true)⟩, ⟨none, .eqAgg false [(0, 1), (1, 1)] (.tmp 19) (.tmp 21), some (.tmp 18, true)⟩, ⟨none, .mv (.tmp 22), some (.tmp 18, true)⟩, ⟨none, .load true 2 (.var 15), some (.tmp 23, false)⟩, ⟨none, .indexArr 3 2 (.var 9) (.cst (.int .i64 1)), some (.tmp 23, false)⟩, ⟨none, .load true 2 (.tmp 25), some (.tmp 23, false)⟩, ⟨none, .eqAgg false [(0, 1), (1, 1)] (.tmp 24) (.tmp 26), some (.tmp 23, false)⟩, ⟨none, .pick (.tmp 23) (.cst (.bool true)) (.tmp 27), some (.tmp 18, true)⟩, ⟨none, .mv (.tmp 28), some (.tmp 18, true)⟩, ⟨none, .load true 2 (.var 15), some (.tmp 29, false)⟩, ⟨none, .indexArr 3 2 (.var 9) (.cst (.int .i64 2)), some (.tmp 29, false)⟩, ⟨none, .load true 2 (.tmp 31), some (.tmp 29, false)⟩, ⟨none, .eqAgg false [(0, 1), (1, 1)] (.tmp 30) (.tmp 32), some (.tmp 29, false)⟩, ⟨none, .pick (.tmp 29) (.cst (.bool true)) (.tmp 33), some (.tmp 18, true)⟩, ⟨none, .pick (.tmp 18) (.tmp 34) (.cst (.bool false)), none⟩, ⟨some 3, .mv (.tmp 35), none⟩]) .ret)))))))))))), [.tmp 3]⟩
set_option maxHeartbeats 4000000 in
theorem comp6 : compFun Tryd.prog Tryd.f6 2 [0, 1, 2, 4, 5, 6, 7, 8, 9, 10, 11, 12, 13, 14, 15, 16, 17, 56, 63] [14] true ([], []) = some mf6 := by kernel_rfl
theorem at6 : Tryd.prog.funcs[6]? = some Tryd.f6 := by kernel_rfl
def mf7 : MFun := ⟨1, 13, .seq (.region [⟨some 1, .box (.var 0), none⟩, ⟨some 2, .mv (.cst (.bool false)), none⟩]) (.seq (.region [⟨none, .call (.fn 12) [], none⟩, ⟨some 3, .mv (.tmp 0), none⟩]) (.seq (.region [⟨none, .load true 6 (.var 1), none⟩, ⟨none, .call (.fn 23) [.tmp 0], none⟩, ⟨none, .mv (.tmp 1), none⟩, ⟨none, .extract (.tmp 2) 0, none⟩, ⟨none, .extract (.tmp 2) 1, none⟩, ⟨some 4, .alloc 6 (.agg [.int .i64 0, .int .i64 0, .int .i64 0, .int .i64 0, .int .i64 0, .int .i64 0]), none⟩, ⟨none, .store 6 (.var 4) (.tmp 3), none⟩, ⟨some 5, .mv (.tmp 4), none⟩]) (.seq (.seq (.region [⟨none, .mv (.var 5), none⟩, ⟨some 11, .un .not (.tmp 0), none⟩]) (.cond (.var 11) (.seq (.region [⟨none, .mv (.var 3), none⟩, ⟨some 2, .mv (.tmp 0), none⟩]) .ret) .skip)) (.seq (.region [⟨none, .indexArr 3 2 (.var 4) (.cst (.int .i64 0)), none⟩, ⟨none, .load true 2 (.tmp 0), none⟩, ⟨none, .indexArr 3 2 (.var 4) (.cst (.int .i64 1)), none⟩, ⟨none, .load true 2 (.tmp 2), none⟩, ⟨none, .call (.fn 21) [.tmp 1, .tmp 3], none⟩, ⟨some 6, .mv (.tmp 4), none⟩]) (.seq (.region [⟨none, .indexArr 3 2 (.var 4) (.cst (.int .i64 1)), none⟩, ⟨none, .load true 2 (.tmp 0), none⟩, ⟨none, .indexArr 3 2 (.var 4) (.cst (.int .i64 2)), none⟩, ⟨none, .load true 2 (.tmp 2), none⟩, ⟨none, .call (.fn 21) [.tmp 1, .tmp 3], none⟩, ⟨some 7, .mv (.tmp 4), none⟩]) (.seq (.region [⟨none, .indexArr 3 2 (.var 4) (.cst (.int .i64 0)), none⟩, ⟨none, .load true 2 (.tmp 0), none⟩, ⟨none, .indexArr 3 2 (.var 4) (.cst (.int .i64 2)), none⟩, ⟨none, .load true 2 (.tmp 2), none⟩, ⟨none, .call (.fn 21) [.tmp 1, .tmp 3], none⟩, ⟨some 8, .mv (.tmp 4), none⟩]) (.seq (.seq (.region [⟨none, .mv (.var 6), none⟩, ⟨none, .indexArr 3 2 (.var 4) (.cst (.int .i64 1)), none⟩, ⟨none, .load true 2 (.tmp 1), none⟩, ⟨none, .indexArr 3 2 (.var 4) (.cst (.int .i64 0)), none⟩, ⟨none, .load true 2 (.tmp 3), none⟩, ⟨none, .call (.fn 21) [.tmp 2, .tmp 4], none⟩, ⟨none, .un .neg (.tmp 5), none⟩, ⟨none, .bin .neq (.tmp 0) (.tmp 6), none⟩, ⟨none, .mv (.tmp 7), none⟩, ⟨none, .mv (.var 6), some (.tmp 8, false)⟩, ⟨none, .bin .eql (.tmp 9) (.cst (.int .i64 0)), some (.tmp 8, false)⟩, ⟨none, .indexArr 3 2 (.var 4) (.cst (.int .i64 0)), some (.tmp 8, false)⟩, ⟨none, .load true 2 (.tmp 11), some (.tmp 8, false)⟩, ⟨none, .indexArr 3 2 (.var 4) (.cst (.int .i64 1)), some (.tmp 8, false)⟩, ⟨none, .load true 2 (.tmp 13), some (.tmp 8, false)⟩, ⟨none, .eqAgg false [(0, 1), (1, 1)] (.tmp 12) (.tmp 14), some (.tmp 8, false)⟩, ⟨none, .eqBool true (.tmp 10) (.tmp 15), some (.tmp 8, false)⟩, ⟨none, .pick (.tmp 8) (.cst (.bool true)) (.tmp 16), none⟩, ⟨none, .mv (.tmp 17), none⟩, ⟨none, .mv (.var 6), some (.tmp 18, false)⟩, ⟨none, .bin .leq (.tmp 19) (.cst (.int .i64 0)), some (.tmp 18, false)⟩, ⟨none, .mv (.tmp 20), some (.tmp 18, false)⟩, ⟨none, .mv (.var 7), some (.tmp 21, true)⟩, ⟨none, .bin .leq (.tmp 22) (.cst (.int .i64 0)), some (.tmp 21, true)⟩, ⟨none, .pick (.tmp 21) (.tmp 23) (.cst (.bool false)), some (.tmp 18, false)⟩, ⟨none, .mv (.tmp 24), some (.tmp 18, false)⟩, ⟨none, .mv (.var 8), some (.tmp 25, true)⟩, ⟨none, .bin .gtr (.tmp 26) (.cst (.int .i64 0)), some (.tmp 25, true)⟩, ⟨none, .pick (.tmp 25) (.tmp 27) (.cst (.bool false)), some (.tmp 18, false)⟩, ⟨none, .pick (.tmp 18) (.cst (.bool true)) (.tmp 28), none⟩, ⟨none, .mv (.tmp 29), none⟩, ⟨none, .mv (.var 6), some (.tmp 30, false)⟩, ⟨none, .bin .lss (.tmp 31) (.cst (.int .i64 0)), some (.tmp 30, false)⟩, ⟨none, .mv (.tmp 32), some (.tmp 30, false)⟩, ⟨none, .mv (.var 7), some (.tmp 33, true)⟩, ⟨none, .bin .leq (.tmp 34) (.cst (.int .i64 0)), some (.tmp 33, true)⟩, ⟨none, .pick (.tmp 33) (.tmp 35) (.cst (.bool false)), some (.tmp 30, false)⟩, ⟨none, .mv (.tmp 36), some (.tmp 30, false)⟩, ⟨none, .mv (.var 8), some (.tmp 37, true)⟩, ⟨none, .bin .geq (.tmp 38) (.cst (.int .i64 0)), some (.tmp 37, true)⟩, ⟨none, .pick (.tmp 37) (.tmp 39) (.cst (.bool false)), some (.tmp 30, false)⟩, ⟨some 12, .pick (.tmp 30) (.cst (.bool true)) (.tmp 40), none⟩]) (.cond (.var 12) (.seq (.region [⟨some 2, .mv (.cst (.bool false)), none⟩]) .ret) .skip)) (.seq (.region [⟨none, .indexArr 3 2 (.var 4) (.cst (.int .i64 1)), none⟩, ⟨none, .load true 2 (.tmp 0), none⟩, ⟨none, .indexArr 3 2 (.var 4) (.cst (.int .i64 0)), none⟩, ⟨none, .load true 2 (.tmp 2), none⟩, ⟨none, .call (.fn 25) [.tmp 1, .tmp 3], none⟩, ⟨none, .mv (.tmp 4), none⟩, ⟨none, .extract (.tmp 5) 0, none⟩, ⟨none, .extract (.tmp 5) 1, none⟩, ⟨some 9, .alloc 2 (.agg [.int .i64 0, .int .i64 0]), none⟩, ⟨none, .store 2 (.var 9) (.tmp 6), none⟩, ⟨some 10, .mv (.tmp 7), none⟩]) (.seq (.region [⟨none, .mv (.var 3), none⟩, ⟨none, .mv (.tmp 0), none⟩, ⟨none, .mv (.var 10), some (.tmp 1, true)⟩, ⟨none, .bin .neq (.tmp 2) (.cst (.int .i64 0)), some (.tmp 1, true)⟩, ⟨none, .mv (.tmp 3), some (.tmp 1, true)⟩, ⟨none, .mv (.var 6), some (.tmp 4, false)⟩, ⟨none, .bin .lss (.tmp 5) (.cst (.int .i64 0)), some (.tmp 4, false)⟩, ⟨none, .fieldAddr 0 (.var 9), some (.tmp 4, false)⟩, ⟨none, .load false 1 (.tmp 7), some (.tmp 4, false)⟩, ⟨none, .bin .gtr (.tmp 8) (.cst (.int .i64 0)), some (.tmp 4, false)⟩, ⟨none, .eqBool false (.tmp 6) (.tmp 9), some (.tmp 4, false)⟩, ⟨none, .mv (.tmp 10), some (.tmp 4, false)⟩, ⟨none, .mv (.var 6), some (.tmp 11, true)⟩, ⟨none, .bin .eql (.tmp 12) (.cst (.int .i64 0)), some (.tmp 11, true)⟩, ⟨none, .fieldAddr 0 (.var 9), some (.tmp 11, true)⟩, ⟨none, .load false 1 (.tmp 14), some (.tmp 11, true)⟩, ⟨none, .bin .eql (.tmp 15) (.cst (.int .i64 0)), some (.tmp 11, true)⟩, ⟨none, .eqBool false (.tmp 13) (.tmp 16), some (.tmp 11, true)⟩, ⟨none, .pick (.tmp 11) (.tmp 17) (.cst (.bool false)), some (.tmp 4, false)⟩, ⟨none, .pick (.tmp 4) (.cst (.bool true)) (.tmp 18), some (.tmp 1, true)⟩, ⟨none, .pick (.tmp 1) (.tmp 19) (.cst (.bool false)), none⟩, ⟨some 2, .mv (.tmp 20), none⟩]) .ret))))))))), [.tmp 2]⟩
set_option maxHeartbeats 4000000 in
theorem comp7 : compFun Tryd.prog Tryd.f7 1 [0, 1, 2, 3, 4, 5, 6, 7, 8, 9, 10, 18, 76] [] true ([], []) = some mf7 := by kernel_rfl
theorem at7 : Tryd.prog.funcs[7]? = some Tryd.f7 := by kernel_rfl
def mf8 : MFun := ⟨1, 32, .seq (.region [⟨some 1, .box (.var 0), none⟩, ⟨some 2, .mv (.cst (.bool false)), none⟩]) (.seq (.region [⟨none, .call (.fn 12) [], none⟩, ⟨some 3, .mv (.tmp 0), none⟩]) (.seq (.region [⟨none, .load true 6 (.var 1), none⟩, ⟨none, .call (.fn 23) [.tmp 0], none⟩, ⟨none, .mv (.tmp 1), none⟩, ⟨none, .extract (.tmp 2) 0, none⟩, ⟨none, .extract (.tmp 2) 1, none⟩, ⟨some 4, .alloc 6 (.agg [.int .i64 0, .int .i64 0, .int .i64 0, .int .i64 0, .int .i64 0, .int .i64 0]), none⟩, ⟨none, .store 6 (.var 4) (.tmp 3), none⟩, ⟨some 5, .mv (.tmp 4), none⟩]) (.seq (.seq (.region [⟨none, .mv (.var 5), none⟩, ⟨some 26, .un .not (.tmp 0), none⟩]) (.cond (.var 26) (.seq (.region [⟨none, .mv (.var 3), none⟩, ⟨some 2, .mv (.tmp 0), none⟩]) .ret) .skip)) (.seq (.region [⟨none, .indexArr 3 2 (.var 4) (.cst (.int .i64 0)), none⟩, ⟨none, .load true 2 (.tmp 0), none⟩, ⟨none, .indexArr 3 2 (.var 4) (.cst (.int .i64 1)), none⟩, ⟨none, .load true 2 (.tmp 2), none⟩, ⟨none, .call (.fn 26) [.tmp 1, .tmp 3], none⟩, ⟨none, .mv (.tmp 4), none⟩, ⟨none, .extract (.tmp 5) 0, none⟩, ⟨none, .extract (.tmp 5) 1, none⟩, ⟨some 6, .alloc 2 (.agg [.int .i64 0, .int .i64 0]), none⟩, ⟨none, .store 2 (.var 6) (.tmp 6), none⟩, ⟨some 7, .mv (.tmp 7), none⟩]) (.seq (.region [⟨none, .indexArr 3 2 (.var 4) (.cst (.int .i64 1)), none⟩, ⟨none, .load true 2 (.tmp 0), none⟩, ⟨none, .indexArr 3 2 (.var 4) (.cst (.int .i64 0)), none⟩, ⟨none, .load true 2 (.tmp 2), none⟩, ⟨none, .call (.fn 26) [.tmp 1, .tmp 3], none⟩, ⟨none, .mv (.tmp 4), none⟩, ⟨none, .extract (.tmp 5) 0, none⟩, ⟨none, .extract (.tmp 5) 1, none⟩, ⟨some 8, .alloc 2 (.agg [.int .i64 0, .int .i64 0]), none⟩, ⟨none, .store 2 (.var 8) (.tmp 6), none⟩, ⟨some 9, .mv (.tmp 7), none⟩]) (.seq (.region [⟨none, .indexArr 3 2 (.var 4) (.cst (.int .i64 0)), none⟩, ⟨none, .load true 2 (.tmp 0), none⟩, ⟨none, .indexArr 3 2 (.var 4) (.cst (.int .i64 1)), none⟩, ⟨none, .load true 2 (.tmp 2), none⟩, ⟨none, .call (.fn 27) [.tmp 1, .tmp 3], none⟩, ⟨none, .mv (.tmp 4), none⟩, ⟨none, .extract (.tmp 5) 0, none⟩, ⟨none, .extract (.tmp 5) 1, none⟩, ⟨some 10, .alloc 2 (.agg [.int .i64 0, .int .i64 0]), none⟩, ⟨none, .store 2 (.var 10) (.tmp 6), none⟩, ⟨some 11, .mv (.tmp 7), none⟩]) (.seq (.region [⟨none, .indexArr 3 2 (.var 4) (.cst (.int .i64 1)), none⟩, ⟨none, .load true 2 (.tmp 0), none⟩, ⟨none, .indexArr 3 2 (.var 4) (.cst (.int .i64 0)), none⟩, ⟨none, .load true 2 (.tmp 2), none⟩, ⟨none, .call (.fn 27) [.tmp 1, .tmp 3], none⟩, ⟨none, .mv (.tmp 4), none⟩, ⟨none, .extract (.tmp 5) 0, none⟩, ⟨none, .extract (.tmp 5) 1, none⟩, ⟨some 12, .alloc 2 (.agg [.int .i64 0, .int .i64 0]), none⟩, ⟨none, .store 2 (.var 12) (.tmp 6), none⟩, ⟨some 13, .mv (.tmp 7), none⟩]) (.seq (.seq (.region [⟨none, .load true 2 (.var 6), none⟩, ⟨none, .load true 2 (.var 8), none⟩, ⟨none, .eqAgg true [(0, 1), (1, 1)] (.tmp 0) (.tmp 1), none⟩, ⟨none, .mv (.tmp 2), none⟩, ⟨none, .mv (.var 7), some (.tmp 3, false)⟩, ⟨none, .mv (.var 9), some (.tmp 3, false)⟩, ⟨none, .bin .neq (.tmp 4) (.tmp 5), some (.tmp 3, false)⟩, ⟨none, .pick (.tmp 3) (.cst (.bool true)) (.tmp 6), none⟩, ⟨none, .mv (.tmp 7), none⟩, ⟨none, .load true 2 (.var 10), some (.tmp 8, false)⟩, ⟨none, .load true 2 (.var 12), some (.tmp 8, false)⟩, ⟨none, .eqAgg true [(0, 1), (1, 1)] (.tmp 9) (.tmp 10), some (.tmp 8, false)⟩, ⟨none, .pick (.tmp 8) (.cst (.bool true)) (.tmp 11), none⟩, ⟨none, .mv (.tmp 12), none⟩, ⟨none, .mv (.var 11), some (.tmp 13, false)⟩, ⟨none, .mv (.var 13), some (.tmp 13, false)⟩, ⟨none, .bin .neq (.tmp 14) (.tmp 15), some (.tmp 13, false)⟩, ⟨some 27, .pick (.tmp 13) (.cst (.bool true)) (.tmp 16), none⟩]) (.cond (.var 27) (.seq (.region [⟨some 2, .mv (.cst (.bool false)), none⟩]) .ret) .skip)) (.seq (.region [⟨none, .indexArr 3 2 (.var 4) (.cst (.int .i64 1)), none⟩, ⟨none, .load true 2 (.tmp 0), none⟩, ⟨none, .indexArr 3 2 (.var 4) (.cst (.int .i64 2)), none⟩, ⟨none, .load true 2 (.tmp 2), none⟩, ⟨none, .call (.fn 26) [.tmp 1, .tmp 3], none⟩, ⟨none, .mv (.tmp 4), none⟩, ⟨none, .extract (.tmp 5) 0, none⟩, ⟨none, .extract (.tmp 5) 1, none⟩, ⟨some 14, .alloc 2 (.agg [.int .i64 0, .int .i64 0]), none⟩, ⟨none, .store 2 (.var 14) (.tmp 6), none⟩, ⟨some 15, .mv (.tmp 7), none⟩]) (.seq (.seq (.region [⟨none, .mv (.var 7), none⟩, ⟨none, .bin .eql (.tmp 0) (.cst (.int .i64 0)), none⟩, ⟨none, .mv (.tmp 1), none⟩, ⟨none, .mv (.var 15), some (.tmp 2, true)⟩, ⟨none, .bin .eql (.tmp 3) (.cst (.int .i64 0)), some (.tmp 2, true)⟩, ⟨some 28, .pick (.tmp 2) (.tmp 4) (.cst (.bool false)), none⟩]) (.cond (.var 28) (.seq (.region [⟨none, .load true 2 (.var 6), none⟩, ⟨none, .indexArr 3 2 (.var 4) (.cst (.int .i64 2)), none⟩, ⟨none, .load true 2 (.tmp 1), none⟩, ⟨none, .call (.fn 26) [.tmp 0, .tmp 2], none⟩, ⟨none, .mv (.tmp 3), none⟩, ⟨none, .extract (.tmp 4) 0, none⟩, ⟨none, .extract (.tmp 4) 1, none⟩, ⟨some 16, .alloc 2 (.agg [.int .i64 0, .int .i64 0]), none⟩, ⟨none, .store 2 (.var 16) (.tmp 5), none⟩, ⟨some 17, .mv (.tmp 6), none⟩]) (.seq (.region [⟨none, .indexArr 3 2 (.var 4) (.cst (.int .i64 0)), none⟩, ⟨none, .load true 2 (.tmp 0), none⟩, ⟨none, .load true 2 (.var 14), none⟩, ⟨none, .call (.fn 26) [.tmp 1, .tmp 2], none⟩, ⟨none, .mv (.tmp 3), none⟩, ⟨none, .extract (.tmp 4) 0, none⟩, ⟨none, .extract (.tmp 4) 1, none⟩, ⟨some 18, .alloc 2 (.agg [.int .i64 0, .int .i64 0]), none⟩, ⟨none, .store 2 (.var 18) (.tmp 5), none⟩, ⟨some 19, .mv (.tmp 6), none⟩]) (.seq (.region [⟨none, .load true 2 (.var 16), none⟩, ⟨none, .load true 2 (.var 18), none⟩, ⟨none, .eqAgg true [(0, 1), (1, 1)] (.tmp 0) (.tmp 1), none⟩, ⟨none, .mv (.tmp 2), none⟩, ⟨none, .mv (.var 17), some (.tmp 3, false)⟩, ⟨none, .mv (.var 19), some (.tmp 3, false)⟩, ⟨none, .bin .neq (.tmp 4) (.tmp 5), some (.tmp 3, false)⟩, ⟨some 29, .pick (.tmp 3) (.cst (.bool true)) (.tmp 6), none⟩]) (.cond (.var 29) (.seq (.region [⟨some 2, .mv (.cst (.bool false)), none⟩]) .ret) .skip)))) .skip)) (.seq (.region [⟨none, .indexArr 3 2 (.var 4) (.cst (.int .i64 1)), none⟩, ⟨none, .load true 2 (.tmp 0), none⟩, ⟨none, .indexArr 3 2 (.var 4) (.cst (.int .i64 2)), none⟩, ⟨none, .load true 2 (.tmp 2), none⟩, ⟨none, .call (.fn 27) [.tmp 1, .tmp 3], none⟩, ⟨none, .mv (.tmp 4), none⟩, ⟨none, .extract (.tmp 5) 0, none⟩, ⟨none, .extract (.tmp 5) 1, none⟩, ⟨some 20, .alloc 2 (.agg [.int .i64 0, .int .i64 0]), none⟩, ⟨none, .store 2 (.var 20) (.tmp 6), none⟩, ⟨some 21, .mv (.tmp 7), none⟩]) (.seq (.seq (.region [⟨none, .mv (.var 11), none⟩, ⟨none, .bin .eql (.tmp 0) (.cst (.int .i64 0)), none⟩, ⟨none, .mv (.tmp 1), none⟩, ⟨none, .mv (.var 21), some (.tmp 2, true)⟩, ⟨none, .bin .eql (.tmp 3) (.cst (.int .i64 0)), some (.tmp 2, true)⟩, ⟨some 30, .pick (.tmp 2) (.tmp 4) (.cst (.bool false)), none⟩]) (.cond (.var 30) (.seq (.region [⟨none, .load true 2 (.var 10), none⟩, ⟨none, .indexArr 3 2 (.var 4) (.cst (.int .i64 2)), none⟩, ⟨none, .load true 2 (.tmp 1), none⟩, ⟨none, .call (.fn 27) [.tmp 0, .tmp 2], none⟩, ⟨none, .mv (.tmp 3), none⟩, ⟨none, .extract (.tmp 4) 0, none⟩, ⟨none, .extract (.tmp 4) 1, none⟩, ⟨some 22, .alloc 2 (.agg [.int .i64 0, .int .i64 0]), none⟩, ⟨none, .store 2 (.var 22) (.tmp 5), none⟩, ⟨some 23, .mv (.tmp 6), none⟩]) (.seq (.region [⟨none, .indexArr 3 2 (.var 4) (.cst (.int .i64 0)), none⟩, ⟨none, .load true 2 (.tmp 0), none⟩, ⟨none, .load true 2 (.var 20), none⟩, ⟨none, .call (.fn 27) [.tmp 1, .tmp 2], none⟩, ⟨none, .mv (.tmp 3), none⟩, ⟨none, .extract (.tmp 4) 0, none⟩, ⟨none, .extract (.tmp 4) 1, none⟩, ⟨some 24, .alloc 2 (.agg [.int .i64 0, .int .i64 0]), none⟩, ⟨none, .store 2 (.var 24) (.tmp 5), none⟩, ⟨some 25, .mv (.tmp 6), none⟩]) (.seq (.region [⟨none, .load true 2 (.var 22), none⟩, ⟨none, .load true 2 (.var 24), none⟩, ⟨none, .eqAgg true [(0, 1), (1, 1)] (.tmp 0) (.tmp 1), none⟩, ⟨none, .mv (.tmp 2), none⟩, ⟨none, .mv (.var 23), some (.tmp 3, false)⟩, ⟨none, .mv (.var 25), some (.tmp 3, false)⟩, ⟨none, .bin .neq (.tmp 4) (.tmp 5), some (.tmp 3, false)⟩, ⟨some 31, .pick (.tmp 3) (.cst (.bool true)) (.tmp 6), none⟩]) (.cond (.var 31) (.seq (.region [⟨some 2, .mv (.cst (.bool false)), none⟩]) .ret) .skip)))) .skip)) (.seq (.region [⟨none, .mv (.var 3), none⟩, ⟨some 2, .mv (.tmp 0), none⟩]) .ret))))))))))))), [.tmp 2]⟩
set_option maxHeartbeats 4000000 in
theorem comp8 : compFun Tryd.prog Tryd.f8 1 [0, 1, 2, 3, 4, 5, 6, 7, 8, 9, 10, 11, 12, 13, 14, 15, 16, 17, 18, 19, 20, 21, 22, 23, 24, 25, 33, 84, 98, 120, 134, 156] [] true ([], []) = some mf8 := by kernel_rfl
theorem at8 : Tryd.prog.funcs[8]? = some Tryd.f8 := by kernel_rfl
def mf9 : MFun := ⟨1, 18, .seq (.region [⟨some 1, .box (.var 0), none⟩, ⟨some 2, .mv (.cst (.bool false)), none⟩]) (.seq (.region [⟨none, .call (.fn 12) [], none⟩, ⟨some 3, .mv (.tmp 0), none⟩]) (.seq (.region [⟨none, .load true 6 (.var 1), none⟩, ⟨none, .call (.fn 23) [.tmp 0], none⟩, ⟨none, .mv (.tmp 1), none⟩, ⟨none, .extract (.tmp 2) 0, none⟩, ⟨none, .extract (.tmp 2) 1, none⟩, ⟨some 4, .alloc 6 (.agg [.int .i64 0, .int .i64 0, .int .i64 0, .int .i64 0, .int .i64 0, .int .i64 0]), none⟩, ⟨none, .store 6 (.var 4) (.tmp 3), none⟩, ⟨some 5, .mv (.tmp 4), none⟩]) (.seq (.seq (.region [⟨none, .mv (.var 5), none⟩, ⟨some 16, .un .not (.tmp 0), none⟩]) (.cond (.var 16) (.seq (.region [⟨none, .mv (.var 3), none⟩, ⟨some 2, .mv (.tmp 0), none⟩]) .ret) .skip)) (.seq (.region [⟨none, .indexArr 3 2 (.var 4) (.cst (.int .i64 1)), none⟩, ⟨none, .load true 2 (.tmp 0), none⟩, ⟨none, .indexArr 3 2 (.var 4) (.cst (.int .i64 2)), none⟩, ⟨none, .load true 2 (.tmp 2), none⟩, ⟨none, .call (.fn 26) [.tmp 1, .tmp 3], none⟩, ⟨none, .mv (.tmp 4), none⟩, ⟨none, .extract (.tmp 5) 0, none⟩, ⟨none, .extract (.tmp 5) 1, none⟩, ⟨some 6, .alloc 2 (.agg [.int .i64 0, .int .i64 0]), none⟩, ⟨none, .store 2 (.var 6) (.tmp 6), none⟩, ⟨some 7, .mv (.tmp 7), none⟩]) (.seq (.region [⟨none, .indexArr 3 2 (.var 4) (.cst (.int .i64 0)), none⟩, ⟨none, .load true 2 (.tmp 0), none⟩, ⟨none, .indexArr 3 2 (.var 4) (.cst (.int .i64 1)), none⟩, ⟨none, .load true 2 (.tmp 2), none⟩, ⟨none, .call (.fn 27) [.tmp 1, .tmp 3], none⟩, ⟨none, .mv (.tmp 4), none⟩, ⟨none, .extract (.tmp 5) 0, none⟩, ⟨none, .extract (.tmp 5) 1, none⟩, ⟨some 8, .alloc 2 (.agg [.int .i64 0, .int .i64 0]), none⟩, ⟨none, .store 2 (.var 8) (.tmp 6), none⟩, ⟨some 9, .mv (.tmp 7), none⟩]) (.seq (.region [⟨none, .indexArr 3 2 (.var 4) (.cst (.int .i64 0)), none⟩, ⟨none, .load true 2 (.tmp 0), none⟩, ⟨none, .indexArr 3 2 (.var 4) (.cst (.int .i64 2)), none⟩, ⟨none, .load true 2 (.tmp 2), none⟩, ⟨none, .call (.fn 27) [.tmp 1, .tmp 3], none⟩, ⟨none, .mv (.tmp 4), none⟩, ⟨none, .extract (.tmp 5) 0, none⟩, ⟨none, .extract (.tmp 5) 1, none⟩, ⟨some 10, .alloc 2 (.agg [.int .i64 0, .int .i64 0]), none⟩, ⟨none, .store 2 (.var 10) (.tmp 6), none⟩, ⟨some 11, .mv (.tmp 7), none⟩]) (.seq (.seq (.region [⟨none, .mv (.var 7), none⟩, ⟨none, .bin .neq (.tmp 0) (.cst (.int .i64 0)), none⟩, ⟨none, .mv (.tmp 1), none⟩, ⟨none, .mv (.var 9), some (.tmp 2, false)⟩, ⟨none, .bin .neq (.tmp 3) (.cst (.int .i64 0)), some (.tmp 2, false)⟩, ⟨none, .pick (.tmp 2) (.cst (.bool true)) (.tmp 4), none⟩, ⟨none, .mv (.tmp 5), none⟩, ⟨none, .mv (.var 11), some (.tmp 6, false)⟩, ⟨none, .bin .neq (.tmp 7) (.cst (.int .i64 0)), some (.tmp 6, false)⟩, ⟨some 17, .pick (.tmp 6) (.cst (.bool true)) (.tmp 8), none⟩]) (.cond (.var 17) (.seq (.region [⟨none, .mv (.var 3), none⟩, ⟨some 2, .mv (.tmp 0), none⟩]) .ret) .skip)) (.seq (.region [⟨none, .indexArr 3 2 (.var 4) (.cst (.int .i64 0)), none⟩, ⟨none, .load true 2 (.tmp 0), none⟩, ⟨none, .load true 2 (.var 6), none⟩, ⟨none, .call (.fn 27) [.tmp 1, .tmp 2], none⟩, ⟨none, .mv (.tmp 3), none⟩, ⟨none, .extract (.tmp 4) 0, none⟩, ⟨none, .extract (.tmp 4) 1, none⟩, ⟨some 12, .alloc 2 (.agg [.int .i64 0, .int .i64 0]), none⟩, ⟨none, .store 2 (.var 12) (.tmp 5), none⟩, ⟨some 13, .mv (.tmp 6), none⟩]) (.seq (.region [⟨none, .load true 2 (.var 8), none⟩, ⟨none, .load true 2 (.var 10), none⟩, ⟨none, .call (.fn 26) [.tmp 0, .tmp 1], none⟩, ⟨none, .mv (.tmp 2), none⟩, ⟨none, .extract (.tmp 3) 0, none⟩, ⟨none, .extract (.tmp 3) 1, none⟩, ⟨some 14, .alloc 2 (.agg [.int .i64 0, .int .i64 0]), none⟩, ⟨none, .store 2 (.var 14) (.tmp 4), none⟩, ⟨some 15, .mv (.tmp 5), none⟩]) (.seq (.region [⟨none, .mv (.var 3), none⟩, ⟨none, .mv (.tmp 0), none⟩, ⟨none, .load true 2 (.var 12), some (.tmp 1, true)⟩, ⟨none, .load true 2 (.var 14), some (.tmp 1, true)⟩, ⟨none, .eqAgg false [(0, 1), (1, 1)] (.tmp 2) (.tmp 3), some (.tmp 1, true)⟩, ⟨none, .pick (.tmp 1) (.tmp 4) (.cst (.bool false)), none⟩, ⟨none, .mv (.tmp 5), none⟩, ⟨none, .mv (.var 13), some (.tmp 6, true)⟩, ⟨none, .mv (.var 15), some (.tmp 6, true)⟩, ⟨none, .bin .eql (.tmp 7) (.tmp 8), some (.tmp 6, true)⟩, ⟨none, .pick (.tmp 6) (.tmp 9) (.cst (.bool false)), none⟩, ⟨some 2, .mv (.tmp 10), none⟩]) .ret)))))))))), [.tmp 2]⟩
set_option maxHeartbeats 4000000 in
theorem comp9 : compFun Tryd.prog Tryd.f9 1 [0, 1, 2, 3, 4, 5, 6, 7, 8, 9, 10, 11, 12, 13, 14, 15, 23, 58] [] true ([], []) = some mf9 := by kernel_rfl
theorem at9 : Tryd.prog.funcs[9]? = some Tryd.f9 := by kernel_rfl
def lp10x0 : MC := .seq (.region [⟨some 28, .bin .lss (.var 27) (.var 26), none⟩]) (.seq (.cond (.var 28) .skip (.exit 0)) (.seq (.seq (.block 1 (.seq (.region [⟨none, .indexSl 4 (.var 25) (.var 27), none⟩, ⟨none, .load true 4 (.tmp 0), none⟩, ⟨some 13, .alloc 4 (.agg [.int .i64 0, .int .i64 0, .int .i64 0, .int .i64 0]), none⟩, ⟨none, .store 4 (.var 13) (.tmp 1), none⟩]) (.seq (.region [⟨none, .indexArr 2 2 (.var 13) (.cst (.int .i64 0)), none⟩, ⟨none, .load true 2 (.tmp 0), none⟩, ⟨some 14, .alloc 2 (.agg [.int .i64 0, .int .i64 0]), none⟩, ⟨none, .store 2 (.var 14) (.tmp 1), none⟩]) (.seq (.region [⟨none, .indexArr 2 2 (.var 13) (.cst (.int .i64 1)), none⟩, ⟨none, .load true 2 (.tmp 0), none⟩, ⟨some 15, .alloc 2 (.agg [.int .i64 0, .int .i64 0]), none⟩, ⟨none, .store 2 (.var 15) (.tmp 1), none⟩]) (.seq (.region [⟨none, .load true 2 (.var 14), none⟩, ⟨none, .load true 2 (.var 15), none⟩, ⟨none, .call (.fn 26) [.tmp 0, .tmp 1], none⟩, ⟨none, .mv (.tmp 2), none⟩, ⟨none, .extract (.tmp 3) 0, none⟩, ⟨none, .extract (.tmp 3) 1, none⟩, ⟨some 16, .alloc 2 (.agg [.int .i64 0, .int .i64 0]), none⟩, ⟨none, .store 2 (.var 16) (.tmp 4), none⟩, ⟨some 17, .mv (.tmp 5), none⟩]) (.seq (.region [⟨none, .load true 2 (.var 14), none⟩, ⟨none, .load true 2 (.var 15), none⟩, ⟨none, .call (.fn 29) [.tmp 0, .tmp 1], none⟩, ⟨none, .mv (.tmp 2), none⟩, ⟨none, .extract (.tmp 3) 0, none⟩, ⟨none, .extract (.tmp 3) 1, none⟩, ⟨some 18, .alloc 2 (.agg [.int .i64 0, .int .i64 0]), none⟩, ⟨none, .store 2 (.var 18) (.tmp 4), none⟩, ⟨some 19, .mv (.tmp 5), none⟩]) (.seq (.region [⟨none, .load true 2 (.var 14), none⟩, ⟨none, .load true 2 (.var 15), none⟩, ⟨none, .call (.fn 25) [.tmp 0, .tmp 1], none⟩, ⟨none, .mv (.tmp 2), none⟩, ⟨none, .extract (.tmp 3) 0, none⟩, ⟨none, .extract (.tmp 3) 1, none⟩, ⟨some 20, .alloc 2 (.agg [.int .i64 0, .int .i64 0]), none⟩, ⟨none, .store 2 (.var 20) (.tmp 4), none⟩, ⟨some 21, .mv (.tmp 5), none⟩]) (.seq (.region [⟨none, .load true 2 (.var 14), none⟩, ⟨none, .load true 2 (.var 15), none⟩, ⟨none, .call (.fn 30) [.tmp 0, .tmp 1], none⟩, ⟨none, .mv (.tmp 2), none⟩, ⟨none, .extract (.tmp 3) 0, none⟩, ⟨none, .extract (.tmp 3) 1, none⟩, ⟨some 22, .alloc 2 (.agg [.int .i64 0, .int .i64 0]), none⟩, ⟨none, .store 2 (.var 22) (.tmp 4), none⟩, ⟨some 23, .mv (.tmp 5), none⟩]) (.seq (.seq (.region [⟨none, .load true 2 (.var 16), none⟩, ⟨none, .load true 2 (.var 18), none⟩, ⟨none, .eqAgg true [(0, 1), (1, 1)] (.tmp 0) (.tmp 1), none⟩, ⟨none, .mv (.tmp 2), none⟩, ⟨none, .mv (.var 17), some (.tmp 3, false)⟩, ⟨none, .mv (.var 19), some (.tmp 3, false)⟩, ⟨none, .bin .neq (.tmp 4) (.tmp 5), some (.tmp 3, false)⟩, ⟨none, .pick (.tmp 3) (.cst (.bool true)) (.tmp 6), none⟩, ⟨none, .mv (.tmp 7), none⟩, ⟨none, .load true 2 (.var 20), some (.tmp 8, false)⟩, ⟨none, .load true 2 (.var 22), some (.tmp 8, false)⟩, ⟨none, .eqAgg true [(0, 1), (1, 1)] (.tmp 9) (.tmp 10), some (.tmp 8, false)⟩, ⟨none, .pick (.tmp 8) (.cst (.bool true)) (.tmp 11), none⟩, ⟨none, .mv (.tmp 12), none⟩, ⟨none, .mv (.var 21), some (.tmp 13, false)⟩, ⟨none, .mv (.var 23), some (.tmp 13, false)⟩, ⟨none, .bin .neq (.tmp 14) (.tmp 15), some (.tmp 13, false)⟩, ⟨some 29, .pick (.tmp 13) (.cst (.bool true)) (.tmp 16), none⟩]) (.cond (.var 29) (.seq (.region [⟨some 3, .mv (.cst (.bool false)), none⟩]) .ret) .skip)) (.seq (.region [⟨none, .load true 2 (.var 14), none⟩, ⟨none, .load true 2 (.var 15), none⟩, ⟨none, .call (.fn 27) [.tmp 0, .tmp 1], none⟩, ⟨none, .mv (.tmp 2), none⟩, ⟨none, .extract (.tmp 3) 0, none⟩, ⟨none, .extract (.tmp 3) 1, none⟩, ⟨none, .store 2 (.var 16) (.tmp 4), none⟩, ⟨some 17, .mv (.tmp 5), none⟩]) (.seq (.region [⟨none, .load true 2 (.var 14), none⟩, ⟨none, .load true 2 (.var 15), none⟩, ⟨none, .call (.fn 31) [.tmp 0, .tmp 1], none⟩, ⟨none, .mv (.tmp 2), none⟩, ⟨none, .extract (.tmp 3) 0, none⟩, ⟨none, .extract (.tmp 3) 1, none⟩, ⟨none, .store 2 (.var 18) (.tmp 4), none⟩, ⟨some 19, .mv (.tmp 5), none⟩]) (.seq (.region [⟨none, .load true 2 (.var 14), none⟩, ⟨none, .load true 2 (.var 15), none⟩, ⟨none, .call (.fn 32) [.tmp 0, .tmp 1], none⟩, ⟨none, .mv (.tmp 2), none⟩, ⟨none, .extract (.tmp 3) 0, none⟩, ⟨none, .extract (.tmp 3) 1, none⟩, ⟨none, .store 2 (.var 20) (.tmp 4), none⟩, ⟨some 21, .mv (.tmp 5), none⟩]) (.seq (.region [⟨none, .load true 2 (.var 14), none⟩, ⟨none, .load true 2 (.var 15), none⟩, ⟨none, .call (.fn 33) [.tmp 0, .tmp 1], none⟩, ⟨none, .mv (.tmp 2), none⟩, ⟨none, .extract (.tmp 3) 0, none⟩, ⟨none, .extract (.tmp 3) 1, none⟩, ⟨none, .store 2 (.var 22) (.tmp 4), none⟩, ⟨some 23, .mv (.tmp 5), none⟩]) (.seq (.seq (.region [⟨none, .load true 2 (.var 16), none⟩, ⟨none, .load true 2 (.var 18), none⟩, ⟨none, .eqAgg true [(0, 1), (1, 1)] (.tmp 0) (.tmp 1), none⟩, ⟨none, .mv (.tmp 2), none⟩, ⟨none, .mv (.var 17), some (.tmp 3, false)⟩, ⟨none, .mv (.var 19), some (.tmp 3, false)⟩, ⟨none, .bin .neq (.tmp 4) (.tmp 5), some (.tmp 3, false)⟩, ⟨none, .pick (.tmp 3) (.cst (.bool true)) (.tmp 6), none⟩, ⟨none, .mv (.tmp 7), none⟩, ⟨none, .load true 2 (.var 20), some (.tmp 8, false)⟩, ⟨none, .load true 2 (.var 22), some (.tmp 8, false)⟩, ⟨none, .eqAgg true [(0, 1), (1, 1)] (.tmp 9) (.tmp 10), some (.tmp 8, false)⟩, ⟨none, .pick (.tmp 8) (.cst (.bool true)) (.tmp 11), none⟩, ⟨none, .mv (.tmp 12), none⟩, ⟨none, .mv (.var 21), some (.tmp 13, false)⟩, ⟨none, .mv (.var 23), some (.tmp 13, false)⟩, ⟨none, .bin .neq (.tmp 14) (.tmp 15), some (.tmp 13, false)⟩, ⟨some 30, .pick (.tmp 13) (.cst (.bool true)) (.tmp 16), none⟩]) (.cond (.var 30) (.seq (.region [⟨some 3, .mv (.cst (.bool false)), none⟩]) .ret) .skip)) (.seq (.region [⟨none, .load true 2 (.var 14), none⟩, ⟨none, .mv (.var 1), none⟩, ⟨none, .call (.fn 22) [.tmp 0, .tmp 1], none⟩, ⟨none, .mv (.tmp 2), none⟩, ⟨none, .extract (.tmp 3) 0, none⟩, ⟨none, .extract (.tmp 3) 1, none⟩, ⟨none, .store 2 (.var 16) (.tmp 4), none⟩, ⟨some 17, .mv (.tmp 5), none⟩]) (.seq (.region [⟨none, .load true 2 (.var 14), none⟩, ⟨none, .mv (.var 1), none⟩, ⟨none, .call (.fn 34) [.tmp 0, .tmp 1], none⟩, ⟨none, .mv (.tmp 2), none⟩, ⟨none, .extract (.tmp 3) 0, none⟩, ⟨none, .extract (.tmp 3) 1, none⟩, ⟨none, .store 2 (.var 18) (.tmp 4), none⟩, ⟨some 19, .mv (.tmp 5), none⟩]) (.seq (.region [⟨none, .load true 2 (.var 16), none⟩, ⟨none, .load true 2 (.var 18), none⟩, ⟨none, .eqAgg true [(0, 1), (1, 1)] (.tmp 0) (.tmp 1), none⟩, ⟨none, .mv (.tmp 2), none⟩, ⟨none, .mv (.var 17), some (.tmp 3, false)⟩, ⟨none, .mv (.var 19), some (.tmp 3, false)⟩, ⟨none, .bin .neq (.tmp 4) (.tmp 5), some (.tmp 3, false)⟩, ⟨none, .pick (.tmp 3) (.cst (.bool true)) (.tmp 6), none⟩, ⟨none, .mv (.tmp 7), none⟩, ⟨none, .load true 2 (.var 14), some (.tmp 8, false)⟩, ⟨none, .call (.fn 19) [.tmp 9], some (.tmp 8, false)⟩, ⟨none, .load true 2 (.var 14), some (.tmp 8, false)⟩, ⟨none, .call (.fn 35) [.tmp 11], some (.tmp 8, false)⟩, ⟨none, .eqBool true (.tmp 10) (.tmp 12), some (.tmp 8, false)⟩, ⟨none, .pick (.tmp 8) (.cst (.bool true)) (.tmp 13), none⟩, ⟨none, .mv (.tmp 14), none⟩, ⟨none, .load true 2 (.var 14), some (.tmp 15, false)⟩, ⟨none, .load true 2 (.var 15), some (.tmp 15, false)⟩, ⟨none, .call (.fn 21) [.tmp 16, .tmp 17], some (.tmp 15, false)⟩, ⟨none, .load true 2 (.var 14), some (.tmp 15, false)⟩, ⟨none, .load true 2 (.var 15), some (.tmp 15, false)⟩, ⟨none, .call (.fn 36) [.tmp 19, .tmp 20], some (.tmp 15, false)⟩, ⟨none, .bin .neq (.tmp 18) (.tmp 21), some (.tmp 15, false)⟩, ⟨none, .pick (.tmp 15) (.cst (.bool true)) (.tmp 22), none⟩, ⟨none, .mv (.tmp 23), none⟩, ⟨none, .load true 2 (.var 14), some (.tmp 24, false)⟩, ⟨none, .call (.fn 20) [.tmp 25], some (.tmp 24, false)⟩, ⟨none, .load true 2 (.var 14), some (.tmp 24, false)⟩, ⟨none, .call (.fn 37) [.tmp 27], some (.tmp 24, false)⟩, ⟨none, .bin .neq (.tmp 26) (.tmp 28), some (.tmp 24, false)⟩, ⟨none, .pick (.tmp 24) (.cst (.bool true)) (.tmp 29), none⟩, ⟨none, .mv (.tmp 30), none⟩, ⟨none, .load true 2 (.var 14), some (.tmp 31, false)⟩, ⟨none, .load true 2 (.var 15), some (.tmp 31, false)⟩, ⟨none, .load true 2 (.var 5), some (.tmp 31, false)⟩, ⟨none, .call (.fn 24) [.tmp 32, .tmp 33, .tmp 34], some (.tmp 31, false)⟩, ⟨none, .load true 2 (.var 14), some (.tmp 31, false)⟩, ⟨none, .load true 2 (.var 15), some (.tmp 31, false)⟩, ⟨none, .load true 2 (.var 5), some (.tmp 31, false)⟩, ⟨none, .call (.fn 38) [.tmp 36, .tmp 37, .tmp 38], some (.tmp 31, false)⟩, ⟨none, .eqAgg true [(0, 1), (1, 1)] (.tmp 35) (.tmp 39), some (.tmp 31, false)⟩, ⟨none, .pick (.tmp 31) (.cst (.bool true)) (.tmp 40), none⟩, ⟨none, .mv (.tmp 41), none⟩, ⟨none, .load true 2 (.var 5), some (.tmp 42, false)⟩, ⟨none, .load true 2 (.var 14), some (.tmp 42, false)⟩, ⟨none, .load true 2 (.var 15), some (.tmp 42, false)⟩, ⟨none, .call (.fn 24) [.tmp 43, .tmp 44, .tmp 45], some (.tmp 42, false)⟩, ⟨none, .load true 2 (.var 5), some (.tmp 42, false)⟩, ⟨none, .load true 2 (.var 14), some (.tmp 42, false)⟩, ⟨none, .load true 2 (.var 15), some (.tmp 42, false)⟩, ⟨none, .call (.fn 38) [.tmp 47, .tmp 48, .tmp 49], some (.tmp 42, false)⟩, ⟨none, .eqAgg true [(0, 1), (1, 1)] (.tmp 46) (.tmp 50), some (.tmp 42, false)⟩, ⟨some 31, .pick (.tmp 42) (.cst (.bool true)) (.tmp 51), none⟩]) (.cond (.var 31) (.seq (.region [⟨some 3, .mv (.cst (.bool false)), none⟩]) .ret) .skip)))))))))))))))))) (.kill [0, 2, 3, 6, 7, 8, 9, 10, 11, 12, 13, 14, 15, 16, 17, 18, 19, 20, 21, 22, 23, 24, 28, 29, 30, 31])) (.region [⟨none, .bin .add (.var 27) (.cst (.int .i64 1)), none⟩, ⟨some 27, .mv (.tmp 0), none⟩])))
def mf10 : MFun := ⟨2, 32, .seq (.region [⟨some 2, .box (.var 0), none⟩, ⟨some 3, .mv (.cst (.bool false)), none⟩]) (.seq (.region [⟨none, .call (.fn 12) [], none⟩, ⟨some 4, .mv (.tmp 0), none⟩]) (.seq (.region [⟨none, .indexArr 4 1 (.var 2) (.cst (.int .i64 0)), none⟩, ⟨none, .load false 1 (.tmp 0), none⟩, ⟨none, .indexArr 4 1 (.var 2) (.cst (.int .i64 1)), none⟩, ⟨none, .load false 1 (.tmp 2), none⟩, ⟨none, .call (.fn 18) [.tmp 1, .tmp 3], none⟩, ⟨none, .mv (.tmp 4), none⟩, ⟨none, .extract (.tmp 5) 0, none⟩, ⟨none, .extract (.tmp 5) 1, none⟩, ⟨some 5, .alloc 2 (.agg [.int .i64 0, .int .i64 0]), none⟩, ⟨none, .store 2 (.var 5) (.tmp 6), none⟩, ⟨some 6, .mv (.tmp 7), none⟩]) (.seq (.region [⟨none, .indexArr 4 1 (.var 2) (.cst (.int .i64 0)), none⟩, ⟨none, .load false 1 (.tmp 0), none⟩, ⟨none, .indexArr 4 1 (.var 2) (.cst (.int .i64 1)), none⟩, ⟨none, .load false 1 (.tmp 2), none⟩, ⟨none, .call (.fn 28) [.tmp 1, .tmp 3], none⟩, ⟨none, .mv (.tmp 4), none⟩, ⟨none, .extract (.tmp 5) 0, none⟩, ⟨none, .extract (.tmp 5) 1, none⟩, ⟨some 7, .alloc 2 (.agg [.int .i64 0, .int .i64 0]), none⟩, ⟨none, .store 2 (.var 7) (.tmp 6), none⟩, ⟨some 8, .mv (.tmp 7), none⟩]) (.seq (.region [⟨none, .indexArr 4 1 (.var 2) (.cst (.int .i64 2)), none⟩, ⟨none, .load false 1 (.tmp 0), none⟩, ⟨none, .indexArr 4 1 (.var 2) (.cst (.int .i64 3)), none⟩, ⟨none, .load false 1 (.tmp 2), none⟩, ⟨none, .call (.fn 18) [.tmp 1, .tmp 3], none⟩, ⟨none, .mv (.tmp 4), none⟩, ⟨none, .extract (.tmp 5) 0, none⟩, ⟨none, .extract (.tmp 5) 1, none⟩, ⟨some 9, .alloc 2 (.agg [.int .i64 0, .int .i64 0]), none⟩, ⟨none, .store 2 (.var 9) (.tmp 6), none⟩, ⟨some 10, .mv (.tmp 7), none⟩]) (.seq (.region [⟨none, .indexArr 4 1 (.var 2) (.cst (.int .i64 2)), none⟩, ⟨none, .load false 1 (.tmp 0), none⟩, ⟨none, .indexArr 4 1 (.var 2) (.cst (.int .i64 3)), none⟩, ⟨none, .load false 1 (.tmp 2), none⟩, ⟨none, .call (.fn 28) [.tmp 1, .tmp 3], none⟩, ⟨none, .mv (.tmp 4), none⟩, ⟨none, .extract (.tmp 5) 0, none⟩, ⟨none, .extract (.tmp 5) 1, none⟩, ⟨some 11, .alloc 2 (.agg [.int .i64 0, .int .i64 0]), none⟩, ⟨none, .store 2 (.var 11) (.tmp 6), none⟩, ⟨some 12, .mv (.tmp 7), none⟩]) (.seq (.seq (.region [⟨none, .load true 2 (.var 5), none⟩, ⟨none, .load true 2 (.var 7), none⟩, ⟨none, .eqAgg true [(0, 1), (1, 1)] (.tmp 0) (.tmp 1), none⟩, ⟨none, .mv (.tmp 2), none⟩, ⟨none, .mv (.var 6), some (.tmp 3, false)⟩, ⟨none, .mv (.var 8), some (.tmp 3, false)⟩, ⟨none, .bin .neq (.tmp 4) (.tmp 5), some (.tmp 3, false)⟩, ⟨none, .pick (.tmp 3) (.cst (.bool true)) (.tmp 6), none⟩, ⟨none, .mv (.tmp 7), none⟩, ⟨none, .load true 2 (.var 9), some (.tmp 8, false)⟩, ⟨none, .load true 2 (.var 11), some (.tmp 8, false)⟩, ⟨none, .eqAgg true [(0, 1), (1, 1)] (.tmp 9) (.tmp 10), some (.tmp 8, false)⟩, ⟨none, .pick (.tmp 8) (.cst (.bool true)) (.tmp 11), none⟩, ⟨none, .mv (.tmp 12), none⟩, ⟨none, .mv (.var 10), some (.tmp 13, false)⟩, ⟨none, .mv (.var 12), some (.tmp 13, false)⟩, ⟨none, .bin .neq (.tmp 14) (.tmp 15), some (.tmp 13, false)⟩, ⟨some 24, .pick (.tmp 13) (.cst (.bool true)) (.tmp 16), none⟩]) (.cond (.var 24) (.seq (.region [⟨some 3, .mv (.cst (.bool false)), none⟩]) .ret) .skip)) (.seq (.seq (.region [⟨none, .load true 2 (.var 5), none⟩, ⟨none, .load true 2 (.var 9), none⟩, ⟨none, .build [.int .i64 0, .int .i64 0, .int .i64 0, .int .i64 0] [(0, (2, .tmp 0)), (2, (2, .tmp 1))], none⟩, ⟨none, .indexArr 4 1 (.var 2) (.cst (.int .i64 0)), none⟩, ⟨none, .load false 1 (.tmp 3), none⟩, ⟨none, .indexArr 4 1 (.var 2) (.cst (.int .i64 1)), none⟩, ⟨none, .load false 1 (.tmp 5), none⟩, ⟨none, .call (.fn 14) [.tmp 4, .tmp 6], none⟩, ⟨none, .indexArr 4 1 (.var 2) (.cst (.int .i64 2)), none⟩, ⟨none, .load false 1 (.tmp 8), none⟩, ⟨none, .indexArr 4 1 (.var 2) (.cst (.int .i64 3)), none⟩, ⟨none, .load false 1 (.tmp 10), none⟩, ⟨none, .call (.fn 14) [.tmp 9, .tmp 11], none⟩, ⟨none, .build [.int .i64 0, .int .i64 0, .int .i64 0, .int .i64 0] [(0, (2, .tmp 7)), (2, (2, .tmp 12))], none⟩, ⟨none, .load true 2 (.var 5), none⟩, ⟨none, .indexArr 4 1 (.var 2) (.cst (.int .i64 2)), none⟩, ⟨none, .load false 1 (.tmp 15), none⟩, ⟨none, .indexArr 4 1 (.var 2) (.cst (.int .i64 3)), none⟩, ⟨none, .load false 1 (.tmp 17), none⟩, ⟨none, .call (.fn 14) [.tmp 16, .tmp 18], none⟩, ⟨none, .build [.int .i64 0, .int .i64 0, .int .i64 0, .int .i64 0] [(0, (2, .tmp 14)), (2, (2, .tmp 19))], none⟩, ⟨some 25, .buildSlice 4 [.tmp 2, .tmp 13, .tmp 20], none⟩, ⟨some 26, .lenSl (.var 25), none⟩, ⟨some 27, .mv (.cst (.int .i64 0)), none⟩]) (.seq (.block 0 (.loop [0, 2, 3, 6, 7, 8, 9, 10, 11, 12, 13, 14, 15, 16, 17, 18, 19, 20, 21, 22, 23, 24, 28, 29, 30, 31] lp10x0)) (.kill [0, 1, 2, 3, 5, 6, 7, 8, 9, 10, 11, 12, 13, 14, 15, 16, 17, 18, 19, 20, 21, 22, 23, 24, 25, 26, 27, 28, 29, 30, 31]))) (.seq (.region [⟨none, .mv (.var 4), none⟩, ⟨some 3, .mv (.tmp 0), none⟩]) .ret)))))))), [.tmp 3]⟩
def mask10x0 : List Nat := [0, 2, 3, 6, 7, 8, 9, 10, 11, 12, 13, 14, 15, 16, 17, 18, 19, 20, 21, 22, 23, 24, 28, 29, 30, 31]
abbrev st10x0 (v1 v4 v5 v25 v26 v27 : AV) : List AV := [.undef, v1, .undef, .undef, v4, v5, .undef, .undef, .undef, .undef, .undef, .undef, .undef, .undef, .undef, .undef, .undef, .undef, .undef, .undef, .undef, .undef, .undef, .undef, .undef, v25, v26, v27, .undef, .undef, .undef, .undef]
theorem cl10x0 {d0 v1 d2 d3 v4 v5 d6 d7 d8 d9 d10 d11 d12 d13 d14 d15 d16 d17 d18 d19 d20 d21 d22 d23 d24 v25 v26 v27 d28 d29 d30 d31 : AV} : clear mask10x0 [d0, v1, d2, d3, v4, v5, d6, d7, d8, d9, d10, d11, d12, d13, d14, d15, d16, d17, d18, d19, d20, d21, d22, d23, d24, v25, v26, v27, d28, d29, d30, d31] = st10x0 v1 v4 v5 v25 v26 v27 := by simp only [mask10x0, clear, List.foldl_cons, List.foldl_nil, List.set_cons_zero, List.set_cons_succ]
theorem go10x0 {E : Env} {fuel : Nat} {A : Arena} {o : Out} {k : List KC} {d0 v1 d2 d3 v4 v5 d6 d7 d8 d9 d10 d11 d12 d13 d14 d15 d16 d17 d18 d19 d20 d21 d22 d23 d24 v25 v26 v27 d28 d29 d30 d31 : AV} (h : iter (evC E fuel lp10x0) mask10x0 fuel (st10x0 v1 v4 v5 v25 v26 v27) A = some o) :
    run E fuel (.code (.loop [0, 2, 3, 6, 7, 8, 9, 10, 11, 12, 13, 14, 15, 16, 17, 18, 19, 20, 21, 22, 23, 24, 28, 29, 30, 31] lp10x0) :: k) [d0, v1, d2, d3, v4, v5, d6, d7, d8, d9, d10, d11, d12, d13, d14, d15, d16, d17, d18, d19, d20, d21, d22, d23, d24, v25, v26, v27, d28, d29, d30, d31] A = after E fuel k o := run_loopC mask10x0 _ _ (by rw [cl10x0]; exact h)
set_option maxHeartbeats 4000000 in
theorem comp10 : compFun Tryd.prog Tryd.f10 2 [0, 1, 2, 4, 5, 6, 7, 8, 9, 10, 11, 12, 13, 15, 16, 17, 18, 19, 20, 21, 22, 23, 24, 25, 76, 98, 99, 100, 101, 149, 191, 256] [14, 19, 35, 21, 36, 20, 37, 24, 38] true ([[0, 2, 3, 6, 7, 8, 9, 10, 11, 12, 13, 14, 15, 16, 17, 18, 19, 20, 21, 22, 23, 24, 28, 29, 30, 31]], [[0, 2, 3, 6, 7, 8, 9, 10, 11, 12, 13, 14, 15, 16, 17, 18, 19, 20, 21, 22, 23, 24, 28, 29, 30, 31], [0, 1, 2, 3, 5, 6, 7, 8, 9, 10, 11, 12, 13, 14, 15, 16, 17, 18, 19, 20, 21, 22, 23, 24, 25, 26, 27, 28, 29, 30, 31]]) = some mf10 := by kernel_rfl
theorem at10 : Tryd.prog.funcs[10]? = some Tryd.f10 := by kernel_rfl
def mf11 : MFun := ⟨3, 30, .seq (.region [⟨some 3, .box (.var 0), none⟩, ⟨some 4, .mv (.cst (.bool false)), none⟩]) (.seq (.region [⟨none, .call (.fn 12) [], none⟩, ⟨some 5, .mv (.tmp 0), none⟩]) (.seq (.region [⟨none, .mv (.var 1), none⟩, ⟨none, .bin .rem (.tmp 0) (.cst (.int .i64 1001)), none⟩, ⟨some 1, .mv (.tmp 1), none⟩]) (.seq (.region [⟨none, .mv (.var 2), none⟩, ⟨none, .bin .rem (.tmp 0) (.cst (.int .i64 1001)), none⟩, ⟨some 2, .mv (.tmp 1), none⟩]) (.seq (.region [⟨none, .mv (.var 1), none⟩, ⟨none, .call (.fn 18) [.tmp 0, .cst (.int .i64 1)], none⟩, ⟨none, .mv (.tmp 1), none⟩, ⟨none, .extract (.tmp 2) 0, none⟩, ⟨none, .extract (.tmp 2) 1, none⟩, ⟨some 6, .alloc 2 (.agg [.int .i64 0, .int .i64 0]), none⟩, ⟨none, .store 2 (.var 6) (.tmp 3), none⟩, ⟨some 7, .mv (.tmp 4), none⟩]) (.seq (.region [⟨none, .mv (.var 2), none⟩, ⟨none, .call (.fn 18) [.tmp 0, .cst (.int .i64 1)], none⟩, ⟨none, .mv (.tmp 1), none⟩, ⟨none, .extract (.tmp 2) 0, none⟩, ⟨none, .extract (.tmp 2) 1, none⟩, ⟨some 8, .alloc 2 (.agg [.int .i64 0, .int .i64 0]), none⟩, ⟨none, .store 2 (.var 8) (.tmp 3), none⟩, ⟨some 9, .mv (.tmp 4), none⟩]) (.seq (.region [⟨none, .load true 2 (.var 6), none⟩, ⟨none, .load true 2 (.var 8), none⟩, ⟨none, .call (.fn 26) [.tmp 0, .tmp 1], none⟩, ⟨none, .mv (.tmp 2), none⟩, ⟨none, .extract (.tmp 3) 0, none⟩, ⟨none, .extract (.tmp 3) 1, none⟩, ⟨some 10, .alloc 2 (.agg [.int .i64 0, .int .i64 0]), none⟩, ⟨none, .store 2 (.var 10) (.tmp 4), none⟩, ⟨some 11, .mv (.tmp 5), none⟩]) (.seq (.region [⟨none, .load true 2 (.var 6), none⟩, ⟨none, .load true 2 (.var 8), none⟩, ⟨none, .call (.fn 27) [.tmp 0, .tmp 1], none⟩, ⟨none, .mv (.tmp 2), none⟩, ⟨none, .extract (.tmp 3) 0, none⟩, ⟨none, .extract (.tmp 3) 1, none⟩, ⟨some 12, .alloc 2 (.agg [.int .i64 0, .int .i64 0]), none⟩, ⟨none, .store 2 (.var 12) (.tmp 4), none⟩, ⟨some 13, .mv (.tmp 5), none⟩]) (.seq (.seq (.region [⟨none, .mv (.var 7), none⟩, ⟨none, .bin .neq (.tmp 0) (.cst (.int .i64 0)), none⟩, ⟨none, .mv (.tmp 1), none⟩, ⟨none, .mv (.var 9), some (.tmp 2, false)⟩, ⟨none, .bin .neq (.tmp 3) (.cst (.int .i64 0)), some (.tmp 2, false)⟩, ⟨none, .pick (.tmp 2) (.cst (.bool true)) (.tmp 4), none⟩, ⟨none, .mv (.tmp 5), none⟩, ⟨none, .mv (.var 11), some (.tmp 6, false)⟩, ⟨none, .bin .neq (.tmp 7) (.cst (.int .i64 0)), some (.tmp 6, false)⟩, ⟨none, .pick (.tmp 6) (.cst (.bool true)) (.tmp 8), none⟩, ⟨none, .mv (.tmp 9), none⟩, ⟨none, .mv (.var 13), some (.tmp 10, false)⟩, ⟨none, .bin .neq (.tmp 11) (.cst (.int .i64 0)), some (.tmp 10, false)⟩, ⟨none, .pick (.tmp 10) (.cst (.bool true)) (.tmp 12), none⟩, ⟨none, .mv (.tmp 13), none⟩, ⟨none, .load true 2 (.var 10), some (.tmp 14, false)⟩, ⟨none, .mv (.var 1), some (.tmp 14, false)⟩, ⟨none, .mv (.var 2), some (.tmp 14, false)⟩, ⟨none, .bin .add (.tmp 16) (.tmp 17), some (.tmp 14, false)⟩, ⟨none, .call (.fn 14) [.tmp 18, .cst (.int .i64 1)], some (.tmp 14, false)⟩, ⟨none, .eqAgg true [(0, 1), (1, 1)] (.tmp 15) (.tmp 19), some (.tmp 14, false)⟩, ⟨none, .pick (.tmp 14) (.cst (.bool true)) (.tmp 20), none⟩, ⟨none, .mv (.tmp 21), none⟩, ⟨none, .load true 2 (.var 12), some (.tmp 22, false)⟩, ⟨none, .mv (.var 1), some (.tmp 22, false)⟩, ⟨none, .mv (.var 2), some (.tmp 22, false)⟩, ⟨none, .bin .mul (.tmp 24) (.tmp 25), some (.tmp 22, false)⟩, ⟨none, .call (.fn 14) [.tmp 26, .cst (.int .i64 1)], some (.tmp 22, false)⟩, ⟨none, .eqAgg true [(0, 1), (1, 1)] (.tmp 23) (.tmp 27), some (.tmp 22, false)⟩, ⟨some 24, .pick (.tmp 22) (.cst (.bool true)) (.tmp 28), none⟩]) (.cond (.var 24) (.seq (.region [⟨some 4, .mv (.cst (.bool false)), none⟩]) .ret) .skip)) (.seq (.region [⟨none, .load true 6 (.var 3), none⟩, ⟨none, .call (.fn 23) [.tmp 0], none⟩, ⟨none, .mv (.tmp 1), none⟩, ⟨none, .extract (.tmp 2) 0, none⟩, ⟨none, .extract (.tmp 2) 1, none⟩, ⟨some 14, .alloc 6 (.agg [.int .i64 0, .int .i64 0, .int .i64 0, .int .i64 0, .int .i64 0, .int .i64 0]), none⟩, ⟨none, .store 6 (.var 14) (.tmp 3), none⟩, ⟨some 15, .mv (.tmp 4), none⟩]) (.seq (.seq (.region [⟨none, .mv (.var 15), none⟩, ⟨some 25, .un .not (.tmp 0), none⟩]) (.cond (.var 25) (.seq (.region [⟨none, .mv (.var 5), none⟩, ⟨some 4, .mv (.tmp 0), none⟩]) .ret) .skip)) (.seq (.region [⟨none, .indexArr 3 2 (.var 14) (.cst (.int .i64 0)), none⟩, ⟨none, .load true 2 (.tmp 0), none⟩, ⟨none, .indexArr 3 2 (.var 14) (.cst (.int .i64 1)), none⟩, ⟨none, .load true 2 (.tmp 2), none⟩, ⟨none, .call (.fn 26) [.tmp 1, .tmp 3], none⟩, ⟨none, .mv (.tmp 4), none⟩, ⟨none, .extract (.tmp 5) 0, none⟩, ⟨none, .extract (.tmp 5) 1, none⟩, ⟨some 16, .alloc 2 (.agg [.int .i64 0, .int .i64 0]), none⟩, ⟨none, .store 2 (.var 16) (.tmp 6), none⟩, ⟨some 17, .mv (.tmp 7), none⟩]) (.seq (.seq (.region [⟨none, .mv (.var 17), none⟩, ⟨some 26, .bin .eql (.tmp 0) (.cst (.int .i64 0)), none⟩]) (.cond (.var 26) (.seq (.region [⟨none, .load true 2 (.var 16), none⟩, ⟨none, .indexArr 3 2 (.var 14) (.cst (.int .i64 1)), none⟩, ⟨none, .load true 2 (.tmp 1), none⟩, ⟨none, .call (.fn 25) [.tmp 0, .tmp 2], none⟩, ⟨none, .mv (.tmp 3), none⟩, ⟨none, .extract (.tmp 4) 0, none⟩, ⟨none, .extract (.tmp 4) 1, none⟩, ⟨some 18, .alloc 2 (.agg [.int .i64 0, .int .i64 0]), none⟩, ⟨none, .store 2 (.var 18) (.tmp 5), none⟩, ⟨some 19, .mv (.tmp 6), none⟩]) (.seq (.region [⟨none, .mv (.var 19), none⟩, ⟨none, .bin .neq (.tmp 0) (.cst (.int .i64 0)), none⟩, ⟨none, .mv (.tmp 1), none⟩, ⟨none, .load true 2 (.var 18), some (.tmp 2, false)⟩, ⟨none, .indexArr 3 2 (.var 14) (.cst (.int .i64 0)), some (.tmp 2, false)⟩, ⟨none, .load true 2 (.tmp 4), some (.tmp 2, false)⟩, ⟨none, .eqAgg true [(0, 1), (1, 1)] (.tmp 3) (.tmp 5), some (.tmp 2, false)⟩, ⟨some 27, .pick (.tmp 2) (.cst (.bool true)) (.tmp 6), none⟩]) (.cond (.var 27) (.seq (.region [⟨some 4, .mv (.cst (.bool false)), none⟩]) .ret) .skip))) .skip)) (.seq (.region [⟨none, .indexArr 3 2 (.var 14) (.cst (.int .i64 0)), none⟩, ⟨none, .load true 2 (.tmp 0), none⟩, ⟨none, .indexArr 3 2 (.var 14) (.cst (.int .i64 1)), none⟩, ⟨none, .load true 2 (.tmp 2), none⟩, ⟨none, .call (.fn 27) [.tmp 1, .tmp 3], none⟩, ⟨none, .mv (.tmp 4), none⟩, ⟨none, .extract (.tmp 5) 0, none⟩, ⟨none, .extract (.tmp 5) 1, none⟩, ⟨some 20, .alloc 2 (.agg [.int .i64 0, .int .i64 0]), none⟩, ⟨none, .store 2 (.var 20) (.tmp 6), none⟩, ⟨some 21, .mv (.tmp 7), none⟩]) (.seq (.seq (.region [⟨none, .mv (.var 21), none⟩, ⟨none, .bin .eql (.tmp 0) (.cst (.int .i64 0)), none⟩, ⟨none, .mv (.tmp 1), none⟩, ⟨none, .indexArr 3 2 (.var 14) (.cst (.int .i64 1)), some (.tmp 2, true)⟩, ⟨none, .fieldAddr 0 (.tmp 3), some (.tmp 2, true)⟩, ⟨none, .load false 1 (.tmp 4), some (.tmp 2, true)⟩, ⟨none, .bin .neq (.tmp 5) (.cst (.int .i64 0)), some (.tmp 2, true)⟩, ⟨some 28, .pick (.tmp 2) (.tmp 6) (.cst (.bool false)), none⟩]) (.cond (.var 28) (.seq (.region [⟨none, .load true 2 (.var 20), none⟩, ⟨none, .indexArr 3 2 (.var 14) (.cst (.int .i64 1)), none⟩, ⟨none, .load true 2 (.tmp 1), none⟩, ⟨none, .call (.fn 32) [.tmp 0, .tmp 2], none⟩, ⟨none, .mv (.tmp 3), none⟩, ⟨none, .extract (.tmp 4) 0, none⟩, ⟨none, .extract (.tmp 4) 1, none⟩, ⟨some 22, .alloc 2 (.agg [.int .i64 0, .int .i64 0]), none⟩, ⟨none, .store 2 (.var 22) (.tmp 5), none⟩, ⟨some 23, .mv (.tmp 6), none⟩]) (.seq (.region [⟨none, .mv (.var 23), none⟩, ⟨none, .bin .neq (.tmp 0) (.cst (.int .i64 0)), none⟩, ⟨none, .mv (.tmp 1), none⟩, ⟨none, .load true 2 (.var 22), some (.tmp 2, false)⟩, ⟨none, .indexArr 3 2 (.var 14) (.cst (.int .i64 0)), some (.tmp 2, false)⟩, ⟨none, .load true 2 (.tmp 4), some (.tmp 2, false)⟩, ⟨none, .eqAgg true [(0, 1), (1, 1)] (.tmp 3) (.tmp 5), some (.tmp 2, false)⟩, ⟨some 29, .pick (.tmp 2) (.cst (.bool true)) (.tmp 6), none⟩]) (.cond (.var 29) (.seq (.region [⟨some 4, .mv (.cst (.bool false)), none⟩]) .ret) .skip))) .skip)) (.seq (.region [⟨none, .mv (.var 5), none⟩, ⟨some 4, .mv (.tmp 0), none⟩]) .ret))))))))))))))), [.tmp 4]⟩
set_option maxHeartbeats 4000000 in
theorem comp11 : compFun Tryd.prog Tryd.f11 3 [0, 1, 2, 3, 6, 7, 8, 9, 10, 11, 12, 13, 14, 15, 16, 17, 18, 19, 20, 21, 22, 23, 24, 25, 82, 89, 100, 115, 131, 146] [14] true ([], []) = some mf11 := by kernel_rfl
theorem at11 : Tryd.prog.funcs[11]? = some Tryd.f11 := by kernel_rfl
def mf12 : MFun := ⟨0, 13, .seq (.region [⟨some 0, .mv (.cst (.bool false)), none⟩]) (.seq (.region [⟨none, .call (.fn 18) [.cst (.int .i64 6), .cst (.int .i64 (-8))], none⟩, ⟨none, .mv (.tmp 0), none⟩, ⟨none, .extract (.tmp 1) 0, none⟩, ⟨none, .extract (.tmp 1) 1, none⟩, ⟨some 1, .alloc 2 (.agg [.int .i64 0, .int .i64 0]), none⟩, ⟨none, .store 2 (.var 1) (.tmp 2), none⟩, ⟨some 2, .mv (.tmp 3), none⟩]) (.seq (.region [⟨none, .call (.fn 14) [.cst (.int .i64 1), .cst (.int .i64 6)], none⟩, ⟨none, .call (.fn 14) [.cst (.int .i64 1), .cst (.int .i64 3)], none⟩, ⟨none, .call (.fn 26) [.tmp 0, .tmp 1], none⟩, ⟨none, .mv (.tmp 2), none⟩, ⟨none, .extract (.tmp 3) 0, none⟩, ⟨none, .extract (.tmp 3) 1, none⟩, ⟨some 3, .alloc 2 (.agg [.int .i64 0, .int .i64 0]), none⟩, ⟨none, .store 2 (.var 3) (.tmp 4), none⟩, ⟨some 4, .mv (.tmp 5), none⟩]) (.seq (.region [⟨none, .call (.fn 14) [.cst (.int .i64 (-5)), .cst (.int .i64 4)], none⟩, ⟨none, .call (.fn 22) [.tmp 0, .cst (.int .i64 2)], none⟩, ⟨none, .mv (.tmp 1), none⟩, ⟨none, .extract (.tmp 2) 0, none⟩, ⟨none, .extract (.tmp 2) 1, none⟩, ⟨some 5, .alloc 2 (.agg [.int .i64 0, .int .i64 0]), none⟩, ⟨none, .store 2 (.var 5) (.tmp 3), none⟩, ⟨some 6, .mv (.tmp 4), none⟩]) (.seq (.region [⟨none, .call (.fn 14) [.cst (.int .i64 1), .cst (.int .i64 2)], none⟩, ⟨none, .call (.fn 14) [.cst (.int .i64 0), .cst (.int .i64 1)], none⟩, ⟨none, .call (.fn 32) [.tmp 0, .tmp 1], none⟩, ⟨none, .mv (.tmp 2), none⟩, ⟨none, .extract (.tmp 3) 0, none⟩, ⟨none, .extract (.tmp 3) 1, none⟩, ⟨none, .alloc 2 (.agg [.int .i64 0, .int .i64 0]), none⟩, ⟨none, .store 2 (.tmp 6) (.tmp 4), none⟩, ⟨some 7, .mv (.tmp 5), none⟩]) (.seq (.region [⟨none, .load true 2 (.var 1), none⟩, ⟨none, .call (.fn 13) [.tmp 0], none⟩, ⟨none, .mv (.tmp 1), none⟩, ⟨none, .extract (.tmp 2) 0, none⟩, ⟨none, .extract (.tmp 2) 1, none⟩, ⟨some 8, .mv (.tmp 3), none⟩, ⟨some 9, .mv (.tmp 4), none⟩]) (.seq (.region [⟨none, .call (.fn 16) [.cst (.str [45, 51, 47, 52])], none⟩, ⟨none, .mv (.tmp 0), none⟩, ⟨none, .extract (.tmp 1) 0, none⟩, ⟨none, .extract (.tmp 1) 1, none⟩, ⟨some 10, .alloc 2 (.agg [.int .i64 0, .int .i64 0]), none⟩, ⟨none, .store 2 (.var 10) (.tmp 2), none⟩, ⟨some 11, .mv (.tmp 3), none⟩]) (.seq (.region [⟨none, .call (.fn 16) [.cst (.str [54, 47, 56])], none⟩, ⟨none, .mv (.tmp 0), none⟩, ⟨none, .extract (.tmp 1) 0, none⟩, ⟨none, .extract (.tmp 1) 1, none⟩, ⟨none, .alloc 2 (.agg [.int .i64 0, .int .i64 0]), none⟩, ⟨none, .store 2 (.tmp 4) (.tmp 2), none⟩, ⟨some 12, .mv (.tmp 3), none⟩]) (.seq (.region [⟨none, .load true 2 (.var 1), none⟩, ⟨none, .call (.fn 14) [.cst (.int .i64 (-3)), .cst (.int .i64 4)], none⟩, ⟨none, .eqAgg false [(0, 1), (1, 1)] (.tmp 0) (.tmp 1), none⟩, ⟨none, .mv (.tmp 2), none⟩, ⟨none, .mv (.var 2), some (.tmp 3, true)⟩, ⟨none, .bin .eql (.tmp 4) (.cst (.int .i64 0)), some (.tmp 3, true)⟩, ⟨none, .pick (.tmp 3) (.tmp 5) (.cst (.bool false)), none⟩, ⟨none, .mv (.tmp 6), none⟩, ⟨none, .load true 2 (.var 3), some (.tmp 7, true)⟩, ⟨none, .call (.fn 14) [.cst (.int .i64 1), .cst (.int .i64 2)], some (.tmp 7, true)⟩, ⟨none, .eqAgg false [(0, 1), (1, 1)] (.tmp 8) (.tmp 9), some (.tmp 7, true)⟩, ⟨none, .pick (.tmp 7) (.tmp 10) (.cst (.bool false)), none⟩, ⟨none, .mv (.tmp 11), none⟩, ⟨none, .mv (.var 4), some (.tmp 12, true)⟩, ⟨none, .bin .eql (.tmp 13) (.cst (.int .i64 0)), some (.tmp 12, true)⟩, ⟨none, .pick (.tmp 12) (.tmp 14) (.cst (.bool false)), none⟩, ⟨none, .mv (.tmp 15), none⟩, ⟨none, .load true 2 (.var 5), some (.tmp 16, true)⟩, ⟨none, .call (.fn 14) [.cst (.int .i64 (-1)), .cst (.int .i64 1)], some (.tmp 16, true)⟩, ⟨none, .eqAgg false [(0, 1), (1, 1)] (.tmp 17) (.tmp 18), some (.tmp 16, true)⟩, ⟨none, .pick (.tmp 16) (.tmp 19) (.cst (.bool false)), none⟩, ⟨none, .mv (.tmp 20), none⟩, ⟨none, .mv (.var 6), some (.tmp 21, true)⟩, ⟨none, .bin .eql (.tmp 22) (.cst (.int .i64 0)), some (.tmp 21, true)⟩, ⟨none, .pick (.tmp 21) (.tmp 23) (.cst (.bool false)), none⟩, ⟨none, .mv (.tmp 24), none⟩, ⟨none, .mv (.var 7), some (.tmp 25, true)⟩, ⟨none, .bin .eql (.tmp 26) (.cst (.int .i64 30)), some (.tmp 25, true)⟩, ⟨none, .pick (.tmp 25) (.tmp 27) (.cst (.bool false)), none⟩, ⟨none, .mv (.tmp 28), none⟩, ⟨none, .mv (.var 8), some (.tmp 29, true)⟩, ⟨none, .bin .eql (.tmp 30) (.cst (.str [45, 51, 47, 52])), some (.tmp 29, true)⟩, ⟨none, .pick (.tmp 29) (.tmp 31) (.cst (.bool false)), none⟩, ⟨none, .mv (.tmp 32), none⟩, ⟨none, .mv (.var 9), some (.tmp 33, true)⟩, ⟨none, .bin .eql (.tmp 34) (.cst (.int .i64 0)), some (.tmp 33, true)⟩, ⟨none, .pick (.tmp 33) (.tmp 35) (.cst (.bool false)), none⟩, ⟨none, .mv (.tmp 36), none⟩, ⟨none, .load true 2 (.var 10), some (.tmp 37, true)⟩, ⟨none, .load true 2 (.var 1), some (.tmp 37, true)⟩, ⟨none, .eqAgg false [(0, 1), (1, 1)] (.tmp 38) (.tmp 39), some (.tmp 37, true)⟩, ⟨none, .pick (.tmp 37) (.tmp 40) (.cst (.bool false)), none⟩, ⟨none, .mv (.tmp 41), none⟩, ⟨none, .mv (.var 11), some (.tmp 42, true)⟩, ⟨none, .bin .eql (.tmp 43) (.cst (.int .i64 0)), some (.tmp 42, true)⟩, ⟨none, .pick (.tmp 42) (.tmp 44) (.cst (.bool false)), none⟩, ⟨none, .mv (.tmp 45), none⟩, ⟨none, .mv (.var 12), some (.tmp 46, true)⟩, ⟨none, .bin .eql (.tmp 47) (.cst (.int .i64 30)), some (.tmp 46, true)⟩, ⟨none, .pick (.tmp 46) (.tmp 48) (.cst (.bool false)), none⟩, ⟨none, .mv (.tmp 49), none⟩, ⟨none, .load true 2 (.var 1), some (.tmp 50, true)⟩, ⟨none, .load true 2 (.var 3), some (.tmp 50, true)⟩, ⟨none, .call (.fn 21) [.tmp 51, .tmp 52], some (.tmp 50, true)⟩, ⟨none, .bin .eql (.tmp 53) (.cst (.int .i64 (-1))), some (.tmp 50, true)⟩, ⟨none, .pick (.tmp 50) (.tmp 54) (.cst (.bool false)), none⟩, ⟨none, .mv (.tmp 55), none⟩, ⟨none, .load true 2 (.var 1), some (.tmp 56, true)⟩, ⟨none, .call (.fn 20) [.tmp 57], some (.tmp 56, true)⟩, ⟨none, .bin .eql (.tmp 58) (.cst (.int .i64 (-1))), some (.tmp 56, true)⟩, ⟨none, .pick (.tmp 56) (.tmp 59) (.cst (.bool false)), none⟩, ⟨none, .mv (.tmp 60), none⟩, ⟨none, .call (.fn 14) [.cst (.int .i64 5), .cst (.int .i64 2)], some (.tmp 61, true)⟩, ⟨none, .call (.fn 14) [.cst (.int .i64 (-2)), .cst (.int .i64 1)], some (.tmp 61, true)⟩, ⟨none, .call (.fn 14) [.cst (.int .i64 2), .cst (.int .i64 1)], some (.tmp 61, true)⟩, ⟨none, .call (.fn 24) [.tmp 62, .tmp 63, .tmp 64], some (.tmp 61, true)⟩, ⟨none, .call (.fn 14) [.cst (.int .i64 2), .cst (.int .i64 1)], some (.tmp 61, true)⟩, ⟨none, .eqAgg false [(0, 1), (1, 1)] (.tmp 65) (.tmp 66), some (.tmp 61, true)⟩, ⟨none, .pick (.tmp 61) (.tmp 67) (.cst (.bool false)), none⟩, ⟨none, .mv (.tmp 68), none⟩, ⟨none, .load true 2 (.var 1), some (.tmp 69, true)⟩, ⟨none, .call (.fn 19) [.tmp 70], some (.tmp 69, true)⟩, ⟨none, .pick (.tmp 69) (.tmp 71) (.cst (.bool false)), none⟩, ⟨none, .mv (.tmp 72), none⟩, ⟨none, .call (.fn 14) [.cst (.int .i64 2), .cst (.int .i64 4)], some (.tmp 73, true)⟩, ⟨none, .call (.fn 19) [.tmp 74], some (.tmp 73, true)⟩, ⟨none, .un .not (.tmp 75), some (.tmp 73, true)⟩, ⟨none, .pick (.tmp 73) (.tmp 76) (.cst (.bool false)), none⟩, ⟨some 0, .mv (.tmp 77), none⟩]) .ret)))))))), [.tmp 0]⟩
set_option maxHeartbeats 4000000 in
theorem comp12 : compFun Tryd.prog Tryd.f12 0 [0, 1, 2, 3, 4, 5, 6, 8, 9, 10, 11, 12, 14] [14, 21, 20, 24, 19] true ([], []) = some mf12 := by kernel_rfl
theorem at12 : Tryd.prog.funcs[12]? = some Tryd.f12 := by kernel_rfl
def mf13 : MFun := ⟨1, 7, .seq (.region [⟨some 1, .box (.var 0), none⟩, ⟨some 2, .mv (.cst (.str [])), none⟩, ⟨some 3, .mv (.cst (.int .i64 0)), none⟩]) (.seq (.seq (.region [⟨none, .load true 2 (.var 1), none⟩, ⟨none, .call (.fn 19) [.tmp 0], none⟩, ⟨some 5, .un .not (.tmp 1), none⟩]) (.cond (.var 5) (.seq (.region [⟨some 2, .mv (.cst (.str [])), none⟩, ⟨some 3, .mv (.cst (.int .i64 30)), none⟩]) .ret) .skip)) (.seq (.region [⟨none, .fieldAddr 0 (.var 1), none⟩, ⟨none, .load false 1 (.tmp 0), none⟩, ⟨none, .call (.fn 39) [.tmp 1], none⟩, ⟨some 4, .mv (.tmp 2), none⟩]) (.seq (.seq (.region [⟨none, .fieldAddr 1 (.var 1), none⟩, ⟨none, .load false 1 (.tmp 0), none⟩, ⟨some 6, .bin .gtr (.tmp 1) (.cst (.int .i64 1)), none⟩]) (.cond (.var 6) (.region [⟨none, .mv (.var 4), none⟩, ⟨none, .fieldAddr 1 (.var 1), none⟩, ⟨none, .load false 1 (.tmp 1), none⟩, ⟨none, .call (.fn 39) [.tmp 2], none⟩, ⟨none, .bin .add (.cst (.str [47])) (.tmp 3), none⟩, ⟨none, .bin .add (.tmp 0) (.tmp 4), none⟩, ⟨some 4, .mv (.tmp 5), none⟩]) .skip)) (.seq (.region [⟨none, .mv (.var 4), none⟩, ⟨some 2, .mv (.tmp 0), none⟩, ⟨some 3, .mv (.cst (.int .i64 0)), none⟩]) .ret)))), [.tmp 2, .tmp 3]⟩
set_option maxHeartbeats 4000000 in
theorem comp13 : compFun Tryd.prog Tryd.f13 1 [0, 1, 2, 3, 4, 7, 13] [] true ([], []) = some mf13 := by kernel_rfl
theorem at13 : Tryd.prog.funcs[13]? = some Tryd.f13 := by kernel_rfl
def mf14 : MFun := ⟨2, 3, .seq (.region [⟨some 2, .alloc 2 (.agg [.int .i64 0, .int .i64 0]), none⟩]) (.seq (.region [⟨none, .mv (.var 0), none⟩, ⟨none, .mv (.var 1), none⟩, ⟨none, .build [.int .i64 0, .int .i64 0] [(0, (1, .tmp 0)), (1, (1, .tmp 1))], none⟩, ⟨none, .store 2 (.var 2) (.tmp 2), none⟩]) .ret), [.cell 2 true 2]⟩
set_option maxHeartbeats 4000000 in
theorem comp14 : compFun Tryd.prog Tryd.f14 2 [0, 1, 4] [] true ([], []) = some mf14 := by kernel_rfl
theorem at14 : Tryd.prog.funcs[14]? = some Tryd.f14 := by kernel_rfl
def mf15 : MFun := ⟨1, 6, .seq (.region [⟨some 1, .box (.var 0), none⟩, ⟨some 2, .mv (.cst (.str [])), none⟩, ⟨some 3, .mv (.cst (.int .i64 0)), none⟩]) (.seq (.region [⟨none, .load true 2 (.var 1), none⟩, ⟨none, .call (.fn 35) [.tmp 0], none⟩, ⟨some 4, .mv (.tmp 1), none⟩]) (.seq (.seq (.region [⟨none, .mv (.var 4), none⟩, ⟨some 5, .un .not (.tmp 0), none⟩]) (.cond (.var 5) (.seq (.region [⟨some 2, .mv (.cst (.str [])), none⟩, ⟨some 3, .mv (.cst (.int .i64 30)), none⟩]) .ret) .skip)) (.seq (.region [⟨none, .load true 2 (.var 1), none⟩, ⟨none, .call (.fn 40) [.tmp 0], none⟩, ⟨some 2, .mv (.tmp 1), none⟩, ⟨some 3, .mv (.cst (.int .i64 0)), none⟩]) .ret))), [.tmp 2, .tmp 3]⟩
set_option maxHeartbeats 4000000 in
theorem comp15 : compFun Tryd.prog Tryd.f15 1 [0, 1, 2, 3, 4, 8] [] true ([], []) = some mf15 := by kernel_rfl
theorem at15 : Tryd.prog.funcs[15]? = some Tryd.f15 := by kernel_rfl
def mf16 : MFun := ⟨1, 16, .seq (.region [⟨some 1, .alloc 2 (.agg [.int .i64 0, .int .i64 0]), none⟩, ⟨some 2, .mv (.cst (.int .i64 0)), none⟩]) (.seq (.region [⟨none, .mv (.var 0), none⟩, ⟨none, .call (.fn 41) [.tmp 0, .cst (.str [47])], none⟩, ⟨none, .mv (.tmp 1), none⟩, ⟨none, .extract (.tmp 2) 0, none⟩, ⟨none, .extract (.tmp 2) 1, none⟩, ⟨none, .extract (.tmp 2) 2, none⟩, ⟨some 3, .mv (.tmp 3), none⟩, ⟨some 4, .mv (.tmp 4), none⟩, ⟨some 5, .mv (.tmp 5), none⟩]) (.seq (.seq (.region [⟨none, .mv (.var 5), none⟩, ⟨some 13, .un .not (.tmp 0), none⟩]) (.cond (.var 13) (.region [⟨some 4, .mv (.cst (.str [49])), none⟩]) .skip)) (.seq (.region [⟨none, .mv (.var 3), none⟩, ⟨none, .call (.fn 42) [.tmp 0], none⟩, ⟨none, .mv (.tmp 1), none⟩, ⟨none, .extract (.tmp 2) 0, none⟩, ⟨none, .extract (.tmp 2) 1, none⟩, ⟨some 6, .mv (.tmp 3), none⟩, ⟨some 7, .mv (.tmp 4), none⟩]) (.seq (.region [⟨none, .mv (.var 4), none⟩, ⟨none, .call (.fn 42) [.tmp 0], none⟩, ⟨none, .mv (.tmp 1), none⟩, ⟨none, .extract (.tmp 2) 0, none⟩, ⟨none, .extract (.tmp 2) 1, none⟩, ⟨some 8, .mv (.tmp 3), none⟩, ⟨some 9, .mv (.tmp 4), none⟩]) (.seq (.seq (.region [⟨none, .mv (.var 7), none⟩, ⟨none, .mv (.var 9), none⟩, ⟨none, .buildF 1 [.tmp 0, .tmp 1], none⟩, ⟨none, .call (.fn 43) [.tmp 2], none⟩, ⟨some 14, .eqNil 4 true (.tmp 3), none⟩]) (.cond (.var 14) (.seq (.region [⟨none, .build [.int .i64 0, .int .i64 0] [], none⟩, ⟨none, .store 2 (.var 1) (.tmp 0), none⟩, ⟨some 2, .mv (.cst (.int .i64 30)), none⟩]) .ret) .skip)) (.seq (.region [⟨none, .mv (.var 6), none⟩, ⟨none, .mv (.var 8), none⟩, ⟨none, .build [.int .i64 0, .int .i64 0] [(0, (1, .tmp 0)), (1, (1, .tmp 1))], none⟩, ⟨some 10, .alloc 2 (.agg [.int .i64 0, .int .i64 0]), none⟩, ⟨none, .store 2 (.var 10) (.tmp 2), none⟩]) (.seq (.seq (.region [⟨none, .load true 2 (.var 10), none⟩, ⟨none, .call (.fn 13) [.tmp 0], none⟩, ⟨none, .mv (.tmp 1), none⟩, ⟨none, .extract (.tmp 2) 0, none⟩, ⟨none, .extract (.tmp 2) 1, none⟩, ⟨some 11, .mv (.tmp 3), none⟩, ⟨some 12, .mv (.tmp 4), none⟩]) (.seq (.region [⟨none, .mv (.var 12), none⟩, ⟨none, .bin .neq (.tmp 0) (.cst (.int .i64 0)), none⟩, ⟨none, .mv (.tmp 1), none⟩, ⟨none, .mv (.var 11), some (.tmp 2, false)⟩, ⟨none, .mv (.var 0), some (.tmp 2, false)⟩, ⟨none, .bin .neq (.tmp 3) (.tmp 4), some (.tmp 2, false)⟩, ⟨some 15, .pick (.tmp 2) (.cst (.bool true)) (.tmp 5), none⟩]) (.cond (.var 15) (.seq (.region [⟨none, .build [.int .i64 0, .int .i64 0] [], none⟩, ⟨none, .store 2 (.var 1) (.tmp 0), none⟩, ⟨some 2, .mv (.cst (.int .i64 30)), none⟩]) .ret) .skip))) (.seq (.region [⟨none, .load true 2 (.var 10), none⟩, ⟨none, .store 2 (.var 1) (.tmp 0), none⟩, ⟨some 2, .mv (.cst (.int .i64 0)), none⟩]) .ret)))))))), [.cell 1 true 2, .tmp 2]⟩
set_option maxHeartbeats 4000000 in
theorem comp16 : compFun Tryd.prog Tryd.f16 1 [0, 2, 3, 4, 5, 6, 7, 8, 9, 10, 11, 12, 13, 21, 36, 52] [] true ([], []) = some mf16 := by kernel_rfl
theorem at16 : Tryd.prog.funcs[16]? = some Tryd.f16 := by kernel_rfl
def lp17x0 : MC := .seq (.seq (.region [⟨none, .mv (.var 5), none⟩, ⟨some 8, .bin .geq (.tmp 0) (.cst (.int .i64 0)), none⟩]) (.cond (.var 8) .skip (.exit 0))) (.seq (.seq (.block 1 (.seq (.region [⟨none, .mv (.var 0), none⟩, ⟨none, .mv (.var 5), none⟩, ⟨none, .indexStr (.tmp 0) (.tmp 1), none⟩, ⟨some 9, .bin .eql (.tmp 2) (.cst (.int .u8 47)), none⟩]) (.cond (.var 9) (.region [⟨none, .mv (.var 5), none⟩, ⟨some 4, .mv (.tmp 0), none⟩]) .skip))) (.kill [2, 6, 7, 8, 9, 10, 11])) (.region [⟨none, .mv (.var 5), none⟩, ⟨none, .bin .sub (.tmp 0) (.cst (.int .i64 1)), none⟩, ⟨some 5, .mv (.tmp 1), none⟩]))
def mf17 : MFun := ⟨1, 12, .seq (.region [⟨some 1, .alloc 2 (.agg [.int .i64 0, .int .i64 0]), none⟩, ⟨some 2, .mv (.cst (.int .i64 0)), none⟩]) (.seq (.seq (.region [⟨none, .mv (.var 0), none⟩, ⟨none, .lenStr (.tmp 0), none⟩, ⟨some 7, .bin .gtr (.tmp 1) (.cst (.int .i64 22)), none⟩]) (.cond (.var 7) (.seq (.region [⟨none, .build [.int .i64 0, .int .i64 0] [], none⟩, ⟨none, .store 2 (.var 1) (.tmp 0), none⟩, ⟨some 2, .mv (.cst (.int .i64 30)), none⟩]) .ret) .skip)) (.seq (.region [⟨none, .build [.int .i64 0, .int .i64 0] [(1, (1, .cst (.int .i64 1)))], none⟩, ⟨some 3, .alloc 2 (.agg [.int .i64 0, .int .i64 0]), none⟩, ⟨none, .store 2 (.var 3) (.tmp 0), none⟩]) (.seq (.region [⟨none, .mv (.var 0), none⟩, ⟨none, .lenStr (.tmp 0), none⟩, ⟨some 4, .mv (.tmp 1), none⟩]) (.seq (.seq (.region [⟨none, .mv (.var 0), none⟩, ⟨none, .lenStr (.tmp 0), none⟩, ⟨none, .bin .sub (.tmp 1) (.cst (.int .i64 1)), none⟩, ⟨some 5, .mv (.tmp 2), none⟩]) (.seq (.block 0 (.loop [2, 6, 7, 8, 9, 10, 11] lp17x0)) (.kill [2, 5, 6, 7, 8, 9, 10, 11]))) (.seq (.region [⟨none, .mv (.var 0), none⟩, ⟨none, .mv (.var 4), none⟩, ⟨none, .minmax false (.tmp 1) [.cst (.int .i64 11)], none⟩, ⟨none, .sliceStr (.tmp 0) none (some (.tmp 2)), none⟩, ⟨none, .call (.fn 44) [.tmp 3], none⟩, ⟨none, .fieldAddr 0 (.var 3), none⟩, ⟨none, .store 1 (.tmp 5) (.tmp 4), none⟩]) (.seq (.seq (.region [⟨none, .mv (.var 4), none⟩, ⟨none, .mv (.var 0), none⟩, ⟨none, .lenStr (.tmp 1), none⟩, ⟨some 10, .bin .lss (.tmp 0) (.tmp 2), none⟩]) (.cond (.var 10) (.region [⟨none, .mv (.var 0), none⟩, ⟨none, .mv (.var 4), none⟩, ⟨none, .bin .add (.tmp 1) (.cst (.int .i64 1)), none⟩, ⟨none, .mv (.var 0), none⟩, ⟨none, .lenStr (.tmp 3), none⟩, ⟨none, .mv (.var 4), none⟩, ⟨none, .bin .add (.tmp 5) (.cst (.int .i64 12)), none⟩, ⟨none, .minmax false (.tmp 4) [.tmp 6], none⟩, ⟨none, .sliceStr (.tmp 0) (some (.tmp 2)) (some (.tmp 7)), none⟩, ⟨none, .call (.fn 44) [.tmp 8], none⟩, ⟨none, .fieldAddr 1 (.var 3), none⟩, ⟨none, .store 1 (.tmp 10) (.tmp 9), none⟩]) .skip)) (.seq (.region [⟨none, .load true 2 (.var 3), none⟩, ⟨none, .call (.fn 35) [.tmp 0], none⟩, ⟨some 6, .mv (.tmp 1), none⟩]) (.seq (.seq (.region [⟨none, .mv (.var 6), none⟩, ⟨none, .un .not (.tmp 0), none⟩, ⟨none, .mv (.tmp 1), none⟩, ⟨none, .load true 2 (.var 3), some (.tmp 2, false)⟩, ⟨none, .call (.fn 40) [.tmp 3], some (.tmp 2, false)⟩, ⟨none, .mv (.var 0), some (.tmp 2, false)⟩, ⟨none, .bin .neq (.tmp 4) (.tmp 5), some (.tmp 2, false)⟩, ⟨some 11, .pick (.tmp 2) (.cst (.bool true)) (.tmp 6), none⟩]) (.cond (.var 11) (.seq (.region [⟨none, .build [.int .i64 0, .int .i64 0] [], none⟩, ⟨none, .store 2 (.var 1) (.tmp 0), none⟩, ⟨some 2, .mv (.cst (.int .i64 30)), none⟩]) .ret) .skip)) (.seq (.region [⟨none, .load true 2 (.var 3), none⟩, ⟨none, .store 2 (.var 1) (.tmp 0), none⟩, ⟨some 2, .mv (.cst (.int .i64 0)), none⟩]) .ret))))))))), [.cell 1 true 2, .tmp 2]⟩
def mask17x0 : List Nat := [2, 6, 7, 8, 9, 10, 11]
abbrev st17x0 (v0 v1 v3 v4 v5 : AV) : List AV := [v0, v1, .undef, v3, v4, v5, .undef, .undef, .undef, .undef, .undef, .undef]
theorem cl17x0 {v0 v1 d2 v3 v4 v5 d6 d7 d8 d9 d10 d11 : AV} : clear mask17x0 [v0, v1, d2, v3, v4, v5, d6, d7, d8, d9, d10, d11] = st17x0 v0 v1 v3 v4 v5 := by simp only [mask17x0, clear, List.foldl_cons, List.foldl_nil, List.set_cons_zero, List.set_cons_succ]
theorem go17x0 {E : Env} {fuel : Nat} {A : Arena} {o : Out} {k : List KC} {v0 v1 d2 v3 v4 v5 d6 d7 d8 d9 d10 d11 : AV} (h : iter (evC E fuel lp17x0) mask17x0 fuel (st17x0 v0 v1 v3 v4 v5) A = some o) :
    run E fuel (.code (.loop [2, 6, 7, 8, 9, 10, 11] lp17x0) :: k) [v0, v1, d2, v3, v4, v5, d6, d7, d8, d9, d10, d11] A = after E fuel k o := run_loopC mask17x0 _ _ (by rw [cl17x0]; exact h)
set_option maxHeartbeats 4000000 in
theorem comp17 : compFun Tryd.prog Tryd.f17 1 [0, 2, 3, 4, 5, 6, 7, 10, 19, 25, 36, 57] [] true ([[2, 6, 7, 8, 9, 10, 11]], [[2, 6, 7, 8, 9, 10, 11], [2, 5, 6, 7, 8, 9, 10, 11]]) = some mf17 := by kernel_rfl
theorem at17 : Tryd.prog.funcs[17]? = some Tryd.f17 := by kernel_rfl
def mf18 : MFun := ⟨2, 11, .seq (.region [⟨some 2, .alloc 2 (.agg [.int .i64 0, .int .i64 0]), none⟩, ⟨some 3, .mv (.cst (.int .i64 0)), none⟩]) (.seq (.seq (.region [⟨none, .mv (.var 1), none⟩, ⟨some 8, .bin .eql (.tmp 0) (.cst (.int .i64 0)), none⟩]) (.cond (.var 8) (.seq (.region [⟨none, .build [.int .i64 0, .int .i64 0] [], none⟩, ⟨none, .store 2 (.var 2) (.tmp 0), none⟩, ⟨some 3, .mv (.cst (.int .i64 30)), none⟩]) .ret) .skip)) (.seq (.region [⟨none, .mv (.var 0), none⟩, ⟨none, .call (.fn 46) [.tmp 0], none⟩, ⟨none, .mv (.var 1), none⟩, ⟨none, .call (.fn 46) [.tmp 2], none⟩, ⟨none, .call (.fn 45) [.tmp 1, .tmp 3], none⟩, ⟨some 4, .mv (.tmp 4), none⟩]) (.seq (.region [⟨none, .mv (.var 0), none⟩, ⟨none, .call (.fn 46) [.tmp 0], none⟩, ⟨none, .mv (.var 4), none⟩, ⟨none, .bin .quo (.tmp 1) (.tmp 2), none⟩, ⟨none, .mv (.var 1), none⟩, ⟨none, .call (.fn 46) [.tmp 4], none⟩, ⟨none, .mv (.var 4), none⟩, ⟨none, .bin .quo (.tmp 5) (.tmp 6), none⟩, ⟨some 5, .mv (.tmp 3), none⟩, ⟨some 6, .mv (.tmp 7), none⟩]) (.seq (.seq (.region [⟨none, .mv (.var 5), none⟩, ⟨none, .mv (.var 6), none⟩, ⟨none, .minmax true (.tmp 0) [.tmp 1], none⟩, ⟨some 9, .bin .gtr (.tmp 2) (.cst (.int .u64 1000000000)), none⟩]) (.cond (.var 9) (.seq (.region [⟨none, .build [.int .i64 0, .int .i64 0] [], none⟩, ⟨none, .store 2 (.var 2) (.tmp 0), none⟩, ⟨some 3, .mv (.cst (.int .i64 30)), none⟩]) .ret) .skip)) (.seq (.region [⟨none, .mv (.var 5), none⟩, ⟨none, .convInt .i64 (.tmp 0), none⟩, ⟨none, .mv (.var 6), none⟩, ⟨none, .convInt .i64 (.tmp 2), none⟩, ⟨none, .build [.int .i64 0, .int .i64 0] [(0, (1, .tmp 1)), (1, (1, .tmp 3))], none⟩, ⟨some 7, .alloc 2 (.agg [.int .i64 0, .int .i64 0]), none⟩, ⟨none, .store 2 (.var 7) (.tmp 4), none⟩]) (.seq (.seq (.region [⟨none, .mv (.var 0), none⟩, ⟨none, .bin .lss (.tmp 0) (.cst (.int .i64 0)), none⟩, ⟨none, .mv (.var 1), none⟩, ⟨none, .bin .lss (.tmp 2) (.cst (.int .i64 0)), none⟩, ⟨some 10, .eqBool true (.tmp 1) (.tmp 3), none⟩]) (.cond (.var 10) (.region [⟨none, .fieldAddr 0 (.var 7), none⟩, ⟨none, .load false 1 (.tmp 0), none⟩, ⟨none, .un .neg (.tmp 1), none⟩, ⟨none, .fieldAddr 0 (.var 7), none⟩, ⟨none, .store 1 (.tmp 3) (.tmp 2), none⟩]) .skip)) (.seq (.region [⟨none, .load true 2 (.var 7), none⟩, ⟨none, .store 2 (.var 2) (.tmp 0), none⟩, ⟨some 3, .mv (.cst (.int .i64 0)), none⟩]) .ret))))))), [.cell 2 true 2, .tmp 3]⟩
set_option maxHeartbeats 4000000 in
theorem comp18 : compFun Tryd.prog Tryd.f18 2 [0, 1, 4, 5, 6, 7, 8, 9, 11, 29, 40] [46] true ([], []) = some mf18 := by kernel_rfl
theorem at18 : Tryd.prog.funcs[18]? = some Tryd.f18 := by kernel_rfl
def mf19 : MFun := ⟨1, 3, .seq (.region [⟨some 1, .box (.var 0), none⟩, ⟨some 2, .mv (.cst (.bool false)), none⟩]) (.seq (.region [⟨none, .fieldAddr 1 (.var 1), none⟩, ⟨none, .load false 1 (.tmp 0), none⟩, ⟨none, .bin .gtr (.tmp 1) (.cst (.int .i64 0)), none⟩, ⟨none, .mv (.tmp 2), none⟩, ⟨none, .fieldAddr 1 (.var 1), some (.tmp 3, true)⟩, ⟨none, .load false 1 (.tmp 4), some (.tmp 3, true)⟩, ⟨none, .bin .leq (.tmp 5) (.cst (.int .i64 1000000000)), some (.tmp 3, true)⟩, ⟨none, .pick (.tmp 3) (.tmp 6) (.cst (.bool false)), none⟩, ⟨none, .mv (.tmp 7), none⟩, ⟨none, .fieldAddr 0 (.var 1), some (.tmp 8, true)⟩, ⟨none, .load false 1 (.tmp 9), some (.tmp 8, true)⟩, ⟨none, .call (.fn 46) [.tmp 10], some (.tmp 8, true)⟩, ⟨none, .bin .leq (.tmp 11) (.cst (.int .u64 1000000000)), some (.tmp 8, true)⟩, ⟨none, .pick (.tmp 8) (.tmp 12) (.cst (.bool false)), none⟩, ⟨none, .mv (.tmp 13), none⟩, ⟨none, .fieldAddr 0 (.var 1), some (.tmp 14, true)⟩, ⟨none, .load false 1 (.tmp 15), some (.tmp 14, true)⟩, ⟨none, .call (.fn 46) [.tmp 16], some (.tmp 14, true)⟩, ⟨none, .fieldAddr 1 (.var 1), some (.tmp 14, true)⟩, ⟨none, .load false 1 (.tmp 18), some (.tmp 14, true)⟩, ⟨none, .call (.fn 46) [.tmp 19], some (.tmp 14, true)⟩, ⟨none, .call (.fn 45) [.tmp 17, .tmp 20], some (.tmp 14, true)⟩, ⟨none, .bin .eql (.tmp 21) (.cst (.int .u64 1)), some (.tmp 14, true)⟩, ⟨none, .pick (.tmp 14) (.tmp 22) (.cst (.bool false)), none⟩, ⟨some 2, .mv (.tmp 23), none⟩]) .ret), [.tmp 2]⟩
set_option maxHeartbeats 4000000 in
theorem comp19 : compFun Tryd.prog Tryd.f19 1 [0, 1, 2] [46, 45] true ([], []) = some mf19 := by kernel_rfl
theorem at19 : Tryd.prog.funcs[19]? = some Tryd.f19 := by kernel_rfl
def mf20 : MFun := ⟨1, 4, .seq (.region [⟨some 1, .box (.var 0), none⟩, ⟨some 2, .mv (.cst (.int .i64 0)), none⟩]) (.seq (.seq (.region [⟨none, .load true 2 (.var 1), none⟩, ⟨none, .call (.fn 19) [.tmp 0], none⟩, ⟨some 3, .un .not (.tmp 1), none⟩]) (.cond (.var 3) (.seq (.region [⟨some 2, .mv (.cst (.int .i64 0)), none⟩]) .ret) .skip)) (.seq (.region [⟨none, .fieldAddr 0 (.var 1), none⟩, ⟨none, .load false 1 (.tmp 0), none⟩, ⟨none, .fieldAddr 1 (.var 1), none⟩, ⟨none, .load false 1 (.tmp 2), none⟩, ⟨none, .call (.fn 47) [.tmp 1, .tmp 3], none⟩, ⟨some 2, .mv (.tmp 4), none⟩]) .ret)), [.tmp 2]⟩
set_option maxHeartbeats 4000000 in
theorem comp20 : compFun Tryd.prog Tryd.f20 1 [0, 1, 2, 5] [] true ([], []) = some mf20 := by kernel_rfl
theorem at20 : Tryd.prog.funcs[20]? = some Tryd.f20 := by kernel_rfl
def mf21 : MFun := ⟨2, 6, .seq (.region [⟨some 2, .box (.var 0), none⟩, ⟨some 3, .box (.var 1), none⟩, ⟨some 4, .mv (.cst (.int .i64 0)), none⟩]) (.seq (.seq (.region [⟨none, .load true 2 (.var 2), none⟩, ⟨none, .call (.fn 19) [.tmp 0], none⟩, ⟨none, .un .not (.tmp 1), none⟩, ⟨none, .mv (.tmp 2), none⟩, ⟨none, .load true 2 (.var 3), some (.tmp 3, false)⟩, ⟨none, .call (.fn 19) [.tmp 4], some (.tmp 3, false)⟩, ⟨none, .un .not (.tmp 5), some (.tmp 3, false)⟩, ⟨some 5, .pick (.tmp 3) (.cst (.bool true)) (.tmp 6), none⟩]) (.cond (.var 5) (.seq (.region [⟨some 4, .mv (.cst (.int .i64 0)), none⟩]) .ret) .skip)) (.seq (.region [⟨none, .fieldAddr 0 (.var 2), none⟩, ⟨none, .load false 1 (.tmp 0), none⟩, ⟨none, .fieldAddr 1 (.var 3), none⟩, ⟨none, .load false 1 (.tmp 2), none⟩, ⟨none, .bin .mul (.tmp 1) (.tmp 3), none⟩, ⟨none, .fieldAddr 0 (.var 3), none⟩, ⟨none, .load false 1 (.tmp 5), none⟩, ⟨none, .fieldAddr 1 (.var 2), none⟩, ⟨none, .load false 1 (.tmp 7), none⟩, ⟨none, .bin .mul (.tmp 6) (.tmp 8), none⟩, ⟨none, .call (.fn 48) [.tmp 4, .tmp 9], none⟩, ⟨some 4, .mv (.tmp 10), none⟩]) .ret)), [.tmp 4]⟩
set_option maxHeartbeats 4000000 in
theorem comp21 : compFun Tryd.prog Tryd.f21 2 [0, 1, 2, 3, 4, 12] [] true ([], []) = some mf21 := by kernel_rfl
theorem at21 : Tryd.prog.funcs[21]? = some Tryd.f21 := by kernel_rfl
def mf22 : MFun := ⟨2, 7, .seq (.region [⟨some 2, .box (.var 0), none⟩, ⟨some 3, .box (.var 1), none⟩, ⟨some 4, .alloc 2 (.agg [.int .i64 0, .int .i64 0]), none⟩, ⟨some 5, .mv (.cst (.int .i64 0)), none⟩]) (.seq (.seq (.region [⟨none, .load false 1 (.var 3), none⟩, ⟨none, .bin .lss (.tmp 0) (.cst (.int .i64 1)), none⟩, ⟨none, .mv (.tmp 1), none⟩, ⟨none, .load false 1 (.var 3), some (.tmp 2, false)⟩, ⟨none, .bin .gtr (.tmp 3) (.cst (.int .i64 1000000000)), some (.tmp 2, false)⟩, ⟨some 6, .pick (.tmp 2) (.cst (.bool true)) (.tmp 4), none⟩]) (.cond (.var 6) (.seq (.region [⟨none, .build [.int .i64 0, .int .i64 0] [], none⟩, ⟨none, .store 2 (.var 4) (.tmp 0), none⟩, ⟨some 5, .mv (.cst (.int .i64 30)), none⟩]) .ret) .skip)) (.seq (.region [⟨none, .makeFunc (.func 50) [] [.var 2, .var 3], none⟩, ⟨none, .call (.fn 49) [.tmp 0], none⟩, ⟨none, .extract (.tmp 1) 0, none⟩, ⟨none, .extract (.tmp 1) 1, none⟩, ⟨none, .store 2 (.var 4) (.tmp 2), none⟩, ⟨some 5, .mv (.tmp 3), none⟩]) .ret)), [.cell 4 true 2, .tmp 5]⟩
set_option maxHeartbeats 4000000 in
theorem comp22 : compFun Tryd.prog Tryd.f22 2 [0, 1, 2, 3, 4, 5, 11] [] true ([], []) = some mf22 := by kernel_rfl
theorem at22 : Tryd.prog.funcs[22]? = some Tryd.f22 := by kernel_rfl
def lp23x0 : MC := .seq (.seq (.region [⟨none, .mv (.var 5), none⟩, ⟨some 8, .bin .lss (.tmp 0) (.cst (.int .i64 3)), none⟩]) (.cond (.var 8) .skip (.exit 0))) (.seq (.seq (.block 1 (.seq (.regionD [18] [⟨none, .mv (.var 5), none⟩, ⟨none, .indexArr 3 2 (.var 1) (.tmp 0), none⟩, ⟨none, .indexArr 2 1 (.tmp 1) (.cst (.int .i64 0)), none⟩, ⟨none, .load false 1 (.tmp 2), none⟩, ⟨none, .mv (.var 5), none⟩, ⟨none, .indexArr 3 2 (.var 1) (.tmp 4), none⟩, ⟨none, .indexArr 2 1 (.tmp 5) (.cst (.int .i64 1)), none⟩, ⟨none, .load false 1 (.tmp 6), none⟩, ⟨none, .call (.fn 18) [.tmp 3, .tmp 7], none⟩, ⟨none, .mv (.tmp 8), none⟩, ⟨none, .extract (.tmp 9) 0, none⟩, ⟨none, .extract (.tmp 9) 1, none⟩, ⟨some 6, .alloc 2 (.agg [.int .i64 0, .int .i64 0]), none⟩, ⟨none, .store 2 (.var 6) (.tmp 10), none⟩, ⟨some 7, .mv (.tmp 11), none⟩] [(1, 12), (2, 12), (3, 12), (5, 12), (6, 12), (7, 12), (8, 12)]) (.seq (.seq (.region [⟨none, .mv (.var 7), none⟩, ⟨some 9, .bin .neq (.tmp 0) (.cst (.int .i64 0)), none⟩]) (.cond (.var 9) (.seq (.region [⟨none, .load true 6 (.var 4), none⟩, ⟨none, .store 6 (.var 2) (.tmp 0), none⟩, ⟨some 3, .mv (.cst (.bool false)), none⟩]) .ret) .skip)) (.region [⟨none, .mv (.var 5), none⟩, ⟨none, .load true 2 (.var 6), none⟩, ⟨none, .indexArr 3 2 (.var 4) (.tmp 0), none⟩, ⟨none, .store 2 (.tmp 2) (.tmp 1), none⟩])))) (.kill [0, 3, 6, 7, 8, 9])) (.region [⟨none, .mv (.var 5), none⟩, ⟨none, .bin .add (.tmp 0) (.cst (.int .i64 1)), none⟩, ⟨some 5, .mv (.tmp 1), none⟩]))
def mf23 : MFun := ⟨1, 10, .seq (.region [⟨some 1, .box (.var 0), none⟩, ⟨some 2, .alloc 6 (.agg [.int .i64 0, .int .i64 0, .int .i64 0, .int .i64 0, .int .i64 0, .int .i64 0]), none⟩, ⟨some 3, .mv (.cst (.bool false)), none⟩]) (.seq (.region [⟨some 4, .alloc 6 (.agg [.int .i64 0, .int .i64 0, .int .i64 0, .int .i64 0, .int .i64 0, .int .i64 0]), none⟩]) (.seq (.seq (.region [⟨some 5, .mv (.cst (.int .i64 0)), none⟩]) (.seq (.block 0 (.loop [0, 3, 6, 7, 8, 9] lp23x0)) (.kill [0, 1, 3, 5, 6, 7, 8, 9]))) (.seq (.region [⟨none, .load true 6 (.var 4), none⟩, ⟨none, .store 6 (.var 2) (.tmp 0), none⟩, ⟨some 3, .mv (.cst (.bool true)), none⟩]) .ret))), [.cell 2 true 6, .tmp 3]⟩
def mask23x0 : List Nat := [0, 3, 6, 7, 8, 9]
abbrev st23x0 (v1 v2 v4 v5 : AV) : List AV := [.undef, v1, v2, .undef, v4, v5, .undef, .undef, .undef, .undef]
theorem cl23x0 {d0 v1 v2 d3 v4 v5 d6 d7 d8 d9 : AV} : clear mask23x0 [d0, v1, v2, d3, v4, v5, d6, d7, d8, d9] = st23x0 v1 v2 v4 v5 := by simp only [mask23x0, clear, List.foldl_cons, List.foldl_nil, List.set_cons_zero, List.set_cons_succ]
theorem go23x0 {E : Env} {fuel : Nat} {A : Arena} {o : Out} {k : List KC} {d0 v1 v2 d3 v4 v5 d6 d7 d8 d9 : AV} (h : iter (evC E fuel lp23x0) mask23x0 fuel (st23x0 v1 v2 v4 v5) A = some o) :
    run E fuel (.code (.loop [0, 3, 6, 7, 8, 9] lp23x0) :: k) [d0, v1, v2, d3, v4, v5, d6, d7, d8, d9] A = after E fuel k o := run_loopC mask23x0 _ _ (by rw [cl23x0]; exact h)
set_option maxHeartbeats 4000000 in
theorem comp23 : compFun Tryd.prog Tryd.f23 1 [0, 1, 2, 3, 4, 5, 6, 7, 9, 25] [18] true ([[0, 3, 6, 7, 8, 9]], [[0, 3, 6, 7, 8, 9], [0, 1, 3, 5, 6, 7, 8, 9]]) = some mf23 := by kernel_rfl
theorem at23 : Tryd.prog.funcs[23]? = some Tryd.f23 := by kernel_rfl
def mf24 : MFun := ⟨3, 10, .seq (.region [⟨some 3, .box (.var 0), none⟩, ⟨some 4, .box (.var 1), none⟩, ⟨some 5, .box (.var 2), none⟩, ⟨some 6, .alloc 2 (.agg [.int .i64 0, .int .i64 0]), none⟩]) (.seq (.seq (.block 0 (.seq (.seq (.region [⟨none, .load true 2 (.var 3), none⟩, ⟨none, .call (.fn 19) [.tmp 0], none⟩, ⟨none, .un .not (.tmp 1), none⟩, ⟨some 7, .mv (.tmp 2), none⟩]) (.cond (.var 7) .skip (.seq (.region [⟨none, .load true 2 (.var 4), none⟩, ⟨none, .call (.fn 19) [.tmp 0], none⟩, ⟨none, .un .not (.tmp 1), none⟩, ⟨some 7, .mv (.tmp 2), none⟩]) (.cond (.var 7) .skip (.region [⟨none, .load true 2 (.var 5), none⟩, ⟨none, .call (.fn 19) [.tmp 0], none⟩, ⟨none, .un .not (.tmp 1), none⟩, ⟨some 7, .mv (.tmp 2), none⟩]))))) (.cond (.var 7) (.seq (.region [⟨none, .build [.int .i64 0, .int .i64 0] [], none⟩, ⟨none, .store 2 (.var 6) (.tmp 0), none⟩]) .ret) (.seq (.region [⟨none, .load true 2 (.var 3), none⟩, ⟨none, .load true 2 (.var 4), none⟩, ⟨none, .call (.fn 21) [.tmp 0, .tmp 1], none⟩, ⟨none, .bin .lss (.tmp 2) (.cst (.int .i64 0)), none⟩, ⟨some 8, .mv (.tmp 3), none⟩]) (.cond (.var 8) (.seq (.region [⟨none, .load true 2 (.var 4), none⟩, ⟨none, .store 2 (.var 6) (.tmp 0), none⟩]) .ret) (.seq (.region [⟨none, .load true 2 (.var 3), none⟩, ⟨none, .load true 2 (.var 5), none⟩, ⟨none, .call (.fn 21) [.tmp 0, .tmp 1], none⟩, ⟨none, .bin .gtr (.tmp 2) (.cst (.int .i64 0)), none⟩, ⟨some 9, .mv (.tmp 3), none⟩]) (.cond (.var 9) (.seq (.region [⟨none, .load true 2 (.var 5), none⟩, ⟨none, .store 2 (.var 6) (.tmp 0), none⟩]) .ret) .skip))))))) (.kill [0, 1, 2, 4, 5, 7, 8, 9])) (.seq (.region [⟨none, .load true 2 (.var 3), none⟩, ⟨none, .store 2 (.var 6) (.tmp 0), none⟩]) .ret)), [.cell 6 true 2]⟩
set_option maxHeartbeats 4000000 in
theorem comp24 : compFun Tryd.prog Tryd.f24 3 [0, 1, 2, 3, 4, 5, 6, 7, 18, 24] [] true ([], [[0, 1, 2, 4, 5, 7, 8, 9]]) = some mf24 := by kernel_rfl
theorem at24 : Tryd.prog.funcs[24]? = some Tryd.f24 := by kernel_rfl
def mf25 : MFun := ⟨2, 6, .seq (.region [⟨some 2, .box (.var 0), none⟩, ⟨some 3, .box (.var 1), none⟩, ⟨some 4, .alloc 2 (.agg [.int .i64 0, .int .i64 0]), none⟩, ⟨some 5, .mv (.cst (.int .i64 0)), none⟩]) (.seq (.region [⟨none, .load true 2 (.var 2), none⟩, ⟨none, .fieldAddr 0 (.var 3), none⟩, ⟨none, .load false 1 (.tmp 1), none⟩, ⟨none, .un .neg (.tmp 2), none⟩, ⟨none, .fieldAddr 1 (.var 3), none⟩, ⟨none, .load false 1 (.tmp 4), none⟩, ⟨none, .build [.int .i64 0, .int .i64 0] [(0, (1, .tmp 3)), (1, (1, .tmp 5))], none⟩, ⟨none, .call (.fn 26) [.tmp 0, .tmp 6], none⟩, ⟨none, .extract (.tmp 7) 0, none⟩, ⟨none, .extract (.tmp 7) 1, none⟩, ⟨none, .store 2 (.var 4) (.tmp 8), none⟩, ⟨some 5, .mv (.tmp 9), none⟩]) .ret), [.cell 4 true 2, .tmp 5]⟩
set_option maxHeartbeats 4000000 in
theorem comp25 : compFun Tryd.prog Tryd.f25 2 [0, 1, 2, 3, 4, 5] [] true ([], []) = some mf25 := by kernel_rfl
theorem at25 : Tryd.prog.funcs[25]? = some Tryd.f25 := by kernel_rfl
def mf26 : MFun := ⟨2, 6, .seq (.region [⟨some 2, .box (.var 0), none⟩, ⟨some 3, .box (.var 1), none⟩, ⟨some 4, .alloc 2 (.agg [.int .i64 0, .int .i64 0]), none⟩, ⟨some 5, .mv (.cst (.int .i64 0)), none⟩]) (.seq (.region [⟨none, .makeFunc (.func 52) [] [.var 2, .var 3], none⟩, ⟨none, .call (.fn 49) [.tmp 0], none⟩, ⟨none, .extract (.tmp 1) 0, none⟩, ⟨none, .extract (.tmp 1) 1, none⟩, ⟨none, .store 2 (.var 4) (.tmp 2), none⟩, ⟨some 5, .mv (.tmp 3), none⟩]) .ret), [.cell 4 true 2, .tmp 5]⟩
set_option maxHeartbeats 4000000 in
theorem comp26 : compFun Tryd.prog Tryd.f26 2 [0, 1, 2, 3, 4, 5] [] true ([], []) = some mf26 := by kernel_rfl
theorem at26 : Tryd.prog.funcs[26]? = some Tryd.f26 := by kernel_rfl
def mf27 : MFun := ⟨2, 6, .seq (.region [⟨some 2, .box (.var 0), none⟩, ⟨some 3, .box (.var 1), none⟩, ⟨some 4, .alloc 2 (.agg [.int .i64 0, .int .i64 0]), none⟩, ⟨some 5, .mv (.cst (.int .i64 0)), none⟩]) (.seq (.region [⟨none, .makeFunc (.func 53) [] [.var 2, .var 3], none⟩, ⟨none, .call (.fn 49) [.tmp 0], none⟩, ⟨none, .extract (.tmp 1) 0, none⟩, ⟨none, .extract (.tmp 1) 1, none⟩, ⟨none, .store 2 (.var 4) (.tmp 2), none⟩, ⟨some 5, .mv (.tmp 3), none⟩]) .ret), [.cell 4 true 2, .tmp 5]⟩
set_option maxHeartbeats 4000000 in
theorem comp27 : compFun Tryd.prog Tryd.f27 2 [0, 1, 2, 3, 4, 5] [] true ([], []) = some mf27 := by kernel_rfl
theorem at27 : Tryd.prog.funcs[27]? = some Tryd.f27 := by kernel_rfl
def mf28 : MFun := ⟨2, 11, .seq (.region [⟨some 2, .alloc 2 (.agg [.int .i64 0, .int .i64 0]), none⟩, ⟨some 3, .mv (.cst (.int .i64 0)), none⟩]) (.seq (.seq (.region [⟨none, .mv (.var 1), none⟩, ⟨some 8, .bin .eql (.tmp 0) (.cst (.int .i64 0)), none⟩]) (.cond (.var 8) (.seq (.region [⟨none, .build [.int .i64 0, .int .i64 0] [], none⟩, ⟨none, .store 2 (.var 2) (.tmp 0), none⟩, ⟨some 3, .mv (.cst (.int .i64 30)), none⟩]) .ret) .skip)) (.seq (.region [⟨none, .mv (.var 0), none⟩, ⟨none, .call (.fn 55) [.tmp 0], none⟩, ⟨none, .mv (.var 1), none⟩, ⟨none, .call (.fn 55) [.tmp 2], none⟩, ⟨none, .call (.fn 54) [.tmp 1, .tmp 3], none⟩, ⟨some 4, .mv (.tmp 4), none⟩]) (.seq (.region [⟨none, .mv (.var 0), none⟩, ⟨none, .call (.fn 55) [.tmp 0], none⟩, ⟨none, .mv (.var 4), none⟩, ⟨none, .bin .quo (.tmp 1) (.tmp 2), none⟩, ⟨some 5, .mv (.tmp 3), none⟩]) (.seq (.region [⟨none, .mv (.var 1), none⟩, ⟨none, .call (.fn 55) [.tmp 0], none⟩, ⟨none, .mv (.var 4), none⟩, ⟨none, .bin .quo (.tmp 1) (.tmp 2), none⟩, ⟨some 6, .mv (.tmp 3), none⟩]) (.seq (.seq (.region [⟨none, .mv (.var 5), none⟩, ⟨none, .bin .gtr (.tmp 0) (.cst (.int .u64 1000000000)), none⟩, ⟨none, .mv (.tmp 1), none⟩, ⟨none, .mv (.var 6), some (.tmp 2, false)⟩, ⟨none, .bin .gtr (.tmp 3) (.cst (.int .u64 1000000000)), some (.tmp 2, false)⟩, ⟨some 9, .pick (.tmp 2) (.cst (.bool true)) (.tmp 4), none⟩]) (.cond (.var 9) (.seq (.region [⟨none, .build [.int .i64 0, .int .i64 0] [], none⟩, ⟨none, .store 2 (.var 2) (.tmp 0), none⟩, ⟨some 3, .mv (.cst (.int .i64 30)), none⟩]) .ret) .skip)) (.seq (.region [⟨none, .mv (.var 5), none⟩, ⟨none, .convInt .i64 (.tmp 0), none⟩, ⟨none, .mv (.var 6), none⟩, ⟨none, .convInt .i64 (.tmp 2), none⟩, ⟨none, .build [.int .i64 0, .int .i64 0] [(0, (1, .tmp 1)), (1, (1, .tmp 3))], none⟩, ⟨some 7, .alloc 2 (.agg [.int .i64 0, .int .i64 0]), none⟩, ⟨none, .store 2 (.var 7) (.tmp 4), none⟩]) (.seq (.seq (.region [⟨none, .mv (.var 0), none⟩, ⟨none, .bin .lss (.tmp 0) (.cst (.int .i64 0)), none⟩, ⟨none, .mv (.var 1), none⟩, ⟨none, .bin .lss (.tmp 2) (.cst (.int .i64 0)), none⟩, ⟨some 10, .eqBool true (.tmp 1) (.tmp 3), none⟩]) (.cond (.var 10) (.region [⟨none, .fieldAddr 0 (.var 7), none⟩, ⟨none, .load false 1 (.tmp 0), none⟩, ⟨none, .un .neg (.tmp 1), none⟩, ⟨none, .fieldAddr 0 (.var 7), none⟩, ⟨none, .store 1 (.tmp 3) (.tmp 2), none⟩]) .skip)) (.seq (.region [⟨none, .load true 2 (.var 7), none⟩, ⟨none, .store 2 (.var 2) (.tmp 0), none⟩, ⟨some 3, .mv (.cst (.int .i64 0)), none⟩]) .ret)))))))), [.cell 2 true 2, .tmp 3]⟩
set_option maxHeartbeats 4000000 in
theorem comp28 : compFun Tryd.prog Tryd.f28 2 [0, 1, 4, 5, 6, 7, 8, 9, 11, 31, 42] [] true ([], []) = some mf28 := by kernel_rfl
theorem at28 : Tryd.prog.funcs[28]? = some Tryd.f28 := by kernel_rfl
def mf29 : MFun := ⟨2, 8, .seq (.region [⟨some 2, .box (.var 0), none⟩, ⟨some 3, .box (.var 1), none⟩, ⟨some 4, .alloc 2 (.agg [.int .i64 0, .int .i64 0]), none⟩, ⟨some 5, .mv (.cst (.int .i64 0)), none⟩]) (.seq (.region [⟨none, .load true 2 (.var 2), none⟩, ⟨none, .load true 2 (.var 3), none⟩, ⟨none, .call (.fn 56) [.tmp 0, .tmp 1], none⟩, ⟨some 6, .mv (.tmp 2), none⟩]) (.seq (.seq (.region [⟨none, .mv (.var 6), none⟩, ⟨some 7, .un .not (.tmp 0), none⟩]) (.cond (.var 7) (.seq (.region [⟨none, .build [.int .i64 0, .int .i64 0] [], none⟩, ⟨none, .store 2 (.var 4) (.tmp 0), none⟩, ⟨some 5, .mv (.cst (.int .i64 30)), none⟩]) .ret) .skip)) (.seq (.region [⟨none, .fieldAddr 0 (.var 2), none⟩, ⟨none, .load false 1 (.tmp 0), none⟩, ⟨none, .fieldAddr 1 (.var 3), none⟩, ⟨none, .load false 1 (.tmp 2), none⟩, ⟨none, .bin .mul (.tmp 1) (.tmp 3), none⟩, ⟨none, .fieldAddr 0 (.var 3), none⟩, ⟨none, .load false 1 (.tmp 5), none⟩, ⟨none, .fieldAddr 1 (.var 2), none⟩, ⟨none, .load false 1 (.tmp 7), none⟩, ⟨none, .bin .mul (.tmp 6) (.tmp 8), none⟩, ⟨none, .bin .add (.tmp 4) (.tmp 9), none⟩, ⟨none, .fieldAddr 1 (.var 2), none⟩, ⟨none, .load false 1 (.tmp 11), none⟩, ⟨none, .fieldAddr 1 (.var 3), none⟩, ⟨none, .load false 1 (.tmp 13), none⟩, ⟨none, .bin .mul (.tmp 12) (.tmp 14), none⟩, ⟨none, .call (.fn 28) [.tmp 10, .tmp 15], none⟩, ⟨none, .extract (.tmp 16) 0, none⟩, ⟨none, .extract (.tmp 16) 1, none⟩, ⟨none, .store 2 (.var 4) (.tmp 17), none⟩, ⟨some 5, .mv (.tmp 18), none⟩]) .ret))), [.cell 4 true 2, .tmp 5]⟩
set_option maxHeartbeats 4000000 in
theorem comp29 : compFun Tryd.prog Tryd.f29 2 [0, 1, 2, 3, 4, 5, 6, 11] [] true ([], []) = some mf29 := by kernel_rfl
theorem at29 : Tryd.prog.funcs[29]? = some Tryd.f29 := by kernel_rfl
def mf30 : MFun := ⟨2, 8, .seq (.region [⟨some 2, .box (.var 0), none⟩, ⟨some 3, .box (.var 1), none⟩, ⟨some 4, .alloc 2 (.agg [.int .i64 0, .int .i64 0]), none⟩, ⟨some 5, .mv (.cst (.int .i64 0)), none⟩]) (.seq (.region [⟨none, .load true 2 (.var 2), none⟩, ⟨none, .load true 2 (.var 3), none⟩, ⟨none, .call (.fn 56) [.tmp 0, .tmp 1], none⟩, ⟨some 6, .mv (.tmp 2), none⟩]) (.seq (.seq (.region [⟨none, .mv (.var 6), none⟩, ⟨some 7, .un .not (.tmp 0), none⟩]) (.cond (.var 7) (.seq (.region [⟨none, .build [.int .i64 0, .int .i64 0] [], none⟩, ⟨none, .store 2 (.var 4) (.tmp 0), none⟩, ⟨some 5, .mv (.cst (.int .i64 30)), none⟩]) .ret) .skip)) (.seq (.region [⟨none, .fieldAddr 0 (.var 2), none⟩, ⟨none, .load false 1 (.tmp 0), none⟩, ⟨none, .fieldAddr 1 (.var 3), none⟩, ⟨none, .load false 1 (.tmp 2), none⟩, ⟨none, .bin .mul (.tmp 1) (.tmp 3), none⟩, ⟨none, .fieldAddr 0 (.var 3), none⟩, ⟨none, .load false 1 (.tmp 5), none⟩, ⟨none, .fieldAddr 1 (.var 2), none⟩, ⟨none, .load false 1 (.tmp 7), none⟩, ⟨none, .bin .mul (.tmp 6) (.tmp 8), none⟩, ⟨none, .bin .sub (.tmp 4) (.tmp 9), none⟩, ⟨none, .fieldAddr 1 (.var 2), none⟩, ⟨none, .load false 1 (.tmp 11), none⟩, ⟨none, .fieldAddr 1 (.var 3), none⟩, ⟨none, .load false 1 (.tmp 13), none⟩, ⟨none, .bin .mul (.tmp 12) (.tmp 14), none⟩, ⟨none, .call (.fn 28) [.tmp 10, .tmp 15], none⟩, ⟨none, .extract (.tmp 16) 0, none⟩, ⟨none, .extract (.tmp 16) 1, none⟩, ⟨none, .store 2 (.var 4) (.tmp 17), none⟩, ⟨some 5, .mv (.tmp 18), none⟩]) .ret))), [.cell 4 true 2, .tmp 5]⟩
set_option maxHeartbeats 4000000 in
theorem comp30 : compFun Tryd.prog Tryd.f30 2 [0, 1, 2, 3, 4, 5, 6, 11] [] true ([], []) = some mf30 := by kernel_rfl
theorem at30 : Tryd.prog.funcs[30]? = some Tryd.f30 := by kernel_rfl
def mf31 : MFun := ⟨2, 8, .seq (.region [⟨some 2, .box (.var 0), none⟩, ⟨some 3, .box (.var 1), none⟩, ⟨some 4, .alloc 2 (.agg [.int .i64 0, .int .i64 0]), none⟩, ⟨some 5, .mv (.cst (.int .i64 0)), none⟩]) (.seq (.region [⟨none, .load true 2 (.var 2), none⟩, ⟨none, .load true 2 (.var 3), none⟩, ⟨none, .call (.fn 56) [.tmp 0, .tmp 1], none⟩, ⟨some 6, .mv (.tmp 2), none⟩]) (.seq (.seq (.region [⟨none, .mv (.var 6), none⟩, ⟨some 7, .un .not (.tmp 0), none⟩]) (.cond (.var 7) (.seq (.region [⟨none, .build [.int .i64 0, .int .i64 0] [], none⟩, ⟨none, .store 2 (.var 4) (.tmp 0), none⟩, ⟨some 5, .mv (.cst (.int .i64 30)), none⟩]) .ret) .skip)) (.seq (.region [⟨none, .fieldAddr 0 (.var 2), none⟩, ⟨none, .load false 1 (.tmp 0), none⟩, ⟨none, .fieldAddr 0 (.var 3), none⟩, ⟨none, .load false 1 (.tmp 2), none⟩, ⟨none, .bin .mul (.tmp 1) (.tmp 3), none⟩, ⟨none, .fieldAddr 1 (.var 2), none⟩, ⟨none, .load false 1 (.tmp 5), none⟩, ⟨none, .fieldAddr 1 (.var 3), none⟩, ⟨none, .load false 1 (.tmp 7), none⟩, ⟨none, .bin .mul (.tmp 6) (.tmp 8), none⟩, ⟨none, .call (.fn 28) [.tmp 4, .tmp 9], none⟩, ⟨none, .extract (.tmp 10) 0, none⟩, ⟨none, .extract (.tmp 10) 1, none⟩, ⟨none, .store 2 (.var 4) (.tmp 11), none⟩, ⟨some 5, .mv (.tmp 12), none⟩]) .ret))), [.cell 4 true 2, .tmp 5]⟩
set_option maxHeartbeats 4000000 in
theorem comp31 : compFun Tryd.prog Tryd.f31 2 [0, 1, 2, 3, 4, 5, 6, 11] [] true ([], []) = some mf31 := by kernel_rfl
theorem at31 : Tryd.prog.funcs[31]? = some Tryd.f31 := by kernel_rfl
def mf32 : MFun := ⟨2, 6, .seq (.region [⟨some 2, .box (.var 0), none⟩, ⟨some 3, .box (.var 1), none⟩, ⟨some 4, .alloc 2 (.agg [.int .i64 0, .int .i64 0]), none⟩, ⟨some 5, .mv (.cst (.int .i64 0)), none⟩]) (.seq (.region [⟨none, .makeFunc (.func 57) [] [.var 2, .var 3], none⟩, ⟨none, .call (.fn 49) [.tmp 0], none⟩, ⟨none, .extract (.tmp 1) 0, none⟩, ⟨none, .extract (.tmp 1) 1, none⟩, ⟨none, .store 2 (.var 4) (.tmp 2), none⟩, ⟨some 5, .mv (.tmp 3), none⟩]) .ret), [.cell 4 true 2, .tmp 5]⟩
set_option maxHeartbeats 4000000 in
theorem comp32 : compFun Tryd.prog Tryd.f32 2 [0, 1, 2, 3, 4, 5] [] true ([], []) = some mf32 := by kernel_rfl
theorem at32 : Tryd.prog.funcs[32]? = some Tryd.f32 := by kernel_rfl
def mf33 : MFun := ⟨2, 8, .seq (.region [⟨some 2, .box (.var 0), none⟩, ⟨some 3, .box (.var 1), none⟩, ⟨some 4, .alloc 2 (.agg [.int .i64 0, .int .i64 0]), none⟩, ⟨some 5, .mv (.cst (.int .i64 0)), none⟩]) (.seq (.region [⟨none, .load true 2 (.var 2), none⟩, ⟨none, .load true 2 (.var 3), none⟩, ⟨none, .call (.fn 56) [.tmp 0, .tmp 1], none⟩, ⟨some 6, .mv (.tmp 2), none⟩]) (.seq (.seq (.region [⟨none, .mv (.var 6), none⟩, ⟨some 7, .un .not (.tmp 0), none⟩]) (.cond (.var 7) (.seq (.region [⟨none, .build [.int .i64 0, .int .i64 0] [], none⟩, ⟨none, .store 2 (.var 4) (.tmp 0), none⟩, ⟨some 5, .mv (.cst (.int .i64 30)), none⟩]) .ret) .skip)) (.seq (.region [⟨none, .fieldAddr 0 (.var 2), none⟩, ⟨none, .load false 1 (.tmp 0), none⟩, ⟨none, .fieldAddr 1 (.var 3), none⟩, ⟨none, .load false 1 (.tmp 2), none⟩, ⟨none, .bin .mul (.tmp 1) (.tmp 3), none⟩, ⟨none, .fieldAddr 1 (.var 2), none⟩, ⟨none, .load false 1 (.tmp 5), none⟩, ⟨none, .fieldAddr 0 (.var 3), none⟩, ⟨none, .load false 1 (.tmp 7), none⟩, ⟨none, .bin .mul (.tmp 6) (.tmp 8), none⟩, ⟨none, .call (.fn 28) [.tmp 4, .tmp 9], none⟩, ⟨none, .extract (.tmp 10) 0, none⟩, ⟨none, .extract (.tmp 10) 1, none⟩, ⟨none, .store 2 (.var 4) (.tmp 11), none⟩, ⟨some 5, .mv (.tmp 12), none⟩]) .ret))), [.cell 4 true 2, .tmp 5]⟩
set_option maxHeartbeats 4000000 in
theorem comp33 : compFun Tryd.prog Tryd.f33 2 [0, 1, 2, 3, 4, 5, 6, 11] [] true ([], []) = some mf33 := by kernel_rfl
theorem at33 : Tryd.prog.funcs[33]? = some Tryd.f33 := by kernel_rfl
def mf34 : MFun := ⟨2, 7, .seq (.region [⟨some 2, .box (.var 0), none⟩, ⟨some 3, .alloc 2 (.agg [.int .i64 0, .int .i64 0]), none⟩, ⟨some 4, .mv (.cst (.int .i64 0)), none⟩]) (.seq (.region [⟨none, .load true 2 (.var 2), none⟩, ⟨none, .call (.fn 35) [.tmp 0], none⟩, ⟨some 5, .mv (.tmp 1), none⟩]) (.seq (.seq (.region [⟨none, .mv (.var 5), none⟩, ⟨none, .un .not (.tmp 0), none⟩, ⟨none, .mv (.tmp 1), none⟩, ⟨none, .mv (.var 1), some (.tmp 2, false)⟩, ⟨none, .bin .lss (.tmp 3) (.cst (.int .i64 1)), some (.tmp 2, false)⟩, ⟨none, .pick (.tmp 2) (.cst (.bool true)) (.tmp 4), none⟩, ⟨none, .mv (.tmp 5), none⟩, ⟨none, .mv (.var 1), some (.tmp 6, false)⟩, ⟨none, .bin .gtr (.tmp 7) (.cst (.int .i64 1000000000)), some (.tmp 6, false)⟩, ⟨some 6, .pick (.tmp 6) (.cst (.bool true)) (.tmp 8), none⟩]) (.cond (.var 6) (.seq (.region [⟨none, .build [.int .i64 0, .int .i64 0] [], none⟩, ⟨none, .store 2 (.var 3) (.tmp 0), none⟩, ⟨some 4, .mv (.cst (.int .i64 30)), none⟩]) .ret) .skip)) (.seq (.region [⟨none, .fieldAddr 0 (.var 2), none⟩, ⟨none, .load false 1 (.tmp 0), none⟩, ⟨none, .bin .mul (.cst (.int .i64 2)) (.tmp 1), none⟩, ⟨none, .mv (.var 1), none⟩, ⟨none, .bin .mul (.tmp 2) (.tmp 3), none⟩, ⟨none, .fieldAddr 1 (.var 2), none⟩, ⟨none, .load false 1 (.tmp 5), none⟩, ⟨none, .bin .add (.tmp 4) (.tmp 6), none⟩, ⟨none, .fieldAddr 1 (.var 2), none⟩, ⟨none, .load false 1 (.tmp 8), none⟩, ⟨none, .bin .mul (.cst (.int .i64 2)) (.tmp 9), none⟩, ⟨none, .call (.fn 58) [.tmp 7, .tmp 10], none⟩, ⟨none, .mv (.var 1), none⟩, ⟨none, .call (.fn 28) [.tmp 11, .tmp 12], none⟩, ⟨none, .extract (.tmp 13) 0, none⟩, ⟨none, .extract (.tmp 13) 1, none⟩, ⟨none, .store 2 (.var 3) (.tmp 14), none⟩, ⟨some 4, .mv (.tmp 15), none⟩]) .ret))), [.cell 3 true 2, .tmp 4]⟩
set_option maxHeartbeats 4000000 in
theorem comp34 : compFun Tryd.prog Tryd.f34 2 [0, 1, 2, 4, 5, 6, 18] [] true ([], []) = some mf34 := by kernel_rfl
theorem at34 : Tryd.prog.funcs[34]? = some Tryd.f34 := by kernel_rfl
def mf35 : MFun := ⟨1, 3, .seq (.region [⟨some 1, .box (.var 0), none⟩, ⟨some 2, .mv (.cst (.bool false)), none⟩]) (.seq (.region [⟨none, .fieldAddr 1 (.var 1), none⟩, ⟨none, .load false 1 (.tmp 0), none⟩, ⟨none, .bin .geq (.tmp 1) (.cst (.int .i64 1)), none⟩, ⟨none, .mv (.tmp 2), none⟩, ⟨none, .fieldAddr 1 (.var 1), some (.tmp 3, true)⟩, ⟨none, .load false 1 (.tmp 4), some (.tmp 3, true)⟩, ⟨none, .bin .leq (.tmp 5) (.cst (.int .i64 1000000000)), some (.tmp 3, true)⟩, ⟨none, .pick (.tmp 3) (.tmp 6) (.cst (.bool false)), none⟩, ⟨none, .mv (.tmp 7), none⟩, ⟨none, .fieldAddr 0 (.var 1), some (.tmp 8, true)⟩, ⟨none, .load false 1 (.tmp 9), some (.tmp 8, true)⟩, ⟨none, .bin .geq (.tmp 10) (.cst (.int .i64 (-1000000000))), some (.tmp 8, true)⟩, ⟨none, .pick (.tmp 8) (.tmp 11) (.cst (.bool false)), none⟩, ⟨none, .mv (.tmp 12), none⟩, ⟨none, .fieldAddr 0 (.var 1), some (.tmp 13, true)⟩, ⟨none, .load false 1 (.tmp 14), some (.tmp 13, true)⟩, ⟨none, .bin .leq (.tmp 15) (.cst (.int .i64 1000000000)), some (.tmp 13, true)⟩, ⟨none, .pick (.tmp 13) (.tmp 16) (.cst (.bool false)), none⟩, ⟨none, .mv (.tmp 17), none⟩, ⟨none, .fieldAddr 0 (.var 1), some (.tmp 18, true)⟩, ⟨none, .load false 1 (.tmp 19), some (.tmp 18, true)⟩, ⟨none, .call (.fn 55) [.tmp 20], some (.tmp 18, true)⟩, ⟨none, .fieldAddr 1 (.var 1), some (.tmp 18, true)⟩, ⟨none, .load false 1 (.tmp 22), some (.tmp 18, true)⟩, ⟨none, .call (.fn 55) [.tmp 23], some (.tmp 18, true)⟩, ⟨none, .call (.fn 54) [.tmp 21, .tmp 24], some (.tmp 18, true)⟩, ⟨none, .bin .eql (.tmp 25) (.cst (.int .u64 1)), some (.tmp 18, true)⟩, ⟨none, .pick (.tmp 18) (.tmp 26) (.cst (.bool false)), none⟩, ⟨some 2, .mv (.tmp 27), none⟩]) .ret), [.tmp 2]⟩
set_option maxHeartbeats 4000000 in
theorem comp35 : compFun Tryd.prog Tryd.f35 1 [0, 1, 2] [55, 54] true ([], []) = some mf35 := by kernel_rfl
theorem at35 : Tryd.prog.funcs[35]? = some Tryd.f35 := by kernel_rfl
def mf36 : MFun := ⟨2, 10, .seq (.region [⟨some 2, .box (.var 0), none⟩, ⟨some 3, .box (.var 1), none⟩, ⟨some 4, .mv (.cst (.int .i64 0)), none⟩]) (.seq (.region [⟨none, .load true 2 (.var 2), none⟩, ⟨none, .load true 2 (.var 3), none⟩, ⟨none, .call (.fn 56) [.tmp 0, .tmp 1], none⟩, ⟨some 5, .mv (.tmp 2), none⟩]) (.seq (.region [⟨none, .fieldAddr 0 (.var 2), none⟩, ⟨none, .load false 1 (.tmp 0), none⟩, ⟨none, .fieldAddr 1 (.var 3), none⟩, ⟨none, .load false 1 (.tmp 2), none⟩, ⟨none, .bin .mul (.tmp 1) (.tmp 3), none⟩, ⟨some 6, .mv (.tmp 4), none⟩]) (.seq (.region [⟨none, .fieldAddr 0 (.var 3), none⟩, ⟨none, .load false 1 (.tmp 0), none⟩, ⟨none, .fieldAddr 1 (.var 2), none⟩, ⟨none, .load false 1 (.tmp 2), none⟩, ⟨none, .bin .mul (.tmp 1) (.tmp 3), none⟩, ⟨some 7, .mv (.tmp 4), none⟩]) (.seq (.seq (.region [⟨none, .mv (.var 5), none⟩, ⟨none, .un .not (.tmp 0), none⟩, ⟨none, .mv (.tmp 1), none⟩, ⟨none, .mv (.var 6), some (.tmp 2, false)⟩, ⟨none, .mv (.var 7), some (.tmp 2, false)⟩, ⟨none, .bin .eql (.tmp 3) (.tmp 4), some (.tmp 2, false)⟩, ⟨some 8, .pick (.tmp 2) (.cst (.bool true)) (.tmp 5), none⟩]) (.cond (.var 8) (.seq (.region [⟨some 4, .mv (.cst (.int .i64 0)), none⟩]) .ret) .skip)) (.seq (.seq (.region [⟨none, .mv (.var 6), none⟩, ⟨none, .mv (.var 7), none⟩, ⟨some 9, .bin .lss (.tmp 0) (.tmp 1), none⟩]) (.cond (.var 9) (.seq (.region [⟨some 4, .mv (.cst (.int .i64 (-1))), none⟩]) .ret) .skip)) (.seq (.region [⟨some 4, .mv (.cst (.int .i64 1)), none⟩]) .ret)))))), [.tmp 4]⟩
set_option maxHeartbeats 4000000 in
theorem comp36 : compFun Tryd.prog Tryd.f36 2 [0, 1, 2, 3, 4, 5, 6, 7, 27, 30] [] true ([], []) = some mf36 := by kernel_rfl
theorem at36 : Tryd.prog.funcs[36]? = some Tryd.f36 := by kernel_rfl
def mf37 : MFun := ⟨1, 5, .seq (.region [⟨some 1, .box (.var 0), none⟩, ⟨some 2, .mv (.cst (.int .i64 0)), none⟩]) (.seq (.region [⟨none, .load true 2 (.var 1), none⟩, ⟨none, .call (.fn 35) [.tmp 0], none⟩, ⟨some 3, .mv (.tmp 1), none⟩]) (.seq (.seq (.region [⟨none, .mv (.var 3), none⟩, ⟨some 4, .un .not (.tmp 0), none⟩]) (.cond (.var 4) (.seq (.region [⟨some 2, .mv (.cst (.int .i64 0)), none⟩]) .ret) .skip)) (.seq (.region [⟨none, .fieldAddr 0 (.var 1), none⟩, ⟨none, .load false 1 (.tmp 0), none⟩, ⟨none, .fieldAddr 1 (.var 1), none⟩, ⟨none, .load false 1 (.tmp 2), none⟩, ⟨none, .call (.fn 58) [.tmp 1, .tmp 3], none⟩, ⟨some 2, .mv (.tmp 4), none⟩]) .ret))), [.tmp 2]⟩
set_option maxHeartbeats 4000000 in
theorem comp37 : compFun Tryd.prog Tryd.f37 1 [0, 1, 2, 3, 7] [] true ([], []) = some mf37 := by kernel_rfl
theorem at37 : Tryd.prog.funcs[37]? = some Tryd.f37 := by kernel_rfl
def mf38 : MFun := ⟨3, 12, .seq (.region [⟨some 3, .box (.var 0), none⟩, ⟨some 4, .box (.var 1), none⟩, ⟨some 5, .box (.var 2), none⟩, ⟨some 6, .alloc 2 (.agg [.int .i64 0, .int .i64 0]), none⟩]) (.seq (.region [⟨none, .load true 2 (.var 3), none⟩, ⟨none, .load true 2 (.var 4), none⟩, ⟨none, .call (.fn 56) [.tmp 0, .tmp 1], none⟩, ⟨some 7, .mv (.tmp 2), none⟩]) (.seq (.region [⟨none, .load true 2 (.var 5), none⟩, ⟨none, .call (.fn 35) [.tmp 0], none⟩, ⟨some 8, .mv (.tmp 1), none⟩]) (.seq (.seq (.region [⟨none, .mv (.var 7), none⟩, ⟨none, .un .not (.tmp 0), none⟩, ⟨none, .mv (.tmp 1), none⟩, ⟨none, .mv (.var 8), some (.tmp 2, false)⟩, ⟨none, .un .not (.tmp 3), some (.tmp 2, false)⟩, ⟨some 9, .pick (.tmp 2) (.cst (.bool true)) (.tmp 4), none⟩]) (.cond (.var 9) (.seq (.region [⟨none, .build [.int .i64 0, .int .i64 0] [], none⟩, ⟨none, .store 2 (.var 6) (.tmp 0), none⟩]) .ret) .skip)) (.seq (.seq (.region [⟨none, .load true 2 (.var 3), none⟩, ⟨none, .load true 2 (.var 4), none⟩, ⟨none, .call (.fn 36) [.tmp 0, .tmp 1], none⟩, ⟨some 10, .bin .lss (.tmp 2) (.cst (.int .i64 0)), none⟩]) (.cond (.var 10) (.seq (.region [⟨none, .load true 2 (.var 4), none⟩, ⟨none, .store 2 (.var 6) (.tmp 0), none⟩]) .ret) .skip)) (.seq (.seq (.region [⟨none, .load true 2 (.var 3), none⟩, ⟨none, .load true 2 (.var 5), none⟩, ⟨none, .call (.fn 36) [.tmp 0, .tmp 1], none⟩, ⟨some 11, .bin .gtr (.tmp 2) (.cst (.int .i64 0)), none⟩]) (.cond (.var 11) (.seq (.region [⟨none, .load true 2 (.var 5), none⟩, ⟨none, .store 2 (.var 6) (.tmp 0), none⟩]) .ret) .skip)) (.seq (.region [⟨none, .load true 2 (.var 3), none⟩, ⟨none, .store 2 (.var 6) (.tmp 0), none⟩]) .ret)))))), [.cell 6 true 2]⟩
set_option maxHeartbeats 4000000 in
theorem comp38 : compFun Tryd.prog Tryd.f38 3 [0, 1, 2, 3, 4, 5, 6, 7, 8, 19, 24, 29] [] true ([], []) = some mf38 := by kernel_rfl
theorem at38 : Tryd.prog.funcs[38]? = some Tryd.f38 := by kernel_rfl
def mf40 : MFun := ⟨1, 4, .seq (.region [⟨some 1, .box (.var 0), none⟩, ⟨some 2, .mv (.cst (.str [])), none⟩]) (.seq (.seq (.region [⟨none, .fieldAddr 1 (.var 1), none⟩, ⟨none, .load false 1 (.tmp 0), none⟩, ⟨some 3, .bin .eql (.tmp 1) (.cst (.int .i64 1)), none⟩]) (.cond (.var 3) (.seq (.region [⟨none, .fieldAddr 0 (.var 1), none⟩, ⟨none, .load false 1 (.tmp 0), none⟩, ⟨none, .call (.fn 60) [.tmp 1], none⟩, ⟨some 2, .mv (.tmp 2), none⟩]) .ret) .skip)) (.seq (.region [⟨none, .fieldAddr 0 (.var 1), none⟩, ⟨none, .load false 1 (.tmp 0), none⟩, ⟨none, .call (.fn 60) [.tmp 1], none⟩, ⟨none, .bin .add (.tmp 2) (.cst (.str [47])), none⟩, ⟨none, .fieldAddr 1 (.var 1), none⟩, ⟨none, .load false 1 (.tmp 4), none⟩, ⟨none, .call (.fn 60) [.tmp 5], none⟩, ⟨none, .bin .add (.tmp 3) (.tmp 6), none⟩, ⟨some 2, .mv (.tmp 7), none⟩]) .ret)), [.tmp 2]⟩
set_option maxHeartbeats 4000000 in
theorem comp40 : compFun Tryd.prog Tryd.f40 1 [0, 1, 2, 5] [60] true ([], []) = some mf40 := by kernel_rfl
theorem at40 : Tryd.prog.funcs[40]? = some Tryd.f40 := by kernel_rfl
def mf41 : MFun := ⟨2, 5, .seq (.region [⟨some 2, .mv (.cst (.str [])), none⟩, ⟨some 3, .mv (.cst (.str [])), none⟩, ⟨some 4, .mv (.cst (.bool false)), none⟩]) (.seq (.region [⟨none, .mv (.var 0), none⟩, ⟨none, .mv (.var 1), none⟩, ⟨none, .call (.fn 61) [.tmp 0, .tmp 1], none⟩, ⟨none, .extract (.tmp 2) 0, none⟩, ⟨none, .extract (.tmp 2) 1, none⟩, ⟨none, .extract (.tmp 2) 2, none⟩, ⟨some 2, .mv (.tmp 3), none⟩, ⟨some 3, .mv (.tmp 4), none⟩, ⟨some 4, .mv (.tmp 5), none⟩]) .ret), [.tmp 2, .tmp 3, .tmp 4]⟩
set_option maxHeartbeats 4000000 in
theorem comp41 : compFun Tryd.prog Tryd.f41 2 [0, 1, 4, 5, 6] [] true ([], []) = some mf41 := by kernel_rfl
theorem at41 : Tryd.prog.funcs[41]? = some Tryd.f41 := by kernel_rfl
def lp43x0 : MC := .seq (.region [⟨some 9, .bin .lss (.var 8) (.var 7), none⟩]) (.seq (.cond (.var 9) .skip (.exit 0)) (.seq (.seq (.block 1 (.seq (.region [⟨none, .indexSl 1 (.var 6) (.var 8), none⟩, ⟨none, .load false 1 (.tmp 0), none⟩, ⟨some 3, .mv (.tmp 1), none⟩]) (.seq (.region [⟨none, .mv (.var 3), none⟩, ⟨some 10, .eqNil 4 true (.tmp 0), none⟩]) (.cond (.var 10) (.region [⟨none, .mv (.var 2), none⟩, ⟨none, .bin .add (.tmp 0) (.cst (.int .i64 1)), none⟩, ⟨some 2, .mv (.tmp 1), none⟩]) .skip)))) (.kill [1, 3, 4, 5, 9, 10, 11, 12, 13, 14, 15, 16])) (.region [⟨none, .bin .add (.var 8) (.cst (.int .i64 1)), none⟩, ⟨some 8, .mv (.tmp 0), none⟩])))
def lp43x1 : MC := .seq (.region [⟨some 15, .bin .lss (.var 14) (.var 13), none⟩]) (.seq (.cond (.var 15) .skip (.exit 2)) (.seq (.seq (.block 3 (.seq (.region [⟨none, .indexSl 1 (.var 12) (.var 14), none⟩, ⟨none, .load false 1 (.tmp 0), none⟩, ⟨some 5, .mv (.tmp 1), none⟩]) (.seq (.region [⟨none, .mv (.var 5), none⟩, ⟨some 16, .eqNil 4 true (.tmp 0), none⟩]) (.cond (.var 16) (.region [⟨none, .mv (.var 4), none⟩, ⟨none, .mv (.var 4), none⟩, ⟨none, .nilCheck (.tmp 1), none⟩, ⟨none, .fieldAddr 0 (.tmp 2), none⟩, ⟨none, .load false 1 (.tmp 3), none⟩, ⟨none, .mv (.var 5), none⟩, ⟨none, .buildF 1 [.tmp 5], none⟩, ⟨none, .appendN 1 16 (.tmp 4) (.tmp 6), none⟩, ⟨none, .nilCheck (.tmp 0), none⟩, ⟨none, .fieldAddr 0 (.tmp 8), none⟩, ⟨none, .store 1 (.tmp 9) (.tmp 7), none⟩]) .skip)))) (.kill [0, 1, 2, 3, 5, 6, 7, 8, 9, 10, 11, 15, 16])) (.region [⟨none, .bin .add (.var 14) (.cst (.int .i64 1)), none⟩, ⟨some 14, .mv (.tmp 0), none⟩])))
def mf43 : MFun := ⟨1, 17, .seq (.region [⟨some 1, .mv (.cst .nilI), none⟩]) (.seq (.region [⟨some 2, .mv (.cst (.int .i64 0)), none⟩]) (.seq (.seq (.region [⟨some 6, .mv (.var 0), none⟩, ⟨some 7, .lenSl (.var 6), none⟩, ⟨some 8, .mv (.cst (.int .i64 0)), none⟩]) (.seq (.block 0 (.loop [1, 3, 4, 5, 9, 10, 11, 12, 13, 14, 15, 16] lp43x0)) (.kill [1, 3, 4, 5, 6, 7, 8, 9, 10, 11, 12, 13, 14, 15, 16]))) (.seq (.seq (.region [⟨none, .mv (.var 2), none⟩, ⟨some 11, .bin .eql (.tmp 0) (.cst (.int .i64 0)), none⟩]) (.cond (.var 11) (.seq (.region [⟨some 1, .mv (.cst .nilI), none⟩]) .ret) .skip)) (.seq (.region [⟨none, .mv (.var 2), none⟩, ⟨none, .makeSlice 1 16 .nilI (.cst (.int .i64 0)) (.tmp 0), none⟩, ⟨none, .build [.nilS] [(0, (1, .tmp 1))], none⟩, ⟨none, .box (.tmp 2), none⟩, ⟨some 4, .mv (.tmp 3), none⟩]) (.seq (.seq (.region [⟨some 12, .mv (.var 0), none⟩, ⟨some 13, .lenSl (.var 12), none⟩, ⟨some 14, .mv (.cst (.int .i64 0)), none⟩]) (.seq (.block 2 (.loop [0, 1, 2, 3, 5, 6, 7, 8, 9, 10, 11, 15, 16] lp43x1)) (.kill [0, 1, 2, 3, 5, 6, 7, 8, 9, 10, 11, 12, 13, 14, 15, 16]))) (.seq (.region [⟨none, .mv (.var 4), none⟩, ⟨none, .mkI 75 (.tmp 0), none⟩, ⟨some 1, .mv (.tmp 1), none⟩]) .ret)))))), [.tmp 1]⟩
def mask43x0 : List Nat := [1, 3, 4, 5, 9, 10, 11, 12, 13, 14, 15, 16]
abbrev st43x0 (v0 v2 v6 v7 v8 : AV) : List AV := [v0, .undef, v2, .undef, .undef, .undef, v6, v7, v8, .undef, .undef, .undef, .undef, .undef, .undef, .undef, .undef]
theorem cl43x0 {v0 d1 v2 d3 d4 d5 v6 v7 v8 d9 d10 d11 d12 d13 d14 d15 d16 : AV} : clear mask43x0 [v0, d1, v2, d3, d4, d5, v6, v7, v8, d9, d10, d11, d12, d13, d14, d15, d16] = st43x0 v0 v2 v6 v7 v8 := by simp only [mask43x0, clear, List.foldl_cons, List.foldl_nil, List.set_cons_zero, List.set_cons_succ]
theorem go43x0 {E : Env} {fuel : Nat} {A : Arena} {o : Out} {k : List KC} {v0 d1 v2 d3 d4 d5 v6 v7 v8 d9 d10 d11 d12 d13 d14 d15 d16 : AV} (h : iter (evC E fuel lp43x0) mask43x0 fuel (st43x0 v0 v2 v6 v7 v8) A = some o) :
    run E fuel (.code (.loop [1, 3, 4, 5, 9, 10, 11, 12, 13, 14, 15, 16] lp43x0) :: k) [v0, d1, v2, d3, d4, d5, v6, v7, v8, d9, d10, d11, d12, d13, d14, d15, d16] A = after E fuel k o := run_loopC mask43x0 _ _ (by rw [cl43x0]; exact h)
def mask43x1 : List Nat := [0, 1, 2, 3, 5, 6, 7, 8, 9, 10, 11, 15, 16]
abbrev st43x1 (v4 v12 v13 v14 : AV) : List AV := [.undef, .undef, .undef, .undef, v4, .undef, .undef, .undef, .undef, .undef, .undef, .undef, v12, v13, v14, .undef, .undef]
theorem cl43x1 {d0 d1 d2 d3 v4 d5 d6 d7 d8 d9 d10 d11 v12 v13 v14 d15 d16 : AV} : clear mask43x1 [d0, d1, d2, d3, v4, d5, d6, d7, d8, d9, d10, d11, v12, v13, v14, d15, d16] = st43x1 v4 v12 v13 v14 := by simp only [mask43x1, clear, List.foldl_cons, List.foldl_nil, List.set_cons_zero, List.set_cons_succ]
theorem go43x1 {E : Env} {fuel : Nat} {A : Arena} {o : Out} {k : List KC} {d0 d1 d2 d3 v4 d5 d6 d7 d8 d9 d10 d11 v12 v13 v14 d15 d16 : AV} (h : iter (evC E fuel lp43x1) mask43x1 fuel (st43x1 v4 v12 v13 v14) A = some o) :
    run E fuel (.code (.loop [0, 1, 2, 3, 5, 6, 7, 8, 9, 10, 11, 15, 16] lp43x1) :: k) [d0, d1, d2, d3, v4, d5, d6, d7, d8, d9, d10, d11, v12, v13, v14, d15, d16] A = after E fuel k o := run_loopC mask43x1 _ _ (by rw [cl43x1]; exact h)
set_option maxHeartbeats 4000000 in
theorem comp43 : compFun Tryd.prog Tryd.f43 1 [0, 2, 3, 5, 6, 8, 9, 10, 11, 12, 16, 21, 26, 27, 28, 29, 33] [] true ([[1, 3, 4, 5, 9, 10, 11, 12, 13, 14, 15, 16], [0, 1, 2, 3, 5, 6, 7, 8, 9, 10, 11, 15, 16]], [[1, 3, 4, 5, 9, 10, 11, 12, 13, 14, 15, 16], [1, 3, 4, 5, 6, 7, 8, 9, 10, 11, 12, 13, 14, 15, 16], [0, 1, 2, 3, 5, 6, 7, 8, 9, 10, 11, 15, 16], [0, 1, 2, 3, 5, 6, 7, 8, 9, 10, 11, 12, 13, 14, 15, 16]]) = some mf43 := by kernel_rfl
theorem at43 : Tryd.prog.funcs[43]? = some Tryd.f43 := by kernel_rfl
def lp44x0 : MC := .seq (.seq (.region [⟨none, .mv (.var 3), none⟩, ⟨none, .mv (.var 0), none⟩, ⟨none, .lenStr (.tmp 1), none⟩, ⟨some 4, .bin .lss (.tmp 0) (.tmp 2), none⟩]) (.cond (.var 4) .skip (.exit 0))) (.seq (.seq (.block 1 (.seq (.region [⟨none, .mv (.var 0), none⟩, ⟨none, .mv (.var 3), none⟩, ⟨none, .indexStr (.tmp 0) (.tmp 1), none⟩, ⟨none, .bin .geq (.tmp 2) (.cst (.int .u8 48)), none⟩, ⟨none, .mv (.tmp 3), none⟩, ⟨none, .mv (.var 0), some (.tmp 4, true)⟩, ⟨none, .mv (.var 3), some (.tmp 4, true)⟩, ⟨none, .indexStr (.tmp 5) (.tmp 6), some (.tmp 4, true)⟩, ⟨none, .bin .leq (.tmp 7) (.cst (.int .u8 57)), some (.tmp 4, true)⟩, ⟨some 5, .pick (.tmp 4) (.tmp 8) (.cst (.bool false)), none⟩]) (.cond (.var 5) (.region [⟨none, .mv (.var 2), none⟩, ⟨none, .bin .mul (.cst (.int .i64 10)) (.tmp 0), none⟩, ⟨none, .mv (.var 0), none⟩, ⟨none, .mv (.var 3), none⟩, ⟨none, .indexStr (.tmp 2) (.tmp 3), none⟩, ⟨none, .bin .sub (.tmp 4) (.cst (.int .u8 48)), none⟩, ⟨none, .convInt .i64 (.tmp 5), none⟩, ⟨none, .bin .add (.tmp 1) (.tmp 6), none⟩, ⟨some 2, .mv (.tmp 7), none⟩]) .skip))) (.kill [1, 4, 5, 6])) (.region [⟨none, .mv (.var 3), none⟩, ⟨none, .bin .add (.tmp 0) (.cst (.int .i64 1)), none⟩, ⟨some 3, .mv (.tmp 1), none⟩]))
def mf44 : MFun := ⟨1, 7, .seq (.region [⟨some 1, .mv (.cst (.int .i64 0)), none⟩]) (.seq (.region [⟨some 2, .mv (.cst (.int .i64 0)), none⟩]) (.seq (.seq (.region [⟨some 3, .mv (.cst (.int .i64 0)), none⟩]) (.seq (.block 0 (.loop [1, 4, 5, 6] lp44x0)) (.kill [1, 3, 4, 5, 6]))) (.seq (.seq (.region [⟨none, .mv (.var 0), none⟩, ⟨none, .bin .neq (.tmp 0) (.cst (.str [])), none⟩, ⟨none, .mv (.tmp 1), none⟩, ⟨none, .mv (.var 0), some (.tmp 2, true)⟩, ⟨none, .indexStr (.tmp 3) (.cst (.int .i64 0)), some (.tmp 2, true)⟩, ⟨none, .bin .eql (.tmp 4) (.cst (.int .u8 45)), some (.tmp 2, true)⟩, ⟨some 6, .pick (.tmp 2) (.tmp 5) (.cst (.bool false)), none⟩]) (.cond (.var 6) (.seq (.region [⟨none, .mv (.var 2), none⟩, ⟨none, .un .neg (.tmp 0), none⟩, ⟨some 1, .mv (.tmp 1), none⟩]) .ret) .skip)) (.seq (.region [⟨none, .mv (.var 2), none⟩, ⟨some 1, .mv (.tmp 0), none⟩]) .ret)))), [.tmp 1]⟩
def mask44x0 : List Nat := [1, 4, 5, 6]
abbrev st44x0 (v0 v2 v3 : AV) : List AV := [v0, .undef, v2, v3, .undef, .undef, .undef]
theorem cl44x0 {v0 d1 v2 v3 d4 d5 d6 : AV} : clear mask44x0 [v0, d1, v2, v3, d4, d5, d6] = st44x0 v0 v2 v3 := by simp only [mask44x0, clear, List.foldl_cons, List.foldl_nil, List.set_cons_zero, List.set_cons_succ]
theorem go44x0 {E : Env} {fuel : Nat} {A : Arena} {o : Out} {k : List KC} {v0 d1 v2 v3 d4 d5 d6 : AV} (h : iter (evC E fuel lp44x0) mask44x0 fuel (st44x0 v0 v2 v3) A = some o) :
    run E fuel (.code (.loop [1, 4, 5, 6] lp44x0) :: k) [v0, d1, v2, v3, d4, d5, d6] A = after E fuel k o := run_loopC mask44x0 _ _ (by rw [cl44x0]; exact h)
set_option maxHeartbeats 4000000 in
theorem comp44 : compFun Tryd.prog Tryd.f44 1 [0, 2, 3, 4, 8, 20, 35] [] true ([[1, 4, 5, 6]], [[1, 4, 5, 6], [1, 3, 4, 5, 6]]) = some mf44 := by kernel_rfl
theorem at44 : Tryd.prog.funcs[44]? = some Tryd.f44 := by kernel_rfl
def lp45x0 : MC := .seq (.seq (.region [⟨none, .mv (.var 1), none⟩, ⟨some 3, .bin .neq (.tmp 0) (.cst (.int .u64 0)), none⟩]) (.cond (.var 3) .skip (.exit 0))) (.seq (.block 1 (.region [⟨none, .mv (.var 1), none⟩, ⟨none, .mv (.var 0), none⟩, ⟨none, .mv (.var 1), none⟩, ⟨none, .bin .rem (.tmp 1) (.tmp 2), none⟩, ⟨some 0, .mv (.tmp 0), none⟩, ⟨some 1, .mv (.tmp 3), none⟩])) (.kill [2, 3]))
def mf45 : MFun := ⟨2, 4, .seq (.region [⟨some 2, .mv (.cst (.int .u64 0)), none⟩]) (.seq (.seq (.block 0 (.loop [2, 3] lp45x0)) (.kill [1, 2, 3])) (.seq (.region [⟨none, .mv (.var 0), none⟩, ⟨some 2, .mv (.tmp 0), none⟩]) .ret)), [.tmp 2]⟩
def mask45x0 : List Nat := [2, 3]
abbrev st45x0 (v0 v1 : AV) : List AV := [v0, v1, .undef, .undef]
theorem cl45x0 {v0 v1 d2 d3 : AV} : clear mask45x0 [v0, v1, d2, d3] = st45x0 v0 v1 := by simp only [mask45x0, clear, List.foldl_cons, List.foldl_nil, List.set_cons_zero, List.set_cons_succ]
theorem go45x0 {E : Env} {fuel : Nat} {A : Arena} {o : Out} {k : List KC} {v0 v1 d2 d3 : AV} (h : iter (evC E fuel lp45x0) mask45x0 fuel (st45x0 v0 v1) A = some o) :
    run E fuel (.code (.loop [2, 3] lp45x0) :: k) [v0, v1, d2, d3] A = after E fuel k o := run_loopC mask45x0 _ _ (by rw [cl45x0]; exact h)
set_option maxHeartbeats 4000000 in
theorem comp45 : compFun Tryd.prog Tryd.f45 2 [0, 1, 4, 6] [] true ([[2, 3]], [[2, 3], [1, 2, 3]]) = some mf45 := by kernel_rfl
theorem at45 : Tryd.prog.funcs[45]? = some Tryd.f45 := by kernel_rfl
def mf46 : MFun := ⟨1, 3, .seq (.region [⟨some 1, .mv (.cst (.int .u64 0)), none⟩]) (.seq (.seq (.region [⟨none, .mv (.var 0), none⟩, ⟨some 2, .bin .lss (.tmp 0) (.cst (.int .i64 0)), none⟩]) (.cond (.var 2) (.seq (.region [⟨none, .mv (.var 0), none⟩, ⟨none, .convInt .u64 (.tmp 0), none⟩, ⟨none, .un .neg (.tmp 1), none⟩, ⟨some 1, .mv (.tmp 2), none⟩]) .ret) .skip)) (.seq (.region [⟨none, .mv (.var 0), none⟩, ⟨none, .convInt .u64 (.tmp 0), none⟩, ⟨some 1, .mv (.tmp 1), none⟩]) .ret)), [.tmp 1]⟩
set_option maxHeartbeats 4000000 in
theorem comp46 : compFun Tryd.prog Tryd.f46 1 [0, 2, 4] [] true ([], []) = some mf46 := by kernel_rfl
theorem at46 : Tryd.prog.funcs[46]? = some Tryd.f46 := by kernel_rfl
def mf47 : MFun := ⟨2, 4, .seq (.region [⟨some 2, .mv (.cst (.int .i64 0)), none⟩]) (.seq (.seq (.region [⟨none, .mv (.var 0), none⟩, ⟨some 3, .bin .lss (.tmp 0) (.cst (.int .i64 0)), none⟩]) (.cond (.var 3) (.seq (.region [⟨none, .mv (.var 1), none⟩, ⟨none, .bin .sub (.tmp 0) (.cst (.int .i64 1)), none⟩, ⟨none, .mv (.var 0), none⟩, ⟨none, .bin .sub (.tmp 1) (.tmp 2), none⟩, ⟨none, .mv (.var 1), none⟩, ⟨none, .bin .quo (.tmp 3) (.tmp 4), none⟩, ⟨none, .un .neg (.tmp 5), none⟩, ⟨some 2, .mv (.tmp 6), none⟩]) .ret) .skip)) (.seq (.region [⟨none, .mv (.var 0), none⟩, ⟨none, .mv (.var 1), none⟩, ⟨none, .bin .quo (.tmp 0) (.tmp 1), none⟩, ⟨some 2, .mv (.tmp 2), none⟩]) .ret)), [.tmp 2]⟩
set_option maxHeartbeats 4000000 in
theorem comp47 : compFun Tryd.prog Tryd.f47 2 [0, 1, 4, 6] [] true ([], []) = some mf47 := by kernel_rfl
theorem at47 : Tryd.prog.funcs[47]? = some Tryd.f47 := by kernel_rfl
def mf48 : MFun := ⟨2, 10, .seq (.region [⟨some 2, .mv (.cst (.int .i64 0)), none⟩]) (.seq (.region [⟨none, .mv (.var 0), none⟩, ⟨none, .call (.fn 64) [.tmp 0], none⟩, ⟨some 3, .mv (.tmp 1), none⟩]) (.seq (.region [⟨none, .mv (.var 1), none⟩, ⟨none, .call (.fn 64) [.tmp 0], none⟩, ⟨some 4, .mv (.tmp 1), none⟩]) (.seq (.seq (.region [⟨some 5, .mv (.var 3), none⟩]) (.cond (.var 5) (.seq (.seq (.region [⟨some 6, .mv (.var 4), none⟩]) (.cond (.var 6) (.seq (.region [⟨some 2, .mv (.cst (.int .i64 0)), none⟩]) .ret) .skip)) (.seq (.region [⟨some 2, .mv (.cst (.int .i64 (-1))), none⟩]) .ret)) .skip)) (.seq (.seq (.region [⟨some 7, .mv (.var 4), none⟩]) (.cond (.var 7) (.seq (.region [⟨some 2, .mv (.cst (.int .i64 1)), none⟩]) .ret) .skip)) (.seq (.seq (.region [⟨none, .mv (.var 0), none⟩, ⟨none, .mv (.var 1), none⟩, ⟨some 8, .bin .lss (.tmp 0) (.tmp 1), none⟩]) (.cond (.var 8) (.seq (.region [⟨some 2, .mv (.cst (.int .i64 (-1))), none⟩]) .ret) .skip)) (.seq (.seq (.region [⟨none, .mv (.var 0), none⟩, ⟨none, .mv (.var 1), none⟩, ⟨some 9, .bin .gtr (.tmp 0) (.tmp 1), none⟩]) (.cond (.var 9) (.seq (.region [⟨some 2, .mv (.cst (.int .i64 1)), none⟩]) .ret) .skip)) (.seq (.region [⟨some 2, .mv (.cst (.int .i64 0)), none⟩]) .ret))))))), [.tmp 2]⟩
set_option maxHeartbeats 4000000 in
theorem comp48 : compFun Tryd.prog Tryd.f48 2 [0, 1, 4, 5, 6, 11, 12, 13, 16, 19] [] true ([], []) = some mf48 := by kernel_rfl
theorem at48 : Tryd.prog.funcs[48]? = some Tryd.f48 := by kernel_rfl
def mf50 : MFun := ⟨2, 5, .seq (.region [⟨some 2, .mv (.cst (.int .i64 0)), none⟩, ⟨some 3, .mv (.cst (.int .i64 0)), none⟩]) (.seq (.region [⟨none, .load true 2 (.var 0), none⟩, ⟨none, .call (.fn 51) [.tmp 0], none⟩, ⟨some 4, .alloc 2 (.agg [.int .i64 0, .int .i64 0]), none⟩, ⟨none, .store 2 (.var 4) (.tmp 1), none⟩]) (.seq (.region [⟨none, .fieldAddr 0 (.var 4), none⟩, ⟨none, .load false 1 (.tmp 0), none⟩, ⟨none, .bin .mul (.cst (.int .i64 2)) (.tmp 1), none⟩, ⟨none, .load false 1 (.var 1), none⟩, ⟨none, .bin .mul (.tmp 2) (.tmp 3), none⟩, ⟨none, .fieldAddr 1 (.var 4), none⟩, ⟨none, .load false 1 (.tmp 5), none⟩, ⟨none, .bin .add (.tmp 4) (.tmp 6), none⟩, ⟨none, .fieldAddr 1 (.var 4), none⟩, ⟨none, .load false 1 (.tmp 8), none⟩, ⟨none, .bin .mul (.cst (.int .i64 2)) (.tmp 9), none⟩, ⟨none, .call (.fn 47) [.tmp 7, .tmp 10], none⟩, ⟨none, .load false 1 (.var 1), none⟩, ⟨some 2, .mv (.tmp 11), none⟩, ⟨some 3, .mv (.tmp 12), none⟩]) .ret)), [.tmp 2, .tmp 3]⟩
set_option maxHeartbeats 4000000 in
theorem comp50 : compFun Tryd.prog Tryd.f50 2 [0, 1, 2, 3, 4] [47] true ([], []) = some mf50 := by kernel_rfl
theorem at50 : Tryd.prog.funcs[50]? = some Tryd.f50 := by kernel_rfl
def mf51 : MFun := ⟨1, 4, .seq (.region [⟨some 1, .box (.var 0), none⟩, ⟨some 2, .alloc 2 (.agg [.int .i64 0, .int .i64 0]), none⟩]) (.seq (.seq (.region [⟨none, .load true 2 (.var 1), none⟩, ⟨none, .call (.fn 19) [.tmp 0], none⟩, ⟨some 3, .un .not (.tmp 1), none⟩]) (.cond (.var 3) (.region [⟨none, .load false 1 (.glob 0), none⟩, ⟨none, .un .neg (.cst .undef), none⟩]) .skip)) (.seq (.region [⟨none, .fieldAddr 0 (.var 1), none⟩, ⟨none, .load false 1 (.tmp 0), none⟩, ⟨none, .fieldAddr 1 (.var 1), none⟩, ⟨none, .load false 1 (.tmp 2), none⟩, ⟨none, .build [.int .i64 0, .int .i64 0] [(0, (1, .tmp 1)), (1, (1, .tmp 3))], none⟩, ⟨none, .store 2 (.var 2) (.tmp 4), none⟩]) .ret)), [.cell 2 true 2]⟩
set_option maxHeartbeats 4000000 in
theorem comp51 : compFun Tryd.prog Tryd.f51 1 [0, 1, 2, 5] [] true ([], []) = some mf51 := by kernel_rfl
theorem at51 : Tryd.prog.funcs[51]? = some Tryd.f51 := by kernel_rfl
def mf52 : MFun := ⟨2, 6, .seq (.region [⟨some 2, .mv (.cst (.int .i64 0)), none⟩, ⟨some 3, .mv (.cst (.int .i64 0)), none⟩]) (.seq (.regionD [51] [⟨none, .load true 2 (.var 0), none⟩, ⟨none, .call (.fn 51) [.tmp 0], none⟩, ⟨none, .load true 2 (.var 1), none⟩, ⟨none, .call (.fn 51) [.tmp 2], none⟩, ⟨some 4, .alloc 2 (.agg [.int .i64 0, .int .i64 0]), none⟩, ⟨some 5, .alloc 2 (.agg [.int .i64 0, .int .i64 0]), none⟩, ⟨none, .store 2 (.var 4) (.tmp 1), none⟩, ⟨none, .store 2 (.var 5) (.tmp 3), none⟩] [(0, 4), (1, 4), (2, 4), (3, 4), (0, 5), (1, 5), (2, 5), (3, 5), (4, 5)]) (.seq (.region [⟨none, .fieldAddr 0 (.var 4), none⟩, ⟨none, .load false 1 (.tmp 0), none⟩, ⟨none, .fieldAddr 1 (.var 5), none⟩, ⟨none, .load false 1 (.tmp 2), none⟩, ⟨none, .bin .mul (.tmp 1) (.tmp 3), none⟩, ⟨none, .fieldAddr 0 (.var 5), none⟩, ⟨none, .load false 1 (.tmp 5), none⟩, ⟨none, .fieldAddr 1 (.var 4), none⟩, ⟨none, .load false 1 (.tmp 7), none⟩, ⟨none, .bin .mul (.tmp 6) (.tmp 8), none⟩, ⟨none, .bin .add (.tmp 4) (.tmp 9), none⟩, ⟨none, .fieldAddr 1 (.var 4), none⟩, ⟨none, .load false 1 (.tmp 11), none⟩, ⟨none, .fieldAddr 1 (.var 5), none⟩, ⟨none, .load false 1 (.tmp 13), none⟩, ⟨none, .bin .mul (.tmp 12) (.tmp 14), none⟩, ⟨some 2, .mv (.tmp 10), none⟩, ⟨some 3, .mv (.tmp 15), none⟩]) .ret)), [.tmp 2, .tmp 3]⟩
set_option maxHeartbeats 4000000 in
theorem comp52 : compFun Tryd.prog Tryd.f52 2 [0, 1, 2, 3, 4, 5] [51] true ([], []) = some mf52 := by kernel_rfl
theorem at52 : Tryd.prog.funcs[52]? = some Tryd.f52 := by kernel_rfl
def mf53 : MFun := ⟨2, 6, .seq (.region [⟨some 2, .mv (.cst (.int .i64 0)), none⟩, ⟨some 3, .mv (.cst (.int .i64 0)), none⟩]) (.seq (.regionD [51] [⟨none, .load true 2 (.var 0), none⟩, ⟨none, .call (.fn 51) [.tmp 0], none⟩, ⟨none, .load true 2 (.var 1), none⟩, ⟨none, .call (.fn 51) [.tmp 2], none⟩, ⟨some 4, .alloc 2 (.agg [.int .i64 0, .int .i64 0]), none⟩, ⟨some 5, .alloc 2 (.agg [.int .i64 0, .int .i64 0]), none⟩, ⟨none, .store 2 (.var 4) (.tmp 1), none⟩, ⟨none, .store 2 (.var 5) (.tmp 3), none⟩] [(0, 4), (1, 4), (2, 4), (3, 4), (0, 5), (1, 5), (2, 5), (3, 5), (4, 5)]) (.seq (.region [⟨none, .fieldAddr 0 (.var 4), none⟩, ⟨none, .load false 1 (.tmp 0), none⟩, ⟨none, .fieldAddr 0 (.var 5), none⟩, ⟨none, .load false 1 (.tmp 2), none⟩, ⟨none, .bin .mul (.tmp 1) (.tmp 3), none⟩, ⟨none, .fieldAddr 1 (.var 4), none⟩, ⟨none, .load false 1 (.tmp 5), none⟩, ⟨none, .fieldAddr 1 (.var 5), none⟩, ⟨none, .load false 1 (.tmp 7), none⟩, ⟨none, .bin .mul (.tmp 6) (.tmp 8), none⟩, ⟨some 2, .mv (.tmp 4), none⟩, ⟨some 3, .mv (.tmp 9), none⟩]) .ret)), [.tmp 2, .tmp 3]⟩
set_option maxHeartbeats 4000000 in
theorem comp53 : compFun Tryd.prog Tryd.f53 2 [0, 1, 2, 3, 4, 5] [51] true ([], []) = some mf53 := by kernel_rfl
theorem at53 : Tryd.prog.funcs[53]? = some Tryd.f53 := by kernel_rfl
def lp54x0 : MC := .seq (.seq (.region [⟨none, .mv (.var 1), none⟩, ⟨some 3, .bin .gtr (.tmp 0) (.cst (.int .u64 0)), none⟩]) (.cond (.var 3) .skip (.exit 0))) (.seq (.block 1 (.region [⟨none, .mv (.var 1), none⟩, ⟨none, .mv (.var 0), none⟩, ⟨none, .mv (.var 1), none⟩, ⟨none, .bin .rem (.tmp 1) (.tmp 2), none⟩, ⟨some 0, .mv (.tmp 0), none⟩, ⟨some 1, .mv (.tmp 3), none⟩])) (.kill [2, 3]))
def mf54 : MFun := ⟨2, 4, .seq (.region [⟨some 2, .mv (.cst (.int .u64 0)), none⟩]) (.seq (.seq (.block 0 (.loop [2, 3] lp54x0)) (.kill [1, 2, 3])) (.seq (.region [⟨none, .mv (.var 0), none⟩, ⟨some 2, .mv (.tmp 0), none⟩]) .ret)), [.tmp 2]⟩
def mask54x0 : List Nat := [2, 3]
abbrev st54x0 (v0 v1 : AV) : List AV := [v0, v1, .undef, .undef]
theorem cl54x0 {v0 v1 d2 d3 : AV} : clear mask54x0 [v0, v1, d2, d3] = st54x0 v0 v1 := by simp only [mask54x0, clear, List.foldl_cons, List.foldl_nil, List.set_cons_zero, List.set_cons_succ]
theorem go54x0 {E : Env} {fuel : Nat} {A : Arena} {o : Out} {k : List KC} {v0 v1 d2 d3 : AV} (h : iter (evC E fuel lp54x0) mask54x0 fuel (st54x0 v0 v1) A = some o) :
    run E fuel (.code (.loop [2, 3] lp54x0) :: k) [v0, v1, d2, d3] A = after E fuel k o := run_loopC mask54x0 _ _ (by rw [cl54x0]; exact h)
set_option maxHeartbeats 4000000 in
theorem comp54 : compFun Tryd.prog Tryd.f54 2 [0, 1, 4, 6] [] true ([[2, 3]], [[2, 3], [1, 2, 3]]) = some mf54 := by kernel_rfl
theorem at54 : Tryd.prog.funcs[54]? = some Tryd.f54 := by kernel_rfl
def mf55 : MFun := ⟨1, 3, .seq (.region [⟨some 1, .mv (.cst (.int .u64 0)), none⟩]) (.seq (.seq (.region [⟨none, .mv (.var 0), none⟩, ⟨some 2, .bin .lss (.tmp 0) (.cst (.int .i64 0)), none⟩]) (.cond (.var 2) (.seq (.region [⟨none, .mv (.var 0), none⟩, ⟨none, .bin .add (.tmp 0) (.cst (.int .i64 1)), none⟩, ⟨none, .un .neg (.tmp 1), none⟩, ⟨none, .convInt .u64 (.tmp 2), none⟩, ⟨none, .bin .add (.tmp 3) (.cst (.int .u64 1)), none⟩, ⟨some 1, .mv (.tmp 4), none⟩]) .ret) .skip)) (.seq (.region [⟨none, .mv (.var 0), none⟩, ⟨none, .convInt .u64 (.tmp 0), none⟩, ⟨some 1, .mv (.tmp 1), none⟩]) .ret)), [.tmp 1]⟩
set_option maxHeartbeats 4000000 in
theorem comp55 : compFun Tryd.prog Tryd.f55 1 [0, 2, 4] [] true ([], []) = some mf55 := by kernel_rfl
theorem at55 : Tryd.prog.funcs[55]? = some Tryd.f55 := by kernel_rfl
def mf56 : MFun := ⟨2, 7, .seq (.region [⟨some 2, .box (.var 0), none⟩, ⟨some 3, .box (.var 1), none⟩, ⟨some 4, .mv (.cst (.bool false)), none⟩]) (.seq (.region [⟨none, .load true 2 (.var 2), none⟩, ⟨none, .call (.fn 35) [.tmp 0], none⟩, ⟨some 5, .mv (.tmp 1), none⟩]) (.seq (.region [⟨none, .load true 2 (.var 3), none⟩, ⟨none, .call (.fn 35) [.tmp 0], none⟩, ⟨some 6, .mv (.tmp 1), none⟩]) (.seq (.region [⟨none, .mv (.var 5), none⟩, ⟨none, .mv (.tmp 0), none⟩, ⟨none, .mv (.var 6), some (.tmp 1, true)⟩, ⟨none, .pick (.tmp 1) (.tmp 2) (.cst (.bool false)), none⟩, ⟨some 4, .mv (.tmp 3), none⟩]) .ret))), [.tmp 4]⟩
set_option maxHeartbeats 4000000 in
theorem comp56 : compFun Tryd.prog Tryd.f56 2 [0, 1, 2, 3, 4, 5, 6] [] true ([], []) = some mf56 := by kernel_rfl
theorem at56 : Tryd.prog.funcs[56]? = some Tryd.f56 := by kernel_rfl
def mf57 : MFun := ⟨2, 6, .seq (.region [⟨some 2, .mv (.cst (.int .i64 0)), none⟩, ⟨some 3, .mv (.cst (.int .i64 0)), none⟩]) (.seq (.regionD [51] [⟨none, .load true 2 (.var 0), none⟩, ⟨none, .call (.fn 51) [.tmp 0], none⟩, ⟨none, .load true 2 (.var 1), none⟩, ⟨none, .call (.fn 51) [.tmp 2], none⟩, ⟨some 4, .alloc 2 (.agg [.int .i64 0, .int .i64 0]), none⟩, ⟨some 5, .alloc 2 (.agg [.int .i64 0, .int .i64 0]), none⟩, ⟨none, .store 2 (.var 4) (.tmp 1), none⟩, ⟨none, .store 2 (.var 5) (.tmp 3), none⟩] [(0, 4), (1, 4), (2, 4), (3, 4), (0, 5), (1, 5), (2, 5), (3, 5), (4, 5)]) (.seq (.region [⟨none, .fieldAddr 0 (.var 4), none⟩, ⟨none, .load false 1 (.tmp 0), none⟩, ⟨none, .fieldAddr 1 (.var 5), none⟩, ⟨none, .load false 1 (.tmp 2), none⟩, ⟨none, .bin .mul (.tmp 1) (.tmp 3), none⟩, ⟨none, .fieldAddr 1 (.var 4), none⟩, ⟨none, .load false 1 (.tmp 5), none⟩, ⟨none, .fieldAddr 0 (.var 5), none⟩, ⟨none, .load false 1 (.tmp 7), none⟩, ⟨none, .bin .mul (.tmp 6) (.tmp 8), none⟩, ⟨some 2, .mv (.tmp 4), none⟩, ⟨some 3, .mv (.tmp 9), none⟩]) .ret)), [.tmp 2, .tmp 3]⟩
set_option maxHeartbeats 4000000 in
theorem comp57 : compFun Tryd.prog Tryd.f57 2 [0, 1, 2, 3, 4, 5] [51] true ([], []) = some mf57 := by kernel_rfl
theorem at57 : Tryd.prog.funcs[57]? = some Tryd.f57 := by kernel_rfl
def mf58 : MFun := ⟨2, 5, .seq (.region [⟨some 2, .mv (.cst (.int .i64 0)), none⟩]) (.seq (.region [⟨none, .mv (.var 0), none⟩, ⟨none, .mv (.var 1), none⟩, ⟨none, .bin .quo (.tmp 0) (.tmp 1), none⟩, ⟨some 3, .mv (.tmp 2), none⟩]) (.seq (.seq (.region [⟨none, .mv (.var 0), none⟩, ⟨none, .mv (.var 1), none⟩, ⟨none, .bin .rem (.tmp 0) (.tmp 1), none⟩, ⟨some 4, .bin .lss (.tmp 2) (.cst (.int .i64 0)), none⟩]) (.cond (.var 4) (.region [⟨none, .mv (.var 3), none⟩, ⟨none, .bin .sub (.tmp 0) (.cst (.int .i64 1)), none⟩, ⟨some 3, .mv (.tmp 1), none⟩]) .skip)) (.seq (.region [⟨none, .mv (.var 3), none⟩, ⟨some 2, .mv (.tmp 0), none⟩]) .ret))), [.tmp 2]⟩
set_option maxHeartbeats 4000000 in
theorem comp58 : compFun Tryd.prog Tryd.f58 2 [0, 1, 4, 5, 12] [] true ([], []) = some mf58 := by kernel_rfl
theorem at58 : Tryd.prog.funcs[58]? = some Tryd.f58 := by kernel_rfl
def lp60x0 : MC := .seq (.seq (.region [⟨none, .mv (.var 2), none⟩, ⟨none, .bin .eql (.tmp 0) (.cst (.str [])), none⟩, ⟨none, .mv (.tmp 1), none⟩, ⟨none, .mv (.var 0), some (.tmp 2, false)⟩, ⟨none, .bin .gtr (.tmp 3) (.cst (.int .i64 0)), some (.tmp 2, false)⟩, ⟨some 4, .pick (.tmp 2) (.cst (.bool true)) (.tmp 4), none⟩]) (.cond (.var 4) .skip (.exit 0))) (.seq (.block 1 (.seq (.region [⟨none, .mv (.var 0), none⟩, ⟨none, .bin .rem (.tmp 0) (.cst (.int .i64 10)), none⟩, ⟨none, .bin .add (.cst (.int .i64 48)) (.tmp 1), none⟩, ⟨none, .convInt .u8 (.tmp 2), none⟩, ⟨none, .buildSlice 1 [.tmp 3], none⟩, ⟨none, .toStr (.tmp 4), none⟩, ⟨none, .mv (.var 2), none⟩, ⟨none, .bin .add (.tmp 5) (.tmp 6), none⟩, ⟨some 2, .mv (.tmp 7), none⟩]) (.region [⟨none, .mv (.var 0), none⟩, ⟨none, .bin .quo (.tmp 0) (.cst (.int .i64 10)), none⟩, ⟨some 0, .mv (.tmp 1), none⟩]))) (.kill [1, 3, 4]))
def mf60 : MFun := ⟨1, 5, .seq (.region [⟨some 1, .mv (.cst (.str [])), none⟩]) (.seq (.seq (.region [⟨none, .mv (.var 0), none⟩, ⟨some 3, .bin .lss (.tmp 0) (.cst (.int .i64 0)), none⟩]) (.cond (.var 3) (.seq (.region [⟨none, .mv (.var 0), none⟩, ⟨none, .un .neg (.tmp 0), none⟩, ⟨none, .call (.fn 60) [.tmp 1], none⟩, ⟨none, .bin .add (.cst (.str [45])) (.tmp 2), none⟩, ⟨some 1, .mv (.tmp 3), none⟩]) .ret) .skip)) (.seq (.region [⟨some 2, .mv (.cst (.str [])), none⟩]) (.seq (.seq (.block 0 (.loop [1, 3, 4] lp60x0)) (.kill [0, 1, 3, 4])) (.seq (.region [⟨none, .mv (.var 2), none⟩, ⟨some 1, .mv (.tmp 0), none⟩]) .ret)))), [.tmp 1]⟩
def mask60x0 : List Nat := [1, 3, 4]
abbrev st60x0 (v0 v2 : AV) : List AV := [v0, .undef, v2, .undef, .undef]
theorem cl60x0 {v0 d1 v2 d3 d4 : AV} : clear mask60x0 [v0, d1, v2, d3, d4] = st60x0 v0 v2 := by simp only [mask60x0, clear, List.foldl_cons, List.foldl_nil, List.set_cons_zero, List.set_cons_succ]
theorem go60x0 {E : Env} {fuel : Nat} {A : Arena} {o : Out} {k : List KC} {v0 d1 v2 d3 d4 : AV} (h : iter (evC E fuel lp60x0) mask60x0 fuel (st60x0 v0 v2) A = some o) :
    run E fuel (.code (.loop [1, 3, 4] lp60x0) :: k) [v0, d1, v2, d3, d4] A = after E fuel k o := run_loopC mask60x0 _ _ (by rw [cl60x0]; exact h)
set_option maxHeartbeats 4000000 in
theorem comp60 : compFun Tryd.prog Tryd.f60 1 [0, 2, 3, 5, 15] [] true ([[1, 3, 4]], [[1, 3, 4], [0, 1, 3, 4]]) = some mf60 := by kernel_rfl
theorem at60 : Tryd.prog.funcs[60]? = some Tryd.f60 := by kernel_rfl
def mf61 : MFun := ⟨2, 7, .seq (.region [⟨some 2, .mv (.cst (.str [])), none⟩, ⟨some 3, .mv (.cst (.str [])), none⟩, ⟨some 4, .mv (.cst (.bool false)), none⟩]) (.seq (.seq (.region [⟨none, .mv (.var 0), none⟩, ⟨none, .mv (.var 1), none⟩, ⟨none, .call (.fn 68) [.tmp 0, .tmp 1], none⟩, ⟨some 5, .mv (.tmp 2), none⟩]) (.seq (.region [⟨none, .mv (.var 5), none⟩, ⟨some 6, .bin .geq (.tmp 0) (.cst (.int .i64 0)), none⟩]) (.cond (.var 6) (.seq (.region [⟨none, .mv (.var 0), none⟩, ⟨none, .mv (.var 5), none⟩, ⟨none, .sliceStr (.tmp 0) none (some (.tmp 1)), none⟩, ⟨none, .mv (.var 0), none⟩, ⟨none, .mv (.var 5), none⟩, ⟨none, .mv (.var 1), none⟩, ⟨none, .lenStr (.tmp 5), none⟩, ⟨none, .bin .add (.tmp 4) (.tmp 6), none⟩, ⟨none, .sliceStr (.tmp 3) (some (.tmp 7)) none, none⟩, ⟨some 2, .mv (.tmp 2), none⟩, ⟨some 3, .mv (.tmp 8), none⟩, ⟨some 4, .mv (.cst (.bool true)), none⟩]) .ret) .skip))) (.seq (.region [⟨none, .mv (.var 0), none⟩, ⟨some 2, .mv (.tmp 0), none⟩, ⟨some 3, .mv (.cst (.str [])), none⟩, ⟨some 4, .mv (.cst (.bool false)), none⟩]) .ret)), [.tmp 2, .tmp 3, .tmp 4]⟩
set_option maxHeartbeats 4000000 in
theorem comp61 : compFun Tryd.prog Tryd.f61 2 [0, 1, 4, 5, 6, 7, 12] [] true ([], []) = some mf61 := by kernel_rfl
theorem at61 : Tryd.prog.funcs[61]? = some Tryd.f61 := by kernel_rfl
def mf64 : MFun := ⟨1, 2, .seq (.region [⟨some 1, .mv (.cst (.bool false)), none⟩]) (.seq (.region [⟨none, .mv (.var 0), none⟩, ⟨none, .mv (.var 0), none⟩, ⟨none, .bin .neq (.tmp 0) (.tmp 1), none⟩, ⟨some 1, .mv (.tmp 2), none⟩]) .ret), [.tmp 1]⟩
set_option maxHeartbeats 4000000 in
theorem comp64 : compFun Tryd.prog Tryd.f64 1 [0, 2] [] true ([], []) = some mf64 := by kernel_rfl
theorem at64 : Tryd.prog.funcs[64]? = some Tryd.f64 := by kernel_rfl
end Go.Proofs.YtfplfkcgjdkdaaaDoor
/-
  Ratio: sizes, divisors, what is valid (46, 45, 55, 54, 14, 19, 35, 56).
-/
namespace Go.Proofs.YtfplfkcgjdkdaaaDoor
namespace Rat0
open Go

/-! ### the package-level variables -/
def errA (l : List UInt8) : List AV := [.iface 129 (.fp [.str l])]
def pow10A : List AV := Lib.pow10Tab.map (.int .u64 ·)
def GR : Nat → Option (List AV) := fun g =>
  if g = 0 then some (errA [109, 105, 115, 102, 105, 116])
  else if g = 2 then some (errA [105, 110, 118, 97, 108, 105, 100, 32, 115, 121, 110, 116, 97, 120])
  else if g = 3 then some (errA [118, 97, 108, 117, 101, 32, 111, 117, 116, 32, 111, 102, 32, 114, 97, 110, 103, 101])
  else if g = 4 then some pow10A else none

/-- a fraction as a value -/
def qA (a : Q) : AV := .agg [.int .i64 a.n, .int .i64 a.d]
def InQ (a : Q) : Prop := inI a.n ∧ inI a.d
theorem Ok.inQ {a : Q} (h : Ok a) : InQ a := by
  obtain ⟨h1, h2, h3, h4, _⟩ := h
  unfold lim at *
  exact ⟨⟨by omega, by omega⟩, ⟨by omega, by omega⟩⟩

/-! ### sizes -/
theorem wrap_abs {n : Int} (h : inI n) (hn : n < 0) : IntKind.u64.wrap (0 - IntKind.u64.wrap n) = (n.natAbs : Int) := by
  unfold inI at h
  unfold IntKind.wrap
  simp [IntKind.signed, IntKind.bits]
  omega
noncomputable def M46 : PModel := fun args => evP (envOf GR []) 0 mf46 1 args
theorem spec46 : PureSpec Tryd.prog GR 46 M46 := PureSpec.of_ev (E := envOf GR []) (envOf_sound lookM_nil) rfl at46 comp46 1 fun _ _ h => ⟨0, h⟩
theorem M46_eq {n : Int} (h : inI n) : M46 [.int .i64 n] = some (.int .u64 (n.natAbs : Int)) := by
  unfold M46
  rw [evP_run _ _ rfl]
  by_cases hn : n < 0
  · have w := wrap_abs h hn
    rw [Int.zero_sub] at w
    simp [mf46, hn, w]
  · have w : IntKind.u64.wrap n = (n.natAbs : Int) := by
      unfold inI at h
      rw [wrapU64 (by omega)]; omega
    simp [mf46, hn, w]
theorem wrap_size {n : Int} (h : inI n) (hn : n < 0) : IntKind.u64.wrap (IntKind.u64.wrap (IntKind.i64.wrap (0 - IntKind.i64.wrap (n + 1))) + 1) = (n.natAbs : Int) := by
  unfold inI at h
  rw [wrapI (a := n + 1) (by unfold inI; omega), wrapI (by unfold inI; omega), wrapU64 (a := 0 - (n + 1)) (by omega), wrapU64 (by omega)]
  omega
noncomputable def M55 : PModel := fun args => evP (envOf GR []) 0 mf55 1 args
theorem spec55 : PureSpec Tryd.prog GR 55 M55 := PureSpec.of_ev (E := envOf GR []) (envOf_sound lookM_nil) rfl at55 comp55 1 fun _ _ h => ⟨0, h⟩
theorem M55_eq {n : Int} (h : inI n) : M55 [.int .i64 n] = some (.int .u64 (n.natAbs : Int)) := by
  unfold M55
  rw [evP_run _ _ rfl]
  by_cases hn : n < 0
  · have w := wrap_size h hn
    rw [Int.zero_sub] at w
    simp [mf55, hn, w]
  · have w : IntKind.u64.wrap n = (n.natAbs : Int) := by
      unfold inI at h
      rw [wrapU64 (by omega)]; omega
    simp [mf55, hn, w]

/-! ### divisors -/
theorem gcd_loop (E : Env) (fuel : Nat) (A : Arena) : ∀ (m b a : Nat), b < m → ∃ v, iter (evC E fuel lp45x0) mask45x0 m (st45x0 (.int .u64 (a : Int)) (.int .u64 (b : Int))) A = some (.exit 0 [.int .u64 (Nat.gcd a b : Nat), .int .u64 0, .undef, v] A)
  | 0, b, a, h => by omega
  | m + 1, b, a, h => by
    rw [iter_succ, cl45x0]
    by_cases hb : b = 0
    · subst hb
      exact ⟨.bool false, by simp [lp45x0]⟩
    · obtain ⟨v, ih⟩ := gcd_loop E fuel A m (a % b) b (by have := Nat.mod_lt a (show 0 < b by omega); omega)
      have e : evBin .rem (.int .u64 (a : Int)) (.int .u64 (b : Int)) = some (.int .u64 ((a % b : Nat) : Int)) := by
        simp [evBin, hb, Int.tmod_eq_emod_of_nonneg]
      have n : evBin .neq (.int .u64 (b : Int)) (.int .u64 0) = some (.bool true) := by simp [evBin]; omega
      refine ⟨v, ?_⟩
      rw [show Nat.gcd a b = Nat.gcd b (a % b) by rw [Nat.gcd_comm, Nat.gcd_rec, Nat.gcd_comm]]
      simpa [lp45x0, e, n, -evBin] using ih
open Classical in
noncomputable def M45 : PModel := fun args => match args with
  | [.int .u64 a, .int .u64 b] => if 0 ≤ a ∧ 0 ≤ b then some (.int .u64 (Nat.gcd a.toNat b.toNat : Nat)) else none
  | _ => none
theorem spec45 : PureSpec Tryd.prog GR 45 M45 := by
  refine PureSpec.of_ev (E := envOf GR []) (envOf_sound lookM_nil) rfl at45 comp45 1 ?_
  intro args r h
  unfold M45 at h
  split at h
  · rename_i a b
    simp only [Option.ite_none_right_eq_some, Option.some.injEq] at h
    obtain ⟨⟨ha, hb⟩, rfl⟩ := h
    obtain ⟨x, rfl⟩ := Int.eq_ofNat_of_zero_le ha
    obtain ⟨y, rfl⟩ := Int.eq_ofNat_of_zero_le hb
    obtain ⟨v, hv⟩ := gcd_loop (envOf GR []) (y + 1) [] (y + 1) y x (by omega)
    refine ⟨y + 1, ?_⟩
    rw [evP_run _ _ rfl]
    simp [mf45, go45x0 hv]
  · cases h
theorem M45_eq (a b : Nat) : M45 [.int .u64 (a : Int), .int .u64 (b : Int)] = some (.int .u64 (Nat.gcd a b : Nat)) := by
  simp [M45]
theorem div_loop (E : Env) (fuel : Nat) (A : Arena) : ∀ (m b a : Nat), b < m → ∃ v, iter (evC E fuel lp54x0) mask54x0 m (st54x0 (.int .u64 (a : Int)) (.int .u64 (b : Int))) A = some (.exit 0 [.int .u64 (Nat.gcd a b : Nat), .int .u64 0, .undef, v] A)
  | 0, b, a, h => by omega
  | m + 1, b, a, h => by
    rw [iter_succ, cl54x0]
    by_cases hb : b = 0
    · subst hb
      exact ⟨.bool false, by simp [lp54x0]⟩
    · obtain ⟨v, ih⟩ := div_loop E fuel A m (a % b) b (by have := Nat.mod_lt a (show 0 < b by omega); omega)
      have e : evBin .rem (.int .u64 (a : Int)) (.int .u64 (b : Int)) = some (.int .u64 ((a % b : Nat) : Int)) := by
        simp [evBin, hb, Int.tmod_eq_emod_of_nonneg]
      have n : evBin .gtr (.int .u64 (b : Int)) (.int .u64 0) = some (.bool true) := by simp [evBin]; omega
      refine ⟨v, ?_⟩
      rw [show Nat.gcd a b = Nat.gcd b (a % b) by rw [Nat.gcd_comm, Nat.gcd_rec, Nat.gcd_comm]]
      simpa [lp54x0, e, n, -evBin] using ih
theorem spec54 : PureSpec Tryd.prog GR 54 M45 := by
  refine PureSpec.of_ev (E := envOf GR []) (envOf_sound lookM_nil) rfl at54 comp54 1 ?_
  intro args r h
  unfold M45 at h
  split at h
  · rename_i a b
    simp only [Option.ite_none_right_eq_some, Option.some.injEq] at h
    obtain ⟨⟨ha, hb⟩, rfl⟩ := h
    obtain ⟨x, rfl⟩ := Int.eq_ofNat_of_zero_le ha
    obtain ⟨y, rfl⟩ := Int.eq_ofNat_of_zero_le hb
    obtain ⟨v, hv⟩ := div_loop (envOf GR []) (y + 1) [] (y + 1) y x (by omega)
    refine ⟨y + 1, ?_⟩
    rw [evP_run _ _ rfl]
    simp [mf54, go54x0 hv]
  · cases h

/-! ### a fraction, and what is valid -/
noncomputable def M14 : PModel := fun args => evP (envOf GR []) 0 mf14 2 args
theorem spec14 : PureSpec Tryd.prog GR 14 M14 := PureSpec.of_ev (E := envOf GR []) (envOf_sound lookM_nil) rfl at14 comp14 2 fun _ _ h => ⟨0, h⟩
theorem M14_eq (n d : Int) : M14 [.int .i64 n, .int .i64 d] = some (qA ⟨n, d⟩) := by
  unfold M14
  rw [evP_run _ _ rfl]
  simp [mf14, qA]
theorem Ok_iff (n d : Int) : Ok ⟨n, d⟩ ↔ 0 < d ∧ d ≤ 1000000000 ∧ ((n.natAbs : Nat) : Int) ≤ 1000000000 ∧ (Nat.gcd n.natAbs d.natAbs : Nat) = 1 := by
  unfold Ok lim
  simp only [Int.gcd]
  constructor
  · rintro ⟨h1, h2, h3, h4, h5⟩; exact ⟨h1, h2, by omega, h5⟩
  · rintro ⟨h1, h2, h3, h5⟩; exact ⟨h1, h2, by omega, by omega, h5⟩
noncomputable def fs19 : List (FuncId × HModel) := [(46, pureH 4 M46), (45, pureH 4 M45)]
@[simp] theorem fs19_46 : lookM fs19 46 = some (pureH 4 M46) := rfl
@[simp] theorem fs19_45 : lookM fs19 45 = some (pureH 4 M45) := rfl
noncomputable def M19 : PModel := fun args => evP (envOf GR fs19) 0 mf19 1 args
theorem spec19 : PureSpec Tryd.prog GR 19 M19 := PureSpec.of_ev (E := envOf GR fs19) (envOf_sound (lookM_cons (FnSpecY.of_pure spec46 4) (lookM_cons (FnSpecY.of_pure spec45 4) lookM_nil))) rfl at19 comp19 1 fun _ _ h => ⟨0, h⟩
theorem M19_eq {a : Q} (h : InQ a) : M19 [qA a] = some (.bool (decide (Ok a))) := by
  obtain ⟨n, d⟩ := a
  have m1 := M46_eq h.1
  have m2 := M46_eq h.2
  have m3 := M45_eq n.natAbs d.natAbs
  simp only at m1 m2
  have e : decide (Ok ⟨n, d⟩) = (decide (0 < d) && (decide (d ≤ 1000000000) && (decide (((n.natAbs : Nat) : Int) ≤ 1000000000) && decide (((Nat.gcd n.natAbs d.natAbs : Nat) : Int) = 1)))) := by
    rw [Bool.eq_iff_iff]
    simp only [Bool.and_eq_true, decide_eq_true_eq, Ok_iff]
    omega
  rw [e]
  obtain ⟨x, hx⟩ : ∃ x : Int, x = (n.natAbs : Nat) := ⟨_, rfl⟩
  obtain ⟨y, hy⟩ : ∃ y : Int, y = (d.natAbs : Nat) := ⟨_, rfl⟩
  obtain ⟨z, hz⟩ : ∃ z : Int, z = (Nat.gcd n.natAbs d.natAbs : Nat) := ⟨_, rfl⟩
  rw [← hx, ← hy, ← hz] at m3
  rw [← hx] at m1
  rw [← hy] at m2
  rw [← hx, ← hz]
  have b1 : evBin .gtr (.int .i64 d) (.int .i64 0) = some (.bool (decide (0 < d))) := by simp [evBin]
  have b2 : evBin .leq (.int .i64 d) (.int .i64 1000000000) = some (.bool (decide (d ≤ 1000000000))) := by simp [evBin]
  have b3 : evBin .leq (.int .u64 x) (.int .u64 1000000000) = some (.bool (decide (x ≤ 1000000000))) := by simp [evBin]
  have b4 : evBin .eql (.int .u64 z) (.int .u64 1) = some (.bool (decide (z = 1))) := by simp [evBin]
  obtain ⟨p1, h1⟩ : ∃ p, p = decide (0 < d) := ⟨_, rfl⟩
  obtain ⟨p2, h2⟩ : ∃ p, p = decide (d ≤ 1000000000) := ⟨_, rfl⟩
  obtain ⟨p3, h3⟩ : ∃ p, p = decide (x ≤ 1000000000) := ⟨_, rfl⟩
  obtain ⟨p4, h4⟩ : ∃ p, p = decide (z = 1) := ⟨_, rfl⟩
  rw [← h1] at b1 ⊢
  rw [← h2] at b2 ⊢
  rw [← h3] at b3 ⊢
  rw [← h4] at b4 ⊢
  clear h1 h2 h3 h4 hx hy hz e
  unfold M19
  rw [evP_run _ _ rfl]
  cases p1 <;> cases p2 <;> cases p3 <;> cases p4 <;> simp [mf19, qA, m1, m2, m3, b1, b2, b3, b4, -evBin]
noncomputable def fs35 : List (FuncId × HModel) := [(55, pureH 4 M55), (54, pureH 4 M45)]
@[simp] theorem fs35_55 : lookM fs35 55 = some (pureH 4 M55) := rfl
@[simp] theorem fs35_54 : lookM fs35 54 = some (pureH 4 M45) := rfl
noncomputable def M35 : PModel := fun args => evP (envOf GR fs35) 0 mf35 1 args
theorem spec35 : PureSpec Tryd.prog GR 35 M35 := PureSpec.of_ev (E := envOf GR fs35) (envOf_sound (lookM_cons (FnSpecY.of_pure spec55 4) (lookM_cons (FnSpecY.of_pure spec54 4) lookM_nil))) rfl at35 comp35 1 fun _ _ h => ⟨0, h⟩
set_option maxHeartbeats 4000000 in
theorem M35_eq {a : Q} (h : InQ a) : M35 [qA a] = some (.bool (decide (Ok a))) := by
  obtain ⟨n, d⟩ := a
  have m1 := M55_eq h.1
  have m2 := M55_eq h.2
  have m3 := M45_eq n.natAbs d.natAbs
  simp only at m1 m2
  have e : decide (Ok ⟨n, d⟩) = (decide (1 ≤ d) && (decide (d ≤ 1000000000) && (decide (-1000000000 ≤ n) && (decide (n ≤ 1000000000) && decide (((Nat.gcd n.natAbs d.natAbs : Nat) : Int) = 1))))) := by
    rw [Bool.eq_iff_iff]
    simp only [Bool.and_eq_true, decide_eq_true_eq, Ok_iff]
    omega
  rw [e]
  obtain ⟨x, hx⟩ : ∃ x : Int, x = (n.natAbs : Nat) := ⟨_, rfl⟩
  obtain ⟨y, hy⟩ : ∃ y : Int, y = (d.natAbs : Nat) := ⟨_, rfl⟩
  obtain ⟨z, hz⟩ : ∃ z : Int, z = (Nat.gcd n.natAbs d.natAbs : Nat) := ⟨_, rfl⟩
  rw [← hx, ← hy, ← hz] at m3
  rw [← hx] at m1
  rw [← hy] at m2
  rw [← hz]
  have b1 : evBin .geq (.int .i64 d) (.int .i64 1) = some (.bool (decide (1 ≤ d))) := by simp [evBin]
  have b2 : evBin .leq (.int .i64 d) (.int .i64 1000000000) = some (.bool (decide (d ≤ 1000000000))) := by simp [evBin]
  have b3 : evBin .geq (.int .i64 n) (.int .i64 (-1000000000)) = some (.bool (decide (-1000000000 ≤ n))) := by simp [evBin]
  have b5 : evBin .leq (.int .i64 n) (.int .i64 1000000000) = some (.bool (decide (n ≤ 1000000000))) := by simp [evBin]
  have b4 : evBin .eql (.int .u64 z) (.int .u64 1) = some (.bool (decide (z = 1))) := by simp [evBin]
  obtain ⟨p1, h1⟩ : ∃ p, p = decide (1 ≤ d) := ⟨_, rfl⟩
  obtain ⟨p2, h2⟩ : ∃ p, p = decide (d ≤ 1000000000) := ⟨_, rfl⟩
  obtain ⟨p3, h3⟩ : ∃ p, p = decide (-1000000000 ≤ n) := ⟨_, rfl⟩
  obtain ⟨p5, h5⟩ : ∃ p, p = decide (n ≤ 1000000000) := ⟨_, rfl⟩
  obtain ⟨p4, h4⟩ : ∃ p, p = decide (z = 1) := ⟨_, rfl⟩
  rw [← h1] at b1 ⊢
  rw [← h2] at b2 ⊢
  rw [← h3] at b3 ⊢
  rw [← h5] at b5 ⊢
  rw [← h4] at b4 ⊢
  clear h1 h2 h3 h4 h5 hx hy hz e
  unfold M35
  rw [evP_run _ _ rfl]
  cases p1 <;> cases p2 <;> cases p3 <;> cases p5 <;> cases p4 <;> simp [mf35, qA, m1, m2, m3, b1, b2, b3, b4, b5, -evBin]
noncomputable def fs56 : List (FuncId × HModel) := [(35, pureH 4 M35)]
@[simp] theorem fs56_35 : lookM fs56 35 = some (pureH 4 M35) := rfl
noncomputable def M56 : PModel := fun args => evP (envOf GR fs56) 0 mf56 1 args
theorem spec56 : PureSpec Tryd.prog GR 56 M56 := PureSpec.of_ev (E := envOf GR fs56) (envOf_sound (lookM_cons (FnSpecY.of_pure spec35 4) lookM_nil)) rfl at56 comp56 1 fun _ _ h => ⟨0, h⟩
theorem M56_eq {a b : Q} (ha : InQ a) (hb : InQ b) : M56 [qA a, qA b] = some (.bool (decide (Ok a ∧ Ok b))) := by
  have m1 := M35_eq ha
  have m2 := M35_eq hb
  rw [show decide (Ok a ∧ Ok b) = (decide (Ok a) && decide (Ok b)) by by_cases h1 : Ok a <;> by_cases h2 : Ok b <;> simp [h1, h2]]
  obtain ⟨p1, h1⟩ : ∃ p, p = decide (Ok a) := ⟨_, rfl⟩
  obtain ⟨p2, h2⟩ : ∃ p, p = decide (Ok b) := ⟨_, rfl⟩
  rw [← h1] at m1 ⊢
  rw [← h2] at m2 ⊢
  clear h1 h2
  unfold M56
  rw [evP_run _ _ rfl]
  unfold qA at m1 m2 ⊢
  cases p1 <;> cases p2 <;> simp [mf56, m1, m2]
end Rat0
end Go.Proofs.YtfplfkcgjdkdaaaDoor
/-
  Ratio: Make (18, 28), floor (47, 58), Floor (20, 37), Compare (64, 48, 21, 36), Clamp (24, 38).
-/
namespace Go.Proofs.YtfplfkcgjdkdaaaDoor
namespace Rat0
open Go

/-- a fraction, or ErrRatio -/
def resA : Option Q → AV
  | some r => .tup [qA r, .int .i64 0]
  | none => .tup [qA ⟨0, 0⟩, .int .i64 30]
theorem mkQ_quo {n d : Int} (hd : d ≠ 0) : mkQ n d = if n.natAbs / Nat.gcd n.natAbs d.natAbs ≤ 1000000000 ∧ d.natAbs / Nat.gcd n.natAbs d.natAbs ≤ 1000000000 then
    some ⟨if decide (n < 0) = decide (d < 0) then (n.natAbs / Nat.gcd n.natAbs d.natAbs : Nat) else -(n.natAbs / Nat.gcd n.natAbs d.natAbs : Nat), (d.natAbs / Nat.gcd n.natAbs d.natAbs : Nat)⟩ else none := by
  unfold mkQ
  rw [if_neg hd]
  rfl
theorem quo_eq {n : Int} (h : inI n) (k : Nat) (hk : 0 < k) : evBin .quo (.int .u64 (n.natAbs : Int)) (.int .u64 (k : Int)) = some (.int .u64 ((n.natAbs / k : Nat) : Int)) := by
  unfold inI at h
  have e : ((n.natAbs : Nat) : Int).tdiv (k : Int) = ((n.natAbs / k : Nat) : Int) := by simp [Int.tdiv_eq_ediv_of_nonneg]
  have l : n.natAbs / k ≤ n.natAbs := Nat.div_le_self _ _
  simp only [evBin, if_true, e]
  obtain ⟨q, hq⟩ : ∃ q, q = n.natAbs / k := ⟨_, rfl⟩
  rw [← hq] at l ⊢
  rw [if_neg (by omega), wrapU64 (by omega)]
noncomputable def fs18 : List (FuncId × HModel) := [(46, pureH 4 M46), (45, pureH 4 M45)]
@[simp] theorem fs18_46 : lookM fs18 46 = some (pureH 4 M46) := rfl
@[simp] theorem fs18_45 : lookM fs18 45 = some (pureH 4 M45) := rfl
noncomputable def M18 : PModel := fun args => evP (envOf GR fs18) 0 mf18 2 args
theorem spec18 : PureSpec Tryd.prog GR 18 M18 := PureSpec.of_ev (E := envOf GR fs18) (envOf_sound (lookM_cons (FnSpecY.of_pure spec46 4) (lookM_cons (FnSpecY.of_pure spec45 4) lookM_nil))) rfl at18 comp18 2 fun _ _ h => ⟨0, h⟩
set_option maxHeartbeats 4000000 in
theorem M18_eq {n d : Int} (hn : inI n) (hd : inI d) : M18 [.int .i64 n, .int .i64 d] = some (resA (mkQ n d)) := by
  unfold M18
  rw [evP_run _ _ rfl]
  by_cases h0 : d = 0
  · subst h0
    have e : mkQ n 0 = none := by simp [mkQ]
    rw [e]
    simp [mf18, resA, qA]
  · have m1 := M46_eq hn
    have m2 := M46_eq hd
    have m3 := M45_eq n.natAbs d.natAbs
    have hk : 0 < Nat.gcd n.natAbs d.natAbs := Nat.gcd_pos_of_pos_right _ (by omega)
    have q1 := quo_eq hn _ hk
    have q2 := quo_eq hd _ hk
    rw [mkQ_quo h0]
    obtain ⟨k, hk'⟩ : ∃ k, k = Nat.gcd n.natAbs d.natAbs := ⟨_, rfl⟩
    rw [← hk'] at m3 q1 q2 ⊢
    obtain ⟨x, hx⟩ : ∃ x, x = n.natAbs / k := ⟨_, rfl⟩
    obtain ⟨y, hy⟩ : ∃ y, y = d.natAbs / k := ⟨_, rfl⟩
    rw [← hx] at q1 ⊢
    rw [← hy] at q2 ⊢
    obtain ⟨u, hu⟩ : ∃ u : Int, u = (n.natAbs : Nat) := ⟨_, rfl⟩
    obtain ⟨v, hv⟩ : ∃ v : Int, v = (d.natAbs : Nat) := ⟨_, rfl⟩
    rw [← hu] at m1 m3 q1
    rw [← hv] at m2 m3 q2
    clear hk hk' hx hy hu hv
    have b0 : evBin .eql (.int .i64 d) (.int .i64 0) = some (.bool false) := by simp [evBin, h0]
    have b1 : evBin .lss (.int .i64 n) (.int .i64 0) = some (.bool (decide (n < 0))) := by simp [evBin]
    have b2 : evBin .lss (.int .i64 d) (.int .i64 0) = some (.bool (decide (d < 0))) := by simp [evBin]
    have mm : evMinL true (.int .u64 (x : Int)) [.int .u64 (y : Int)] = some (.int .u64 (max (x : Int) (y : Int))) := by simp; split <;> omega
    have b3 : evBin .gtr (.int .u64 (max (x : Int) (y : Int))) (.int .u64 1000000000) = some (.bool (!decide (x ≤ 1000000000 ∧ y ≤ 1000000000))) := by
      simp only [evBin, if_true, Option.some.injEq, AV.bool.injEq]
      by_cases h1 : x ≤ 1000000000 ∧ y ≤ 1000000000 <;> simp [h1] <;> omega
    obtain ⟨m, hm⟩ : ∃ m : Int, m = max (x : Int) (y : Int) := ⟨_, rfl⟩
    rw [← hm] at mm b3
    clear hm
    by_cases hl : x ≤ 1000000000 ∧ y ≤ 1000000000
    · have w1 : IntKind.i64.wrap (x : Int) = x := wrapI (by unfold inI; omega)
      have w2 : IntKind.i64.wrap (y : Int) = y := wrapI (by unfold inI; omega)
      have w3 : IntKind.i64.wrap (-(x : Int)) = -x := wrapI (by unfold inI; omega)
      rw [if_pos hl]
      simp only [hl, and_self, decide_true, Bool.not_true] at b3
      clear hl h0
      obtain ⟨p1, h1⟩ : ∃ p, p = decide (n < 0) := ⟨_, rfl⟩
      obtain ⟨p2, h2⟩ : ∃ p, p = decide (d < 0) := ⟨_, rfl⟩
      rw [← h1] at b1 ⊢
      rw [← h2] at b2 ⊢
      clear h1 h2
      obtain ⟨X, hX⟩ : ∃ X : Int, X = (x : Int) := ⟨_, rfl⟩
      obtain ⟨Y, hY⟩ : ∃ Y : Int, Y = (y : Int) := ⟨_, rfl⟩
      rw [← hX] at q1 mm w1 w3 ⊢
      rw [← hY] at q2 mm w2 ⊢
      cases p1 <;> cases p2 <;> simp [mf18, m1, m2, m3, q1, q2, b0, b1, b2, mm, b3, w1, w2, w3, resA, qA, -evBin, -evMinL, -evMin2]
    · rw [if_neg hl]
      simp only [hl, decide_false, Bool.not_false] at b3
      clear hl h0
      obtain ⟨X, hX⟩ : ∃ X : Int, X = (x : Int) := ⟨_, rfl⟩
      obtain ⟨Y, hY⟩ : ∃ Y : Int, Y = (y : Int) := ⟨_, rfl⟩
      rw [← hX] at q1 mm
      rw [← hY] at q2 mm
      simp [mf18, m1, m2, m3, q1, q2, b0, mm, b3, resA, qA, -evBin, -evMinL, -evMin2]
noncomputable def fs28 : List (FuncId × HModel) := [(55, pureH 4 M55), (54, pureH 4 M45)]
@[simp] theorem fs28_55 : lookM fs28 55 = some (pureH 4 M55) := rfl
@[simp] theorem fs28_54 : lookM fs28 54 = some (pureH 4 M45) := rfl
noncomputable def M28 : PModel := fun args => evP (envOf GR fs28) 0 mf28 2 args
theorem spec28 : PureSpec Tryd.prog GR 28 M28 := PureSpec.of_ev (E := envOf GR fs28) (envOf_sound (lookM_cons (FnSpecY.of_pure spec55 4) (lookM_cons (FnSpecY.of_pure spec54 4) lookM_nil))) rfl at28 comp28 2 fun _ _ h => ⟨0, h⟩
set_option maxHeartbeats 4000000 in
theorem M28_eq {n d : Int} (hn : inI n) (hd : inI d) : M28 [.int .i64 n, .int .i64 d] = some (resA (mkQ n d)) := by
  unfold M28
  rw [evP_run _ _ rfl]
  by_cases h0 : d = 0
  · subst h0
    have e : mkQ n 0 = none := by simp [mkQ]
    rw [e]
    simp [mf28, resA, qA]
  · have m1 := M55_eq hn
    have m2 := M55_eq hd
    have m3 := M45_eq n.natAbs d.natAbs
    have hk : 0 < Nat.gcd n.natAbs d.natAbs := Nat.gcd_pos_of_pos_right _ (by omega)
    have q1 := quo_eq hn _ hk
    have q2 := quo_eq hd _ hk
    rw [mkQ_quo h0]
    obtain ⟨k, hk'⟩ : ∃ k, k = Nat.gcd n.natAbs d.natAbs := ⟨_, rfl⟩
    rw [← hk'] at m3 q1 q2 ⊢
    obtain ⟨x, hx⟩ : ∃ x, x = n.natAbs / k := ⟨_, rfl⟩
    obtain ⟨y, hy⟩ : ∃ y, y = d.natAbs / k := ⟨_, rfl⟩
    rw [← hx] at q1 ⊢
    rw [← hy] at q2 ⊢
    obtain ⟨u, hu⟩ : ∃ u : Int, u = (n.natAbs : Nat) := ⟨_, rfl⟩
    obtain ⟨v, hv⟩ : ∃ v : Int, v = (d.natAbs : Nat) := ⟨_, rfl⟩
    rw [← hu] at m1 m3 q1
    rw [← hv] at m2 m3 q2
    clear hk hk' hx hy hu hv
    have b0 : evBin .eql (.int .i64 d) (.int .i64 0) = some (.bool false) := by simp [evBin, h0]
    have b1 : evBin .lss (.int .i64 n) (.int .i64 0) = some (.bool (decide (n < 0))) := by simp [evBin]
    have b2 : evBin .lss (.int .i64 d) (.int .i64 0) = some (.bool (decide (d < 0))) := by simp [evBin]
    have b3 : evBin .gtr (.int .u64 (x : Int)) (.int .u64 1000000000) = some (.bool (!decide (x ≤ 1000000000))) := by
      simp only [evBin, if_true, Option.some.injEq, AV.bool.injEq]
      by_cases h1 : x ≤ 1000000000 <;> simp [h1] <;> omega
    have b4 : evBin .gtr (.int .u64 (y : Int)) (.int .u64 1000000000) = some (.bool (!decide (y ≤ 1000000000))) := by
      simp only [evBin, if_true, Option.some.injEq, AV.bool.injEq]
      by_cases h1 : y ≤ 1000000000 <;> simp [h1] <;> omega
    by_cases hl : x ≤ 1000000000 ∧ y ≤ 1000000000
    · have w1 : IntKind.i64.wrap (x : Int) = x := wrapI (by unfold inI; omega)
      have w2 : IntKind.i64.wrap (y : Int) = y := wrapI (by unfold inI; omega)
      have w3 : IntKind.i64.wrap (-(x : Int)) = -x := wrapI (by unfold inI; omega)
      rw [if_pos hl]
      simp only [hl.1, hl.2, decide_true, Bool.not_true] at b3 b4
      clear hl h0
      obtain ⟨p1, h1⟩ : ∃ p, p = decide (n < 0) := ⟨_, rfl⟩
      obtain ⟨p2, h2⟩ : ∃ p, p = decide (d < 0) := ⟨_, rfl⟩
      rw [← h1] at b1 ⊢
      rw [← h2] at b2 ⊢
      clear h1 h2
      obtain ⟨X, hX⟩ : ∃ X : Int, X = (x : Int) := ⟨_, rfl⟩
      obtain ⟨Y, hY⟩ : ∃ Y : Int, Y = (y : Int) := ⟨_, rfl⟩
      rw [← hX] at q1 b3 w1 w3 ⊢
      rw [← hY] at q2 b4 w2 ⊢
      cases p1 <;> cases p2 <;> simp [mf28, m1, m2, m3, q1, q2, b0, b1, b2, b3, b4, w1, w2, w3, resA, qA, -evBin]
    · rw [if_neg hl]
      have hl' : decide (x ≤ 1000000000) = false ∨ decide (y ≤ 1000000000) = false := by
        rw [decide_eq_false_iff_not, decide_eq_false_iff_not]; omega
      obtain ⟨p3, h3⟩ : ∃ p, p = decide (x ≤ 1000000000) := ⟨_, rfl⟩
      obtain ⟨p4, h4⟩ : ∃ p, p = decide (y ≤ 1000000000) := ⟨_, rfl⟩
      rw [← h3] at b3 hl'
      rw [← h4] at b4 hl'
      clear hl h0 h3 h4
      obtain ⟨X, hX⟩ : ∃ X : Int, X = (x : Int) := ⟨_, rfl⟩
      obtain ⟨Y, hY⟩ : ∃ Y : Int, Y = (y : Int) := ⟨_, rfl⟩
      rw [← hX] at q1 b3
      rw [← hY] at q2 b4
      cases p3 <;> cases p4 <;> (try simp at hl') <;> simp [mf28, m1, m2, m3, q1, q2, b0, b3, b4, resA, qA, -evBin]
end Rat0
end Go.Proofs.YtfplfkcgjdkdaaaDoor
/-
  Ratio: floor (47, 58), Floor (20, 37), Compare (64, 48, 21, 36), Clamp (24, 38).
-/
namespace Go.Proofs.YtfplfkcgjdkdaaaDoor
namespace Rat0
open Go

theorem tdiv_neg_floor {n d : Int} (hd : 0 < d) (hn : n < 0) : -((d - 1 - n).tdiv d) = n / d := by
  rw [Int.tdiv_eq_ediv_of_nonneg (by omega)]
  have e := Int.mul_ediv_add_emod n d
  have e1 := Int.emod_nonneg n (b := d) (by omega)
  have e2 := Int.emod_lt_of_pos n hd
  obtain ⟨q, hq⟩ : ∃ q, q = n / d := ⟨_, rfl⟩
  obtain ⟨r, hr⟩ : ∃ r, r = n % d := ⟨_, rfl⟩
  rw [← hq, ← hr] at e
  rw [← hr] at e1 e2
  rw [← hq]
  have : d - 1 - n = (d - 1 - r) + d * (-q) := by rw [← e, Int.mul_neg]; omega
  rw [this, Int.add_mul_ediv_left _ _ (by omega), Int.ediv_eq_zero_of_lt (by omega) (by omega)]
  omega
theorem ediv_in {n d : Int} (hd : 0 < d) (hn : inI n) : inI (n / d) := by
  unfold inI at *
  constructor
  · refine (Int.le_ediv_iff_mul_le hd).2 ?_
    have : (9223372036854775808 : Int) * 1 ≤ 9223372036854775808 * d := Int.mul_le_mul_of_nonneg_left (by omega) (by omega)
    omega
  · rcases Int.lt_or_le n 0 with h | h
    · have := Int.ediv_neg_of_neg_of_pos h hd
      omega
    · have := Int.ediv_le_self d h
      omega
noncomputable def M47 : PModel := fun args => evP (envOf GR []) 0 mf47 1 args
theorem spec47 : PureSpec Tryd.prog GR 47 M47 := PureSpec.of_ev (E := envOf GR []) (envOf_sound lookM_nil) rfl at47 comp47 1 fun _ _ h => ⟨0, h⟩
theorem M47_eq {n d : Int} (hd : 0 < d) (hn : inI n) (hl : inI (d - 1 - n)) (hl2 : inI d) : M47 [.int .i64 n, .int .i64 d] = some (.int .i64 (n / d)) := by
  have hi := ediv_in hd hn
  unfold M47
  rw [evP_run _ _ rfl]
  have hd0 : ¬ d = 0 := by omega
  by_cases h : n < 0
  · have w1 : IntKind.i64.wrap (d - 1) = d - 1 := wrapI (by unfold inI at *; omega)
    have w2 : IntKind.i64.wrap (d - 1 - n) = d - 1 - n := wrapI hl
    have e := tdiv_neg_floor hd h
    have w4 : IntKind.i64.wrap ((d - 1 - n).tdiv d) = (d - 1 - n).tdiv d := wrapI (by
      obtain ⟨t, ht⟩ : ∃ t, t = (d - 1 - n).tdiv d := ⟨_, rfl⟩
      have hq := Int.ediv_neg_of_neg_of_pos h hd
      obtain ⟨q, hq'⟩ : ∃ q, q = n / d := ⟨_, rfl⟩
      rw [← ht, ← hq'] at e
      rw [← hq'] at hi hq
      rw [← ht]
      have a1 : t ≤ d - 1 - n := by
        have := Int.ediv_le_self d (show 0 ≤ d - 1 - n by omega)
        rw [← Int.tdiv_eq_ediv_of_nonneg (by omega), ← ht] at this
        exact this
      unfold inI at *
      omega)
    have w3 : IntKind.i64.wrap (-((d - 1 - n).tdiv d)) = n / d := by rw [e]; exact wrapI hi
    simp [mf47, h, hd0, w1, w2, w3, w4]
  · have e : n.tdiv d = n / d := Int.tdiv_eq_ediv_of_nonneg (by omega)
    have w := wrapI hi
    simp [mf47, h, hd0, e, w]
noncomputable def M58 : PModel := fun args => evP (envOf GR []) 0 mf58 1 args
theorem spec58 : PureSpec Tryd.prog GR 58 M58 := PureSpec.of_ev (E := envOf GR []) (envOf_sound lookM_nil) rfl at58 comp58 1 fun _ _ h => ⟨0, h⟩
theorem M58_eq {n d : Int} (hd : 0 < d) (hn : inI n) : M58 [.int .i64 n, .int .i64 d] = some (.int .i64 (n / d)) := by
  have hi := ediv_in hd hn
  unfold M58
  rw [evP_run _ _ rfl]
  have hd0 : ¬ d = 0 := by omega
  have e1 := Int.mul_tdiv_add_tmod n d
  have e2 := Int.mul_ediv_add_emod n d
  have e3 := Int.emod_nonneg n (b := d) (by omega)
  have e4 := Int.emod_lt_of_pos n hd
  by_cases h : n.tmod d < 0
  · have e : n.tdiv d = n / d + 1 := by
      rcases Int.lt_or_le n 0 with hn0 | hn0
      · have a1 := Int.tmod_lt_of_pos (-n) hd
        have a2 : (-n).tmod d = -(n.tmod d) := Int.neg_tmod n d
        have a3 : n.tmod d < d := by omega
        obtain ⟨q, hq⟩ : ∃ q, q = n / d := ⟨_, rfl⟩
        obtain ⟨t, ht⟩ : ∃ t, t = n.tdiv d := ⟨_, rfl⟩
        rw [← hq] at e2
        rw [← ht] at e1
        rw [← hq, ← ht]
        have k1 : d * (t - q) = n % d - n.tmod d := by rw [Int.mul_sub]; omega
        have k2 : 0 < d * (t - q) := by omega
        have k3 : d * (t - q) < d * 2 := by omega
        have k4 : 0 < t - q := by
          rcases Int.lt_or_le 0 (t - q) with h | h
          · exact h
          · have := Int.mul_nonpos_of_nonneg_of_nonpos (Int.le_of_lt hd) h; omega
        have k5 : t - q < 2 := Int.lt_of_mul_lt_mul_left k3 (Int.le_of_lt hd)
        omega
      · have := Int.tmod_nonneg d hn0; omega
    have w1 : IntKind.i64.wrap (n / d + 1) = n / d + 1 := wrapI (by
      unfold inI at *
      refine ⟨by omega, ?_⟩
      have hn0 : n < 0 := by
        rcases Int.lt_or_le n 0 with h0 | h0
        · exact h0
        · have := Int.tmod_nonneg d h0; omega
      have := Int.ediv_neg_of_neg_of_pos hn0 hd
      omega)
    have w2 : IntKind.i64.wrap (n / d + 1 - 1) = n / d := by rw [Int.add_sub_cancel]; exact wrapI hi
    simp [mf58, h, hd0, e, w1, w2, -Int.add_sub_cancel]
  · have e : n.tdiv d = n / d := by
      rcases Int.lt_or_le n 0 with hn0 | hn0
      · have a2 : (-n).tmod d = -(n.tmod d) := Int.neg_tmod n d
        have a4 := Int.tmod_nonneg d (show 0 ≤ -n by omega)
        have a5 : n.tmod d = 0 := by omega
        rw [a5, Int.add_zero] at e1
        obtain ⟨t, ht⟩ : ∃ t, t = n.tdiv d := ⟨_, rfl⟩
        rw [← ht] at e1
        rw [← ht, ← e1, Int.mul_ediv_cancel_left _ hd0]
      · exact Int.tdiv_eq_ediv_of_nonneg hn0
    have w := wrapI hi
    simp [mf58, h, hd0, e, w]

/-! ### Floor -/
noncomputable def fs20 : List (FuncId × HModel) := [(19, pureH 4 M19), (47, pureH 4 M47)]
@[simp] theorem fs20_19 : lookM fs20 19 = some (pureH 4 M19) := rfl
@[simp] theorem fs20_47 : lookM fs20 47 = some (pureH 4 M47) := rfl
noncomputable def M20 : PModel := fun args => evP (envOf GR fs20) 0 mf20 1 args
theorem spec20 : PureSpec Tryd.prog GR 20 M20 := PureSpec.of_ev (E := envOf GR fs20) (envOf_sound (lookM_cons (FnSpecY.of_pure spec19 4) (lookM_cons (FnSpecY.of_pure spec47 4) lookM_nil))) rfl at20 comp20 1 fun _ _ h => ⟨0, h⟩
theorem M20_eq {a : Q} (ha : InQ a) : M20 [qA a] = some (.int .i64 (floorQ a)) := by
  have m := M19_eq ha
  unfold M20
  rw [evP_run _ _ rfl]
  unfold floorQ
  by_cases h : Ok a
  · have m2 := M47_eq (n := a.n) (d := a.d) h.1 ha.1 (by have := h; unfold Ok lim at this; unfold inI; omega) ha.2
    simp only [h, decide_true] at m
    rw [if_pos h]
    unfold qA at m ⊢
    simp [mf20, m, m2]
  · simp only [h, decide_false] at m
    rw [if_neg h]
    unfold qA at m ⊢
    simp [mf20, m]
noncomputable def fs37 : List (FuncId × HModel) := [(35, pureH 4 M35), (58, pureH 4 M58)]
@[simp] theorem fs37_35 : lookM fs37 35 = some (pureH 4 M35) := rfl
@[simp] theorem fs37_58 : lookM fs37 58 = some (pureH 4 M58) := rfl
noncomputable def M37 : PModel := fun args => evP (envOf GR fs37) 0 mf37 1 args
theorem spec37 : PureSpec Tryd.prog GR 37 M37 := PureSpec.of_ev (E := envOf GR fs37) (envOf_sound (lookM_cons (FnSpecY.of_pure spec35 4) (lookM_cons (FnSpecY.of_pure spec58 4) lookM_nil))) rfl at37 comp37 1 fun _ _ h => ⟨0, h⟩
theorem M37_eq {a : Q} (ha : InQ a) : M37 [qA a] = some (.int .i64 (floorQ a)) := by
  have m := M35_eq ha
  unfold M37
  rw [evP_run _ _ rfl]
  unfold floorQ
  by_cases h : Ok a
  · have m2 := M58_eq (n := a.n) (d := a.d) h.1 ha.1
    simp only [h, decide_true] at m
    rw [if_pos h]
    unfold qA at m ⊢
    simp [mf37, m, m2]
  · simp only [h, decide_false] at m
    rw [if_neg h]
    unfold qA at m ⊢
    simp [mf37, m]

/-! ### Compare -/
noncomputable def M64 : PModel := fun args => evP (envOf GR []) 0 mf64 1 args
theorem spec64 : PureSpec Tryd.prog GR 64 M64 := PureSpec.of_ev (E := envOf GR []) (envOf_sound lookM_nil) rfl at64 comp64 1 fun _ _ h => ⟨0, h⟩
theorem M64_eq (n : Int) : M64 [.int .i64 n] = some (.bool false) := by
  unfold M64
  rw [evP_run _ _ rfl]
  simp [mf64]
noncomputable def fs48 : List (FuncId × HModel) := [(64, pureH 4 M64)]
@[simp] theorem fs48_64 : lookM fs48 64 = some (pureH 4 M64) := rfl
noncomputable def M48 : PModel := fun args => evP (envOf GR fs48) 0 mf48 1 args
theorem spec48 : PureSpec Tryd.prog GR 48 M48 := PureSpec.of_ev (E := envOf GR fs48) (envOf_sound (lookM_cons (FnSpecY.of_pure spec64 4) lookM_nil)) rfl at48 comp48 1 fun _ _ h => ⟨0, h⟩
theorem M48_eq (x y : Int) : M48 [.int .i64 x, .int .i64 y] = some (.int .i64 (if x < y then -1 else if x = y then 0 else 1)) := by
  have m1 := M64_eq x
  have m2 := M64_eq y
  unfold M48
  rw [evP_run _ _ rfl]
  by_cases h : x < y
  · simp [mf48, m1, m2, h]
  · by_cases h2 : y < x
    · have h3 : ¬ x = y := by omega
      simp [mf48, m1, m2, h, h2, h3]
    · have h3 : x = y := by omega
      subst h3
      simp [mf48, m1]
/-- products of what is valid -/
theorem Ok.prod {a b : Q} (ha : Ok a) (hb : Ok b) : -1000000000000000000 ≤ a.n * b.d ∧ a.n * b.d ≤ 1000000000000000000 := by
  obtain ⟨a1, a2, a3, a4, _⟩ := ha
  obtain ⟨b1, b2, b3, b4, _⟩ := hb
  unfold lim at *
  have h1 := Int.mul_le_mul_of_nonneg_right a4 (show 0 ≤ b.d by omega)
  have h2 := Int.mul_le_mul_of_nonneg_right a3 (show 0 ≤ b.d by omega)
  rw [Int.neg_mul] at h2
  have h3 := Int.mul_le_mul_of_nonneg_left b2 (show (0 : Int) ≤ 1000000000 by omega)
  omega
theorem Ok.prodN {a b : Q} (ha : Ok a) (hb : Ok b) : -1000000000000000000 ≤ a.n * b.n ∧ a.n * b.n ≤ 1000000000000000000 := by
  obtain ⟨a1, a2, a3, a4, _⟩ := ha
  obtain ⟨b1, b2, b3, b4, _⟩ := hb
  unfold lim at *
  have h := Int.natAbs_mul a.n b.n
  have h1 : a.n.natAbs * b.n.natAbs ≤ 1000000000 * 1000000000 := Nat.mul_le_mul (by omega) (by omega)
  rw [← h] at h1
  omega
theorem Ok.prodD {a b : Q} (ha : Ok a) (hb : Ok b) : 0 < a.d * b.d ∧ a.d * b.d ≤ 1000000000000000000 := by
  obtain ⟨a1, a2, a3, a4, _⟩ := ha
  obtain ⟨b1, b2, b3, b4, _⟩ := hb
  unfold lim at *
  have h1 := Int.mul_le_mul_of_nonneg_right a2 (show 0 ≤ b.d by omega)
  exact ⟨Int.mul_pos a1 b1, by omega⟩
noncomputable def fs21 : List (FuncId × HModel) := [(19, pureH 4 M19), (48, pureH 4 M48)]
@[simp] theorem fs21_19 : lookM fs21 19 = some (pureH 4 M19) := rfl
@[simp] theorem fs21_48 : lookM fs21 48 = some (pureH 4 M48) := rfl
noncomputable def M21 : PModel := fun args => evP (envOf GR fs21) 0 mf21 1 args
theorem spec21 : PureSpec Tryd.prog GR 21 M21 := PureSpec.of_ev (E := envOf GR fs21) (envOf_sound (lookM_cons (FnSpecY.of_pure spec19 4) (lookM_cons (FnSpecY.of_pure spec48 4) lookM_nil))) rfl at21 comp21 1 fun _ _ h => ⟨0, h⟩
theorem M21_eq {a b : Q} (ha : InQ a) (hb : InQ b) : M21 [qA a, qA b] = some (.int .i64 (cmpQ a b)) := by
  have m1 := M19_eq ha
  have m2 := M19_eq hb
  unfold M21
  rw [evP_run _ _ rfl]
  unfold cmpQ
  by_cases h1 : Ok a
  · simp only [h1, decide_true] at m1
    by_cases h2 : Ok b
    · simp only [h2, decide_true] at m2
      have p1 := h1.prod h2
      have p2 := h2.prod h1
      have w1 : evBin .mul (.int .i64 a.n) (.int .i64 b.d) = some (.int .i64 (a.n * b.d)) := by
        simp only [evBin, if_true]; rw [wrapI (by unfold inI; omega)]
      have w2 : evBin .mul (.int .i64 b.n) (.int .i64 a.d) = some (.int .i64 (b.n * a.d)) := by
        simp only [evBin, if_true]; rw [wrapI (by unfold inI; omega)]
      rw [if_pos ⟨h1, h2⟩]
      have m3 := M48_eq (a.n * b.d) (b.n * a.d)
      obtain ⟨r, hr⟩ : ∃ r : Int, r = (if a.n * b.d < b.n * a.d then -1 else if a.n * b.d = b.n * a.d then 0 else 1) := ⟨_, rfl⟩
      rw [← hr] at m3 ⊢
      unfold qA at m1 m2 ⊢
      simp [mf21, m1, m2, m3, w1, w2, -evBin]
    · simp only [h2, decide_false] at m2
      rw [if_neg (fun h => h2 h.2)]
      unfold qA at m1 m2 ⊢
      simp [mf21, m1, m2]
  · simp only [h1, decide_false] at m1
    rw [if_neg (fun h => h1 h.1)]
    unfold qA at m1 ⊢
    simp [mf21, m1]
noncomputable def fs36 : List (FuncId × HModel) := [(56, pureH 4 M56)]
@[simp] theorem fs36_56 : lookM fs36 56 = some (pureH 4 M56) := rfl
noncomputable def M36 : PModel := fun args => evP (envOf GR fs36) 0 mf36 1 args
theorem spec36 : PureSpec Tryd.prog GR 36 M36 := PureSpec.of_ev (E := envOf GR fs36) (envOf_sound (lookM_cons (FnSpecY.of_pure spec56 4) lookM_nil)) rfl at36 comp36 1 fun _ _ h => ⟨0, h⟩
theorem M36_eq {a b : Q} (ha : InQ a) (hb : InQ b) : M36 [qA a, qA b] = some (.int .i64 (cmpQ a b)) := by
  have m := M56_eq ha hb
  unfold M36
  rw [evP_run _ _ rfl]
  unfold cmpQ
  by_cases h : Ok a ∧ Ok b
  · simp only [h, and_self, decide_true] at m
    have p1 := h.1.prod h.2
    have p2 := h.2.prod h.1
    have w1 : evBin .mul (.int .i64 a.n) (.int .i64 b.d) = some (.int .i64 (a.n * b.d)) := by
      simp only [evBin, if_true]; rw [wrapI (by unfold inI; omega)]
    have w2 : evBin .mul (.int .i64 b.n) (.int .i64 a.d) = some (.int .i64 (b.n * a.d)) := by
      simp only [evBin, if_true]; rw [wrapI (by unfold inI; omega)]
    rw [if_pos h]
    obtain ⟨x, hx⟩ : ∃ x, x = a.n * b.d := ⟨_, rfl⟩
    obtain ⟨y, hy⟩ : ∃ y, y = b.n * a.d := ⟨_, rfl⟩
    rw [← hx] at w1 ⊢
    rw [← hy] at w2 ⊢
    have b1 : evBin .eql (.int .i64 x) (.int .i64 y) = some (.bool (decide (x = y))) := by simp [evBin]
    have b2 : evBin .lss (.int .i64 x) (.int .i64 y) = some (.bool (decide (x < y))) := by simp [evBin]
    unfold qA at m ⊢
    by_cases h1 : x < y
    · have h2 : ¬ x = y := by omega
      simp only [h1, h2, decide_true, decide_false] at b1 b2
      simp [mf36, m, w1, w2, b1, b2, h1, -evBin]
    · by_cases h2 : x = y
      · simp only [h2, decide_true] at b1
        subst h2
        simp [mf36, m, w1, w2, b1, -evBin]
      · simp only [h1, h2, decide_false] at b1 b2
        simp [mf36, m, w1, w2, b1, b2, h1, h2, -evBin]
  · simp only [h, decide_false] at m
    rw [if_neg h]
    unfold qA at m ⊢
    simp [mf36, m]

/-! ### Clamp -/
def clampQ (a lo hi : Q) : Q := if Ok a ∧ Ok lo ∧ Ok hi then (if cmpQ a lo < 0 then lo else if 0 < cmpQ a hi then hi else a) else ⟨0, 0⟩
noncomputable def fs24 : List (FuncId × HModel) := [(19, pureH 4 M19), (21, pureH 4 M21)]
@[simp] theorem fs24_19 : lookM fs24 19 = some (pureH 4 M19) := rfl
@[simp] theorem fs24_21 : lookM fs24 21 = some (pureH 4 M21) := rfl
noncomputable def M24 : PModel := fun args => evP (envOf GR fs24) 0 mf24 2 args
theorem spec24 : PureSpec Tryd.prog GR 24 M24 := PureSpec.of_ev (E := envOf GR fs24) (envOf_sound (lookM_cons (FnSpecY.of_pure spec19 4) (lookM_cons (FnSpecY.of_pure spec21 4) lookM_nil))) rfl at24 comp24 2 fun _ _ h => ⟨0, h⟩
set_option maxHeartbeats 4000000 in
theorem M24_eq {a b c : Q} (ha : InQ a) (hb : InQ b) (hc : InQ c) : M24 [qA a, qA b, qA c] = some (qA (clampQ a b c)) := by
  have m1 := M19_eq ha
  have m2 := M19_eq hb
  have m3 := M19_eq hc
  have c1 := M21_eq ha hb
  have c2 := M21_eq ha hc
  unfold M24
  rw [evP_run _ _ rfl]
  unfold clampQ
  obtain ⟨r1, hr1⟩ : ∃ r, r = cmpQ a b := ⟨_, rfl⟩
  obtain ⟨r2, hr2⟩ : ∃ r, r = cmpQ a c := ⟨_, rfl⟩
  rw [← hr1] at c1 ⊢
  rw [← hr2] at c2 ⊢
  have b1 : evBin .lss (.int .i64 r1) (.int .i64 0) = some (.bool (decide (r1 < 0))) := by simp [evBin]
  have b2 : evBin .gtr (.int .i64 r2) (.int .i64 0) = some (.bool (decide (0 < r2))) := by simp [evBin]
  by_cases h1 : Ok a
  · simp only [h1, decide_true] at m1
    by_cases h2 : Ok b
    · simp only [h2, decide_true] at m2
      by_cases h3 : Ok c
      · simp only [h3, decide_true] at m3
        rw [if_pos ⟨h1, h2, h3⟩]
        by_cases g1 : r1 < 0
        · simp only [g1, decide_true] at b1
          rw [if_pos g1]
          unfold qA at *
          simp [mf24, m1, m2, m3, c1, b1, -evBin]
        · simp only [g1, decide_false] at b1
          rw [if_neg g1]
          by_cases g2 : 0 < r2
          · simp only [g2, decide_true] at b2
            rw [if_pos g2]
            unfold qA at *
            simp [mf24, m1, m2, m3, c1, c2, b1, b2, -evBin]
          · simp only [g2, decide_false] at b2
            rw [if_neg g2]
            unfold qA at *
            simp [mf24, m1, m2, m3, c1, c2, b1, b2, -evBin]
      · simp only [h3, decide_false] at m3
        rw [if_neg (fun h => h3 h.2.2)]
        unfold qA at *
        simp [mf24, m1, m2, m3]
    · simp only [h2, decide_false] at m2
      rw [if_neg (fun h => h2 h.2.1)]
      unfold qA at *
      simp [mf24, m1, m2]
  · simp only [h1, decide_false] at m1
    rw [if_neg (fun h => h1 h.1)]
    unfold qA at *
    simp [mf24, m1]
noncomputable def fs38 : List (FuncId × HModel) := [(56, pureH 4 M56), (35, pureH 4 M35), (36, pureH 4 M36)]
@[simp] theorem fs38_56 : lookM fs38 56 = some (pureH 4 M56) := rfl
@[simp] theorem fs38_35 : lookM fs38 35 = some (pureH 4 M35) := rfl
@[simp] theorem fs38_36 : lookM fs38 36 = some (pureH 4 M36) := rfl
noncomputable def M38 : PModel := fun args => evP (envOf GR fs38) 0 mf38 2 args
theorem spec38 : PureSpec Tryd.prog GR 38 M38 := PureSpec.of_ev (E := envOf GR fs38) (envOf_sound (lookM_cons (FnSpecY.of_pure spec56 4) (lookM_cons (FnSpecY.of_pure spec35 4) (lookM_cons (FnSpecY.of_pure spec36 4) lookM_nil)))) rfl at38 comp38 2 fun _ _ h => ⟨0, h⟩
set_option maxHeartbeats 4000000 in
theorem M38_eq {a b c : Q} (ha : InQ a) (hb : InQ b) (hc : InQ c) : M38 [qA a, qA b, qA c] = some (qA (clampQ a b c)) := by
  have m1 := M56_eq ha hb
  have m3 := M35_eq hc
  have c1 := M36_eq ha hb
  have c2 := M36_eq ha hc
  unfold M38
  rw [evP_run _ _ rfl]
  unfold clampQ
  obtain ⟨r1, hr1⟩ : ∃ r, r = cmpQ a b := ⟨_, rfl⟩
  obtain ⟨r2, hr2⟩ : ∃ r, r = cmpQ a c := ⟨_, rfl⟩
  rw [← hr1] at c1 ⊢
  rw [← hr2] at c2 ⊢
  have b1 : evBin .lss (.int .i64 r1) (.int .i64 0) = some (.bool (decide (r1 < 0))) := by simp [evBin]
  have b2 : evBin .gtr (.int .i64 r2) (.int .i64 0) = some (.bool (decide (0 < r2))) := by simp [evBin]
  by_cases h1 : Ok a ∧ Ok b
  · simp only [h1, and_self, decide_true] at m1
    by_cases h3 : Ok c
    · simp only [h3, decide_true] at m3
      rw [if_pos ⟨h1.1, h1.2, h3⟩]
      by_cases g1 : r1 < 0
      · simp only [g1, decide_true] at b1
        rw [if_pos g1]
        unfold qA at *
        simp [mf38, m1, m3, c1, b1, -evBin]
      · simp only [g1, decide_false] at b1
        rw [if_neg g1]
        by_cases g2 : 0 < r2
        · simp only [g2, decide_true] at b2
          rw [if_pos g2]
          unfold qA at *
          simp [mf38, m1, m3, c1, c2, b1, b2, -evBin]
        · simp only [g2, decide_false] at b2
          rw [if_neg g2]
          unfold qA at *
          simp [mf38, m1, m3, c1, c2, b1, b2, -evBin]
    · simp only [h3, decide_false] at m3
      rw [if_neg (fun h => h3 h.2.2)]
      unfold qA at *
      simp [mf38, m1, m3]
  · simp only [h1, decide_false] at m1
    rw [if_neg (fun h => h1 ⟨h.1, h.2.1⟩)]
    obtain ⟨p, hp⟩ : ∃ p, p = decide (Ok c) := ⟨_, rfl⟩
    rw [← hp] at m3
    unfold qA at *
    simp [mf38, m1, m3]
end Rat0
end Go.Proofs.YtfplfkcgjdkdaaaDoor
/-
  Ratio: of (51): what is valid is returned; what is not panics.
-/
namespace Go.Proofs.YtfplfkcgjdkdaaaDoor
namespace Rat0
open Go

noncomputable def fs51 : List (FuncId × HModel) := [(19, pureH 4 M19)]
@[simp] theorem fs51_19 : lookM fs51 19 = some (pureH 4 M19) := rfl
noncomputable def M51 : PModel := fun args => evP (envOf GR fs51) 0 mf51 2 args
theorem spec51 : PureSpec Tryd.prog GR 51 M51 := PureSpec.of_ev (E := envOf GR fs51) (envOf_sound (lookM_cons (FnSpecY.of_pure spec19 4) lookM_nil)) rfl at51 comp51 2 fun _ _ h => ⟨0, h⟩
theorem M51_eq {a : Q} (h : Ok a) : M51 [qA a] = some (qA a) := by
  have m := M19_eq h.inQ
  simp only [h, decide_true] at m
  unfold M51
  rw [evP_run _ _ rfl]
  unfold qA at m ⊢
  simp [mf51, m]

/-- nothing of the old memory has turned -/
theorem ext_below {w w' : World} {OK OK' : Nat → Prop} (h : Ext w OK Ghost.none w' OK' Ghost.none) : RowKit.Below w.heap.size w w' :=
  ⟨h.os, h.tape, h.output, h.size, fun b hb => h.blk b hb (fun _ _ (hx : _ ∈ []) => by cases hx)⟩
theorem below_ext {w w' : World} {OK : Nat → Prop} (_hok : ∀ b, OK b → b < w.heap.size) (h : RowKit.Below w.heap.size w w') : Ext w OK Ghost.none w' OK Ghost.none :=
  ⟨h.os, h.tape, h.output, h.size, fun b hb _ => h.block b hb, Ghost.le_refl _, fun _ h => h, fun id inc h => (by cases h), fun _ h => .inl h,
    fun b r hb _ => (h.block b (Array.getElem?_eq_some_iff.1 hb).1).trans hb, fun id inc h => (by cases h)⟩
theorem grel_below {w w' : World} {OK : Nat → Prop} (hok : ∀ b, OK b → b < w.heap.size) (hG : GRel GR w OK) (h : RowKit.Below w.heap.size w w') : GRel GR w' OK :=
  hG.mono (fun _ h => h) fun b hb => h.block b (hok b hb)
def qV (a : Q) : Value := .agg #[.int .i64 a.n, .int .i64 a.d]
theorem vrel_q {w : World} {OK : Nat → Prop} {g : Ghost} (a : Q) : VRel w OK g (qV a) (qA a) :=
  .agg _ _ _ rfl (fun i => if i = 0 then .int .i64 a.n else .int .i64 a.d) (fun i hi => by
    have : i = 0 ∨ i = 1 := by simp at hi; omega
    rcases this with rfl | rfl <;> exact ⟨rfl, rfl⟩) (fun i hi => by
    have : i = 0 ∨ i = 1 := by simp at hi; omega
    rcases this with rfl | rfl <;> exact .int _ _ _)
theorem inv_q {w : World} {OK : Nat → Prop} {g : Ghost} {a : Q} {v : Value} (h : VRel w OK g v (qA a)) : v = qV a := by
  obtain ⟨vs, vals, rfl, hl, hg, hv⟩ := h.inv_agg
  have h0 := (hv 0 (by simp)).inv_int
  have h1 := (hv 1 (by simp)).inv_int
  have g0 := (hg 0 (by simp)).1
  have g1 := (hg 1 (by simp)).1
  rw [h0] at g0
  rw [h1] at g1
  unfold qV
  congr 1
  apply Array.ext
  · simpa using hl
  · intro i hi1 hi2
    have : i = 0 ∨ i = 1 := by simp at hi2; omega
    rcases this with rfl | rfl
    · simpa [hi1] using g0
    · simpa [hi1] using g1

/-- what the variable errMisfit holds -/
theorem misfit {w : World} {OK : Nat → Prop} (hG : GRel GR w OK) : ∃ p : Addr, w.cell? ⟨0, 0, none⟩ = some (.iface 129 (.pointer (some p))) := by
  obtain ⟨b, o, T, c, fz, vals, hb, _, hh, _, hv, hc⟩ := (hG 0 _ rfl).1.inv_fp
  have hv0 := hv 0 (by decide)
  have hc0 := (hc 0 (by decide)).1
  injection hb with hb; injection hb with hb; injection hb with hb ho
  subst hb; subst ho
  generalize vals 0 = v0 at hv0 hc0
  cases hv0 with
  | iface _ t v a hv1 =>
    obtain ⟨b1, o1, _, _, _, _, rfl, _⟩ := hv1.inv_fp
    exact ⟨_, by simp only [World.cell?, hh]; exact hc0⟩

/-- Valid, called -/
theorem valid_calls {a : Q} (ha : InQ a) {w : World} {OK : Nat → Prop} (hok : ∀ b, OK b → b < w.heap.size) (hG : GRel GR w OK) :
    Calls Tryd.prog 19 #[.agg #[.int .i64 a.n, .int .i64 a.d]] w fun e w' => e = .returned (.bool (decide (Ok a))) ∧ RowKit.Below w.heap.size w w' := by
  refine (spec19.2 _ _ (M19_eq ha) w OK [qV a] hok hG ⟨vrel_q a, trivial⟩).mono ?_
  rintro e w' ⟨v, OK', rfl, hv, _, hx⟩
  rw [hv.inv_bool]
  exact ⟨rfl, ext_below hx⟩
/-- of, called with what is valid -/
theorem of_ok {a : Q} (ha : Ok a) {w : World} {OK : Nat → Prop} (hok : ∀ b, OK b → b < w.heap.size) (hG : GRel GR w OK) :
    Calls Tryd.prog 51 #[.agg #[.int .i64 a.n, .int .i64 a.d]] w fun e w' => e = .returned (.agg #[.int .i64 a.n, .int .i64 a.d]) ∧ RowKit.Below w.heap.size w w' := by
  refine (spec51.2 _ _ (M51_eq ha) w OK [qV a] hok hG ⟨vrel_q a, trivial⟩).mono ?_
  rintro e w' ⟨v, OK', rfl, hv, _, hx⟩
  rw [inv_q hv]
  exact ⟨rfl, ext_below hx⟩
/-- .. with what is not: it panics -/
theorem of_bad {a : Q} (ha : InQ a) (hn : ¬ Ok a) {w : World} {OK : Nat → Prop} (hok : ∀ b, OK b → b < w.heap.size) (hG : GRel GR w OK) {p : Addr} (hm : w.cell? ⟨0, 0, none⟩ = some (.iface 129 (.pointer (some p)))) :
    Calls Tryd.prog 51 #[.agg #[.int .i64 a.n, .int .i64 a.d]] w fun e w' => e = .panicked [{ v := .iface 129 (.pointer (some p)), recovered := false }] ∧ RowKit.Below w.heap.size w w' := by
  have key : ∀ w1 : World, RowKit.Below w.heap.size w w1 → Calls Tryd.prog 19 #[.agg #[.int .i64 a.n, .int .i64 a.d]] w1 fun e w' => e = .returned (.bool false) ∧ RowKit.Below w.heap.size w w' := fun w1 hw1 => by
    refine (valid_calls ha (fun b hb => Nat.lt_of_lt_of_le (hok b hb) hw1.size) (grel_below hok hG hw1)).mono ?_
    rintro e w' ⟨rfl, h⟩
    exact ⟨by simp [hn], hw1.trans (h.mono hw1.size)⟩
  have hm' : ∀ w1 : World, RowKit.Below w.heap.size w w1 → w1.cell? ⟨0, 0, none⟩ = some (.iface 129 (.pointer (some p))) := fun w1 hw1 => by
    have h0 : 0 < w.heap.size := by
      cases hh : w.heap[0]? with
      | none => simp [World.cell?, hh] at hm
      | some o => exact (Array.getElem?_eq_some_iff.1 hh).1
    have := hw1.block 0 h0
    simpa only [World.cell?, this] using hm
  go_enter Tryd.func51, Tryd.ntmps51
  go_wp2_with (go_at_call 19; refine (key _ ?_).mono ?_)
  · exact ((RowKit.Below.refl _ w).alloc (Nat.le_refl _) _).alloc (by simp) _
  rintro e w' ⟨rfl, hb⟩
  have g := hm' _ hb
  go_wp2
  exact ⟨rfl, rfl, hb⟩
end Rat0
end Go.Proofs.YtfplfkcgjdkdaaaDoor
/-
  Ratio: two fractions are taken, in whatever order (the regions of Add$1, Mul$1, Div$1 that make x and y).
-/
namespace Go.Proofs.YtfplfkcgjdkdaaaDoor
namespace Rat0
open Go

def ops1 (p : String) : Array Oper := #[
  { dst := some 6, op := .load 27 (.tmp 0), type := 27, pos := p, after := #[], guard := none },
  { dst := some 7, op := .call { callee := .value (.func 51), args := #[.tmp 6], argTypes := #[27] }, type := 69, pos := p, after := #[{ on := 0, ground := .data }], guard := none },
  { dst := some 8, op := .load 27 (.tmp 1), type := 27, pos := p, after := #[], guard := none },
  { dst := some 9, op := .call { callee := .value (.func 51), args := #[.tmp 8], argTypes := #[27] }, type := 69, pos := p, after := #[{ on := 2, ground := .data }, { on := 1, ground := .chain }], guard := none },
  { dst := some 4, op := .alloc 69, type := 0, pos := p, after := #[], guard := none },
  { dst := some 5, op := .alloc 69, type := 0, pos := p, after := #[], guard := none },
  { dst := none, op := .store 69 (.tmp 4) (.tmp 7), type := 0, pos := p, after := #[{ on := 4, ground := .data }, { on := 1, ground := .data }, { on := 3, ground := .chain }, { on := 0, ground := .phase }, { on := 1, ground := .phase }, { on := 2, ground := .textOnly .lateStores }, { on := 3, ground := .textOnly .lateStoresUnsure }, { on := 4, ground := .phase }, { on := 5, ground := .phase }], guard := none },
  { dst := none, op := .store 69 (.tmp 5) (.tmp 9), type := 0, pos := p, after := #[{ on := 5, ground := .data }, { on := 3, ground := .data }, { on := 6, ground := .chain }, { on := 0, ground := .phase }, { on := 1, ground := .phase }, { on := 2, ground := .phase }, { on := 3, ground := .phase }, { on := 4, ground := .phase }, { on := 5, ground := .phase }, { on := 6, ground := .phase }], guard := none }]

/-- a fraction's two cells, or none yet -/
def cel (b : Bool) (n : Q) : Array Value := if b then #[.int .i64 n.n, .int .i64 n.d] else #[.int .i64 0, .int .i64 0]
abbrev tm (a : Act) (t : Nat) : Value := a.tmps.getD t undef
abbrev li (l : Array Bool) (k : Nat) : Bool := l.getD k false
structure R1 (n m : Q) (pa pb : Addr) (w0 : World) (N : Nat) (l : Array Bool) (a : Act) (w : World) : Prop where
  ls : l.size = 8
  sz : a.tmps.size = N
  df : a.defers = []
  t0 : tm a 0 = .pointer (some pa)
  t1 : tm a 1 = .pointer (some pb)
  bel : RowKit.Below w0.heap.size w0 w
  h0 : li l 0 = true → tm a 6 = qV n
  h1 : li l 1 = true → tm a 7 = qV n ∧ Ok n
  h2 : li l 2 = true → tm a 8 = qV m
  h3 : li l 3 = true → tm a 9 = qV m ∧ Ok m
  h4 : li l 4 = true → ∃ b, tm a 4 = .pointer (some ⟨b, 0, none⟩) ∧ w0.heap.size ≤ b ∧ w.heap[b]? = some (.cells (cel (li l 6) n) 69 (0, 0))
  h5 : li l 5 = true → ∃ b, tm a 5 = .pointer (some ⟨b, 0, none⟩) ∧ w0.heap.size ≤ b ∧ w.heap[b]? = some (.cells (cel (li l 7) m) 69 (0, 0))
  h45 : li l 4 = true → li l 5 = true → tm a 4 ≠ tm a 5
  h6 : li l 4 = false → li l 6 = false
  h7 : li l 5 = false → li l 7 = false

theorem li_ne {l : Array Bool} {i k : Nat} (h : i ≠ k) : li (l.setIfInBounds i true) k = li l k := by
  simp [li, Array.getD_eq_getD_getElem?, Array.getElem?_setIfInBounds_ne h]
theorem li_self {l : Array Bool} {i : Nat} (h : i < l.size) : li (l.setIfInBounds i true) i = true := by
  simp [li, Array.getD_eq_getD_getElem?, Array.getElem?_setIfInBounds_self_of_lt h]
theorem tm_ne {a : Act} {t u : Nat} {v : Value} {d : List Deferred} (h : t ≠ u) : tm { tmps := a.tmps.setIfInBounds t v, defers := d } u = tm a u := by
  simp [tm, Array.getD_eq_getD_getElem?, Array.getElem?_setIfInBounds_ne h]
theorem tm_self {a : Act} {t : Nat} {v : Value} {d : List Deferred} (h : t < a.tmps.size) : tm { tmps := a.tmps.setIfInBounds t v, defers := d } t = v := by
  simp [tm, Array.getD_eq_getD_getElem?, Array.getElem?_setIfInBounds_self_of_lt h]

/-! ### which operations may come up -/
def bits (l : Array Bool) : List Bool := l.toList
theorem bits8 {l : Array Bool} (h : l.size = 8) : ∃ b0 b1 b2 b3 b4 b5 b6 b7, l = #[b0, b1, b2, b3, b4, b5, b6, b7] := by
  obtain ⟨l⟩ := l
  match l, h with
  | [b0, b1, b2, b3, b4, b5, b6, b7], _ => exact ⟨b0, b1, b2, b3, b4, b5, b6, b7, rfl⟩
def need (l : Array Bool) (i : Nat) : Bool := match i with
  | 1 => li l 0
  | 3 => li l 2
  | 6 => li l 4 && li l 1 && li l 0
  | 7 => li l 5 && li l 3 && li l 6
  | _ => true
theorem rdy (p : String) : ∀ b0 b1 b2 b3 b4 b5 b6 b7 : Bool, (Region.ready .any (ops1 p) #[b0, b1, b2, b3, b4, b5, b6, b7]).all (fun i => Nat.blt i 8 && !(li #[b0, b1, b2, b3, b4, b5, b6, b7] i) && need #[b0, b1, b2, b3, b4, b5, b6, b7] i) = true := by
  intro b0 b1 b2 b3 b4 b5 b6 b7
  cases b0 <;> cases b1 <;> cases b2 <;> cases b3 <;> cases b4 <;> cases b5 <;> cases b6 <;> cases b7 <;> kernel_rfl
theorem rdy0 (p : String) : ∀ b0 b1 b2 b3 b4 b5 b6 b7 : Bool, (!(Region.ready .any (ops1 p) #[b0, b1, b2, b3, b4, b5, b6, b7]).isEmpty || (b0 && b1 && b2 && b3 && b4 && b5 && b6 && b7)) = true := by
  intro b0 b1 b2 b3 b4 b5 b6 b7
  cases b0 <;> cases b1 <;> cases b2 <;> cases b3 <;> cases b4 <;> cases b5 <;> cases b6 <;> cases b7 <;> kernel_rfl
def b1 (b : Bool) : Nat := if b then 0 else 1
def left (l : Array Bool) : Nat := b1 (li l 0) + b1 (li l 1) + b1 (li l 2) + b1 (li l 3) + b1 (li l 4) + b1 (li l 5) + b1 (li l 6) + b1 (li l 7)
theorem left_set {l : Array Bool} (hs : l.size = 8) (i : Nat) (hi : i < 8) (h : li l i = false) : left (l.setIfInBounds i true) + 1 = left l := by
  have h1 := li_self (l := l) (i := i) (by omega)
  have : i = 0 ∨ i = 1 ∨ i = 2 ∨ i = 3 ∨ i = 4 ∨ i = 5 ∨ i = 6 ∨ i = 7 := by omega
  unfold left
  rcases this with rfl | rfl | rfl | rfl | rfl | rfl | rfl | rfl
  · rw [h1, h, li_ne (show 0 ≠ 1 by decide), li_ne (show 0 ≠ 2 by decide), li_ne (show 0 ≠ 3 by decide), li_ne (show 0 ≠ 4 by decide), li_ne (show 0 ≠ 5 by decide), li_ne (show 0 ≠ 6 by decide), li_ne (show 0 ≠ 7 by decide)]; simp only [b1]; simp; try omega
  · rw [h1, h, li_ne (show 1 ≠ 0 by decide), li_ne (show 1 ≠ 2 by decide), li_ne (show 1 ≠ 3 by decide), li_ne (show 1 ≠ 4 by decide), li_ne (show 1 ≠ 5 by decide), li_ne (show 1 ≠ 6 by decide), li_ne (show 1 ≠ 7 by decide)]; simp only [b1]; simp; try omega
  · rw [h1, h, li_ne (show 2 ≠ 0 by decide), li_ne (show 2 ≠ 1 by decide), li_ne (show 2 ≠ 3 by decide), li_ne (show 2 ≠ 4 by decide), li_ne (show 2 ≠ 5 by decide), li_ne (show 2 ≠ 6 by decide), li_ne (show 2 ≠ 7 by decide)]; simp only [b1]; simp; try omega
  · rw [h1, h, li_ne (show 3 ≠ 0 by decide), li_ne (show 3 ≠ 1 by decide), li_ne (show 3 ≠ 2 by decide), li_ne (show 3 ≠ 4 by decide), li_ne (show 3 ≠ 5 by decide), li_ne (show 3 ≠ 6 by decide), li_ne (show 3 ≠ 7 by decide)]; simp only [b1]; simp; try omega
  · rw [h1, h, li_ne (show 4 ≠ 0 by decide), li_ne (show 4 ≠ 1 by decide), li_ne (show 4 ≠ 2 by decide), li_ne (show 4 ≠ 3 by decide), li_ne (show 4 ≠ 5 by decide), li_ne (show 4 ≠ 6 by decide), li_ne (show 4 ≠ 7 by decide)]; simp only [b1]; simp; try omega
  · rw [h1, h, li_ne (show 5 ≠ 0 by decide), li_ne (show 5 ≠ 1 by decide), li_ne (show 5 ≠ 2 by decide), li_ne (show 5 ≠ 3 by decide), li_ne (show 5 ≠ 4 by decide), li_ne (show 5 ≠ 6 by decide), li_ne (show 5 ≠ 7 by decide)]; simp only [b1]; simp; try omega
  · rw [h1, h, li_ne (show 6 ≠ 0 by decide), li_ne (show 6 ≠ 1 by decide), li_ne (show 6 ≠ 2 by decide), li_ne (show 6 ≠ 3 by decide), li_ne (show 6 ≠ 4 by decide), li_ne (show 6 ≠ 5 by decide), li_ne (show 6 ≠ 7 by decide)]; simp only [b1]; simp; try omega
  · rw [h1, h, li_ne (show 7 ≠ 0 by decide), li_ne (show 7 ≠ 1 by decide), li_ne (show 7 ≠ 2 by decide), li_ne (show 7 ≠ 3 by decide), li_ne (show 7 ≠ 4 by decide), li_ne (show 7 ≠ 5 by decide), li_ne (show 7 ≠ 6 by decide)]; simp only [b1]; simp; try omega
/-- a cell of the old memory -/
theorem old_cell {w0 w : World} (h : RowKit.Below w0.heap.size w0 w) {b o : Nat} {v : Value} (hv : w0.cell? ⟨b, o, none⟩ = some v) : w.cell? ⟨b, o, none⟩ = some v := by
  have h0 : b < w0.heap.size := by
    cases hh : w0.heap[b]? with
    | none => simp [World.cell?, hh] at hv
    | some o => exact (Array.getElem?_eq_some_iff.1 hh).1
  have := h.block b h0
  simpa only [World.cell?, this] using hv
theorem st0 {n m : Q} {ba oa bb ob : Nat} {w0 : World} {N : Nat} (hN : 10 ≤ N) {l : Array Bool} {a : Act} {w : World} (h : R1 n m ⟨ba, oa, none⟩ ⟨bb, ob, none⟩ w0 N l a w) {K : Act → World → Prop} {Q : Exit → Act → World → Prop} {p : String} (c0 : w0.cell? ⟨ba, oa, none⟩ = some (.int .i64 n.n)) (c1 : w0.cell? ⟨ba, oa + 1, none⟩ = some (.int .i64 n.d))
    (hK : ∀ a1 w1, R1 n m ⟨ba, oa, none⟩ ⟨bb, ob, none⟩ w0 N (l.setIfInBounds 0 true) a1 w1 → K a1 w1) : wpOpIn Fence.wide 0 Tryd.prog (ops1 p) Q 0 K a w := by
  have c0 := old_cell h.bel c0
  have c1 := old_cell h.bel c1
  have ht := h.t0
  unfold tm at ht
  simp [wpOpIn, ops1, Region.wanted, Oper.wpIn, Oper.semAt, Oper.about, execOp, go_sem, Act.eval, c0, c1, ht]
  refine hK _ _ ?_
  exact {
    ls := by simpa using h.ls
    sz := by simpa using h.sz
    df := h.df
    t0 := (tm_ne (by decide)).trans h.t0
    t1 := (tm_ne (by decide)).trans h.t1
    bel := h.bel
    h0 := fun _ => tm_self (by rw [h.sz]; omega)
    h1 := fun q => by rw [li_ne (by decide)] at q; rw [tm_ne (by decide)]; exact h.h1 q
    h2 := fun q => by rw [li_ne (by decide)] at q; rw [tm_ne (by decide)]; exact h.h2 q
    h3 := fun q => by rw [li_ne (by decide)] at q; rw [tm_ne (by decide)]; exact h.h3 q
    h4 := fun q => by rw [li_ne (by decide)] at q; rw [tm_ne (by decide), li_ne (by decide)]; exact h.h4 q
    h5 := fun q => by rw [li_ne (by decide)] at q; rw [tm_ne (by decide), li_ne (by decide)]; exact h.h5 q
    h45 := fun q r => by rw [li_ne (by decide)] at q r; rw [tm_ne (by decide), tm_ne (by decide)]; exact h.h45 q r
    h6 := fun q => by rw [li_ne (by decide)] at q ⊢; exact h.h6 q
    h7 := fun q => by rw [li_ne (by decide)] at q ⊢; exact h.h7 q }
theorem st2 {n m : Q} {ba oa bb ob : Nat} {w0 : World} {N : Nat} (hN : 10 ≤ N) {l : Array Bool} {a : Act} {w : World} (h : R1 n m ⟨ba, oa, none⟩ ⟨bb, ob, none⟩ w0 N l a w) {K : Act → World → Prop} {Q : Exit → Act → World → Prop} {p : String} (c0 : w0.cell? ⟨bb, ob, none⟩ = some (.int .i64 m.n)) (c1 : w0.cell? ⟨bb, ob + 1, none⟩ = some (.int .i64 m.d))
    (hK : ∀ a1 w1, R1 n m ⟨ba, oa, none⟩ ⟨bb, ob, none⟩ w0 N (l.setIfInBounds 2 true) a1 w1 → K a1 w1) : wpOpIn Fence.wide 0 Tryd.prog (ops1 p) Q 2 K a w := by
  have c0 := old_cell h.bel c0
  have c1 := old_cell h.bel c1
  have ht := h.t1
  unfold tm at ht
  simp [wpOpIn, ops1, Region.wanted, Oper.wpIn, Oper.semAt, Oper.about, execOp, go_sem, Act.eval, c0, c1, ht]
  refine hK _ _ ?_
  exact {
    ls := by simpa using h.ls
    sz := by simpa using h.sz
    df := h.df
    t0 := (tm_ne (by decide)).trans h.t0
    t1 := (tm_ne (by decide)).trans h.t1
    bel := h.bel
    h0 := fun q => by rw [li_ne (by decide)] at q; rw [tm_ne (by decide)]; exact h.h0 q
    h1 := fun q => by rw [li_ne (by decide)] at q; rw [tm_ne (by decide)]; exact h.h1 q
    h2 := fun _ => tm_self (by rw [h.sz]; omega)
    h3 := fun q => by rw [li_ne (by decide)] at q; rw [tm_ne (by decide)]; exact h.h3 q
    h4 := fun q => by rw [li_ne (by decide)] at q; rw [tm_ne (by decide), li_ne (by decide)]; exact h.h4 q
    h5 := fun q => by rw [li_ne (by decide)] at q; rw [tm_ne (by decide), li_ne (by decide)]; exact h.h5 q
    h45 := fun q r => by rw [li_ne (by decide)] at q r; rw [tm_ne (by decide), tm_ne (by decide)]; exact h.h45 q r
    h6 := fun q => by rw [li_ne (by decide)] at q ⊢; exact h.h6 q
    h7 := fun q => by rw [li_ne (by decide)] at q ⊢; exact h.h7 q }
theorem st1 {n m : Q} {ba oa bb ob : Nat} {w0 : World} {N : Nat} (hN : 10 ≤ N) {l : Array Bool} {a : Act} {w : World} (h : R1 n m ⟨ba, oa, none⟩ ⟨bb, ob, none⟩ w0 N l a w) {K : Act → World → Prop} {Q : Exit → Act → World → Prop} {p : String} (hl : li l 0 = true) {e : List PanicEntry} (hc : ∀ w1, RowKit.Below w0.heap.size w0 w1 → Calls Tryd.prog 51 #[qV n] w1 fun e1 w' => (Ok n ∧ e1 = .returned (qV n) ∨ ¬ Ok n ∧ e1 = .panicked e) ∧ RowKit.Below w1.heap.size w1 w')
    (hK : ∀ a1 w1, R1 n m ⟨ba, oa, none⟩ ⟨bb, ob, none⟩ w0 N (l.setIfInBounds 1 true) a1 w1 → K a1 w1) (hP : ¬ Ok n → ∀ a1 w1, a1.defers = [] → RowKit.Below w0.heap.size w0 w1 → Q (.panic e) a1 w1) : wpOpIn Fence.wide 0 Tryd.prog (ops1 p) Q 1 K a w := by
  have ht := h.h0 hl
  unfold tm at ht
  simp [wpOpIn, ops1, Region.wanted, Oper.wpIn, Oper.semAt, Oper.about, go_sem, Act.eval, ht]
  refine ⟨trivial, rfl, callsIn_wide.2 ((hc w h.bel).mono ?_)⟩
  rintro e1 w1 ⟨⟨ho, rfl⟩ | ⟨ho, rfl⟩, hb⟩
  · refine hK _ _ ?_
    have hblk : ∀ {b : Nat} {o : Obj}, w.heap[b]? = some o → w1.heap[b]? = some o := fun hx => (hb.block _ (Array.getElem?_eq_some_iff.1 hx).1).trans hx
    exact {
    ls := by simpa using h.ls
    sz := by simpa using h.sz
    df := h.df
    t0 := (tm_ne (by decide)).trans h.t0
    t1 := (tm_ne (by decide)).trans h.t1
    bel := h.bel.trans (hb.mono h.bel.size)
    h0 := fun q => by rw [li_ne (by decide)] at q; rw [tm_ne (by decide)]; exact h.h0 q
    h1 := fun _ => ⟨tm_self (by rw [h.sz]; omega), ho⟩
    h2 := fun q => by rw [li_ne (by decide)] at q; rw [tm_ne (by decide)]; exact h.h2 q
    h3 := fun q => by rw [li_ne (by decide)] at q; rw [tm_ne (by decide)]; exact h.h3 q
    h4 := fun q => by rw [li_ne (by decide)] at q; rw [tm_ne (by decide), li_ne (by decide)]; obtain ⟨b, x1, x2, x3⟩ := h.h4 q; exact ⟨b, x1, x2, hblk x3⟩
    h5 := fun q => by rw [li_ne (by decide)] at q; rw [tm_ne (by decide), li_ne (by decide)]; obtain ⟨b, x1, x2, x3⟩ := h.h5 q; exact ⟨b, x1, x2, hblk x3⟩
    h45 := fun q r => by rw [li_ne (by decide)] at q r; rw [tm_ne (by decide), tm_ne (by decide)]; exact h.h45 q r
    h6 := fun q => by rw [li_ne (by decide)] at q ⊢; exact h.h6 q
    h7 := fun q => by rw [li_ne (by decide)] at q ⊢; exact h.h7 q }
  · exact hP ho _ _ h.df (h.bel.trans (hb.mono h.bel.size))
theorem st3 {n m : Q} {ba oa bb ob : Nat} {w0 : World} {N : Nat} (hN : 10 ≤ N) {l : Array Bool} {a : Act} {w : World} (h : R1 n m ⟨ba, oa, none⟩ ⟨bb, ob, none⟩ w0 N l a w) {K : Act → World → Prop} {Q : Exit → Act → World → Prop} {p : String} (hl : li l 2 = true) {e : List PanicEntry} (hc : ∀ w1, RowKit.Below w0.heap.size w0 w1 → Calls Tryd.prog 51 #[qV m] w1 fun e1 w' => (Ok m ∧ e1 = .returned (qV m) ∨ ¬ Ok m ∧ e1 = .panicked e) ∧ RowKit.Below w1.heap.size w1 w')
    (hK : ∀ a1 w1, R1 n m ⟨ba, oa, none⟩ ⟨bb, ob, none⟩ w0 N (l.setIfInBounds 3 true) a1 w1 → K a1 w1) (hP : ¬ Ok m → ∀ a1 w1, a1.defers = [] → RowKit.Below w0.heap.size w0 w1 → Q (.panic e) a1 w1) : wpOpIn Fence.wide 0 Tryd.prog (ops1 p) Q 3 K a w := by
  have ht := h.h2 hl
  unfold tm at ht
  simp [wpOpIn, ops1, Region.wanted, Oper.wpIn, Oper.semAt, Oper.about, go_sem, Act.eval, ht]
  refine ⟨trivial, rfl, callsIn_wide.2 ((hc w h.bel).mono ?_)⟩
  rintro e1 w1 ⟨⟨ho, rfl⟩ | ⟨ho, rfl⟩, hb⟩
  · refine hK _ _ ?_
    have hblk : ∀ {b : Nat} {o : Obj}, w.heap[b]? = some o → w1.heap[b]? = some o := fun hx => (hb.block _ (Array.getElem?_eq_some_iff.1 hx).1).trans hx
    exact {
    ls := by simpa using h.ls
    sz := by simpa using h.sz
    df := h.df
    t0 := (tm_ne (by decide)).trans h.t0
    t1 := (tm_ne (by decide)).trans h.t1
    bel := h.bel.trans (hb.mono h.bel.size)
    h0 := fun q => by rw [li_ne (by decide)] at q; rw [tm_ne (by decide)]; exact h.h0 q
    h1 := fun q => by rw [li_ne (by decide)] at q; rw [tm_ne (by decide)]; exact h.h1 q
    h2 := fun q => by rw [li_ne (by decide)] at q; rw [tm_ne (by decide)]; exact h.h2 q
    h3 := fun _ => ⟨tm_self (by rw [h.sz]; omega), ho⟩
    h4 := fun q => by rw [li_ne (by decide)] at q; rw [tm_ne (by decide), li_ne (by decide)]; obtain ⟨b, x1, x2, x3⟩ := h.h4 q; exact ⟨b, x1, x2, hblk x3⟩
    h5 := fun q => by rw [li_ne (by decide)] at q; rw [tm_ne (by decide), li_ne (by decide)]; obtain ⟨b, x1, x2, x3⟩ := h.h5 q; exact ⟨b, x1, x2, hblk x3⟩
    h45 := fun q r => by rw [li_ne (by decide)] at q r; rw [tm_ne (by decide), tm_ne (by decide)]; exact h.h45 q r
    h6 := fun q => by rw [li_ne (by decide)] at q ⊢; exact h.h6 q
    h7 := fun q => by rw [li_ne (by decide)] at q ⊢; exact h.h7 q }
  · exact hP ho _ _ h.df (h.bel.trans (hb.mono h.bel.size))
theorem st4 {n m : Q} {ba oa bb ob : Nat} {w0 : World} {N : Nat} (hN : 10 ≤ N) {l : Array Bool} {a : Act} {w : World} (h : R1 n m ⟨ba, oa, none⟩ ⟨bb, ob, none⟩ w0 N l a w) {K : Act → World → Prop} {Q : Exit → Act → World → Prop} {p : String} (hl : li l 4 = false)
    (hK : ∀ a1 w1, R1 n m ⟨ba, oa, none⟩ ⟨bb, ob, none⟩ w0 N (l.setIfInBounds 4 true) a1 w1 → K a1 w1) : wpOpIn Fence.wide 0 Tryd.prog (ops1 p) Q 4 K a w := by
  simp [wpOpIn, ops1, Region.wanted, Oper.wpIn, Oper.semAt, Oper.about, execOp, go_sem]
  refine hK _ _ ?_
  have hblk : ∀ {b : Nat} {o : Obj} {x : Obj}, w.heap[b]? = some o → (w.alloc x).heap[b]? = some o := fun hx => by
    have := (Array.getElem?_eq_some_iff.1 hx).1
    rw [RowKit.Below.heap_alloc _ _ _ this]; exact hx
  exact {
    ls := by simpa using h.ls
    sz := by simpa using h.sz
    df := h.df
    t0 := (tm_ne (by decide)).trans h.t0
    t1 := (tm_ne (by decide)).trans h.t1
    bel := h.bel.alloc h.bel.size _
    h0 := fun q => by rw [li_ne (by decide)] at q; rw [tm_ne (by decide)]; exact h.h0 q
    h1 := fun q => by rw [li_ne (by decide)] at q; rw [tm_ne (by decide)]; exact h.h1 q
    h2 := fun q => by rw [li_ne (by decide)] at q; rw [tm_ne (by decide)]; exact h.h2 q
    h3 := fun q => by rw [li_ne (by decide)] at q; rw [tm_ne (by decide)]; exact h.h3 q
    h4 := fun _ => ⟨w.heap.size, tm_self (by rw [h.sz]; omega), h.bel.size, by rw [li_ne (by decide), h.h6 hl]; show (w.heap.push _)[w.heap.size]? = _; simp [cel]⟩
    h5 := fun q => by rw [li_ne (by decide)] at q; rw [tm_ne (by decide), li_ne (by decide)]; obtain ⟨b, x1, x2, x3⟩ := h.h5 q; exact ⟨b, x1, x2, hblk x3⟩
    h45 := fun _ r => by rw [li_ne (by decide)] at r; rw [tm_self (by rw [h.sz]; omega), tm_ne (by decide)]; obtain ⟨b, x1, x2, x3⟩ := h.h5 r; rw [x1]; intro e; injection e with e; injection e with e; injection e with e; subst e; have := (Array.getElem?_eq_some_iff.1 x3).1; omega
    h6 := fun q => by rw [li_self (by rw [h.ls]; omega)] at q; cases q
    h7 := fun q => by rw [li_ne (by decide)] at q ⊢; exact h.h7 q }
theorem st5 {n m : Q} {ba oa bb ob : Nat} {w0 : World} {N : Nat} (hN : 10 ≤ N) {l : Array Bool} {a : Act} {w : World} (h : R1 n m ⟨ba, oa, none⟩ ⟨bb, ob, none⟩ w0 N l a w) {K : Act → World → Prop} {Q : Exit → Act → World → Prop} {p : String} (hl : li l 5 = false)
    (hK : ∀ a1 w1, R1 n m ⟨ba, oa, none⟩ ⟨bb, ob, none⟩ w0 N (l.setIfInBounds 5 true) a1 w1 → K a1 w1) : wpOpIn Fence.wide 0 Tryd.prog (ops1 p) Q 5 K a w := by
  simp [wpOpIn, ops1, Region.wanted, Oper.wpIn, Oper.semAt, Oper.about, execOp, go_sem]
  refine hK _ _ ?_
  have hblk : ∀ {b : Nat} {o : Obj} {x : Obj}, w.heap[b]? = some o → (w.alloc x).heap[b]? = some o := fun hx => by
    have := (Array.getElem?_eq_some_iff.1 hx).1
    rw [RowKit.Below.heap_alloc _ _ _ this]; exact hx
  exact {
    ls := by simpa using h.ls
    sz := by simpa using h.sz
    df := h.df
    t0 := (tm_ne (by decide)).trans h.t0
    t1 := (tm_ne (by decide)).trans h.t1
    bel := h.bel.alloc h.bel.size _
    h0 := fun q => by rw [li_ne (by decide)] at q; rw [tm_ne (by decide)]; exact h.h0 q
    h1 := fun q => by rw [li_ne (by decide)] at q; rw [tm_ne (by decide)]; exact h.h1 q
    h2 := fun q => by rw [li_ne (by decide)] at q; rw [tm_ne (by decide)]; exact h.h2 q
    h3 := fun q => by rw [li_ne (by decide)] at q; rw [tm_ne (by decide)]; exact h.h3 q
    h4 := fun q => by rw [li_ne (by decide)] at q; rw [tm_ne (by decide), li_ne (by decide)]; obtain ⟨b, x1, x2, x3⟩ := h.h4 q; exact ⟨b, x1, x2, hblk x3⟩
    h5 := fun _ => ⟨w.heap.size, tm_self (by rw [h.sz]; omega), h.bel.size, by rw [li_ne (by decide), h.h7 hl]; show (w.heap.push _)[w.heap.size]? = _; simp [cel]⟩
    h45 := fun r _ => by rw [li_ne (by decide)] at r; rw [tm_self (by rw [h.sz]; omega), tm_ne (by decide)]; obtain ⟨b, x1, x2, x3⟩ := h.h4 r; rw [x1]; intro e; injection e with e; injection e with e; injection e with e; subst e; have := (Array.getElem?_eq_some_iff.1 x3).1; omega
    h6 := fun q => by rw [li_ne (by decide)] at q ⊢; exact h.h6 q
    h7 := fun q => by rw [li_self (by rw [h.ls]; omega)] at q; cases q }
theorem st6 {n m : Q} {ba oa bb ob : Nat} {w0 : World} {N : Nat} (_hN : 10 ≤ N) {l : Array Bool} {a : Act} {w : World} (h : R1 n m ⟨ba, oa, none⟩ ⟨bb, ob, none⟩ w0 N l a w) {K : Act → World → Prop} {Q : Exit → Act → World → Prop} {p : String} (hl4 : li l 4 = true) (hl7 : li l 1 = true) (hl : li l 6 = false)
    (hK : ∀ a1 w1, R1 n m ⟨ba, oa, none⟩ ⟨bb, ob, none⟩ w0 N (l.setIfInBounds 6 true) a1 w1 → K a1 w1) : wpOpIn Fence.wide 0 Tryd.prog (ops1 p) Q 6 K a w := by
  obtain ⟨b, x1, x2, x3⟩ := h.h4 hl4
  have x7 := (h.h1 hl7).1
  rw [hl] at x3
  have x1' := x1
  unfold tm at x1' x7
  unfold qV at x7
  have c0 : w.cell? ⟨b, 0, none⟩ = some (.int .i64 0) := by simp [World.cell?, x3, cel]
  have c1 : w.cell? ⟨b, 1, none⟩ = some (.int .i64 0) := by simp [World.cell?, x3, cel]
  have z0 : w.frozen? ⟨b, 0, none⟩ = false := by simp [World.frozen?, x3]
  have z1 : w.frozen? ⟨b, 1, none⟩ = false := by simp [World.frozen?, x3]
  simp [wpOpIn, ops1, Region.wanted, Oper.wpIn, Oper.semAt, Oper.about, execOp, go_sem, Act.eval, x1', x7, c0, c1, z0, z1]
  refine hK _ _ ?_
  have hoth : ∀ k, k ≠ b → ((w.setCell ⟨b, 0, none⟩ (.int .i64 n.n)).setCell ⟨b, 1, none⟩ (.int .i64 n.d)).heap[k]? = w.heap[k]? := fun k hk => by
    rw [RowKit.Below.heap_setCell _ _ _ _ hk, RowKit.Below.heap_setCell _ _ _ _ hk]
  have hnew : ((w.setCell ⟨b, 0, none⟩ (.int .i64 n.n)).setCell ⟨b, 1, none⟩ (.int .i64 n.d)).heap[b]? = some (.cells (cel true n) 69 (0, 0)) := by
    simp [World.setCell, Array.getElem?_modify, x3, cel]
  exact {
    ls := by simpa using h.ls
    sz := h.sz
    df := h.df
    t0 := h.t0
    t1 := h.t1
    bel := (h.bel.setCell (p := ⟨b, 0, none⟩) x2 _).setCell (p := ⟨b, 1, none⟩) x2 _
    h0 := fun q => by rw [li_ne (by decide)] at q; exact h.h0 q
    h1 := fun q => by rw [li_ne (by decide)] at q; exact h.h1 q
    h2 := fun q => by rw [li_ne (by decide)] at q; exact h.h2 q
    h3 := fun q => by rw [li_ne (by decide)] at q; exact h.h3 q
    h4 := fun q => by rw [li_self (by rw [h.ls]; omega)]; exact ⟨b, x1, x2, hnew⟩
    h5 := fun q => by rw [li_ne (by decide)] at q; rw [li_ne (by decide)]; obtain ⟨b2, y1, y2, y3⟩ := h.h5 q; exact ⟨b2, y1, y2, (hoth b2 (fun e => h.h45 hl4 q (by rw [x1, y1, e]))).trans y3⟩
    h45 := fun q r => by rw [li_ne (by decide)] at q r; exact h.h45 q r
    h6 := fun q => by rw [li_ne (by decide), hl4] at q; cases q
    h7 := fun q => by rw [li_ne (by decide)] at q ⊢; exact h.h7 q }
theorem st7 {n m : Q} {ba oa bb ob : Nat} {w0 : World} {N : Nat} (_hN : 10 ≤ N) {l : Array Bool} {a : Act} {w : World} (h : R1 n m ⟨ba, oa, none⟩ ⟨bb, ob, none⟩ w0 N l a w) {K : Act → World → Prop} {Q : Exit → Act → World → Prop} {p : String} (hl4 : li l 5 = true) (hl7 : li l 3 = true) (hl : li l 7 = false)
    (hK : ∀ a1 w1, R1 n m ⟨ba, oa, none⟩ ⟨bb, ob, none⟩ w0 N (l.setIfInBounds 7 true) a1 w1 → K a1 w1) : wpOpIn Fence.wide 0 Tryd.prog (ops1 p) Q 7 K a w := by
  obtain ⟨b, x1, x2, x3⟩ := h.h5 hl4
  have x7 := (h.h3 hl7).1
  rw [hl] at x3
  have x1' := x1
  unfold tm at x1' x7
  unfold qV at x7
  have c0 : w.cell? ⟨b, 0, none⟩ = some (.int .i64 0) := by simp [World.cell?, x3, cel]
  have c1 : w.cell? ⟨b, 1, none⟩ = some (.int .i64 0) := by simp [World.cell?, x3, cel]
  have z0 : w.frozen? ⟨b, 0, none⟩ = false := by simp [World.frozen?, x3]
  have z1 : w.frozen? ⟨b, 1, none⟩ = false := by simp [World.frozen?, x3]
  simp [wpOpIn, ops1, Region.wanted, Oper.wpIn, Oper.semAt, Oper.about, execOp, go_sem, Act.eval, x1', x7, c0, c1, z0, z1]
  refine hK _ _ ?_
  have hoth : ∀ k, k ≠ b → ((w.setCell ⟨b, 0, none⟩ (.int .i64 m.n)).setCell ⟨b, 1, none⟩ (.int .i64 m.d)).heap[k]? = w.heap[k]? := fun k hk => by
    rw [RowKit.Below.heap_setCell _ _ _ _ hk, RowKit.Below.heap_setCell _ _ _ _ hk]
  have hnew : ((w.setCell ⟨b, 0, none⟩ (.int .i64 m.n)).setCell ⟨b, 1, none⟩ (.int .i64 m.d)).heap[b]? = some (.cells (cel true m) 69 (0, 0)) := by
    simp [World.setCell, Array.getElem?_modify, x3, cel]
  exact {
    ls := by simpa using h.ls
    sz := h.sz
    df := h.df
    t0 := h.t0
    t1 := h.t1
    bel := (h.bel.setCell (p := ⟨b, 0, none⟩) x2 _).setCell (p := ⟨b, 1, none⟩) x2 _
    h0 := fun q => by rw [li_ne (by decide)] at q; exact h.h0 q
    h1 := fun q => by rw [li_ne (by decide)] at q; exact h.h1 q
    h2 := fun q => by rw [li_ne (by decide)] at q; exact h.h2 q
    h3 := fun q => by rw [li_ne (by decide)] at q; exact h.h3 q
    h4 := fun q => by rw [li_ne (by decide)] at q; rw [li_ne (by decide)]; obtain ⟨b2, y1, y2, y3⟩ := h.h4 q; exact ⟨b2, y1, y2, (hoth b2 (fun e => h.h45 q hl4 (by rw [x1, y1, e]))).trans y3⟩
    h5 := fun q => by rw [li_self (by rw [h.ls]; omega)]; exact ⟨b, x1, x2, hnew⟩
    h45 := fun q r => by rw [li_ne (by decide)] at q r; exact h.h45 q r
    h6 := fun q => by rw [li_ne (by decide)] at q ⊢; exact h.h6 q
    h7 := fun q => by rw [li_ne (by decide), hl4] at q; cases q }

/-- the region: both are taken, or one panics -/
theorem reg1 {n m : Q} {ba oa bb ob : Nat} {w0 : World} {N : Nat} (hN : 10 ≤ N) {Q : Exit → Act → World → Prop} {p : String} {e : List PanicEntry}
    (a0 : w0.cell? ⟨ba, oa, none⟩ = some (.int .i64 n.n)) (a1 : w0.cell? ⟨ba, oa + 1, none⟩ = some (.int .i64 n.d)) (b0 : w0.cell? ⟨bb, ob, none⟩ = some (.int .i64 m.n)) (b1 : w0.cell? ⟨bb, ob + 1, none⟩ = some (.int .i64 m.d))
    (hn : ∀ w1, RowKit.Below w0.heap.size w0 w1 → Calls Tryd.prog 51 #[qV n] w1 fun e1 w' => (Ok n ∧ e1 = .returned (qV n) ∨ ¬ Ok n ∧ e1 = .panicked e) ∧ RowKit.Below w1.heap.size w1 w')
    (hm : ∀ w1, RowKit.Below w0.heap.size w0 w1 → Calls Tryd.prog 51 #[qV m] w1 fun e1 w' => (Ok m ∧ e1 = .returned (qV m) ∨ ¬ Ok m ∧ e1 = .panicked e) ∧ RowKit.Below w1.heap.size w1 w')
    (hQ : ∀ a w, R1 n m ⟨ba, oa, none⟩ ⟨bb, ob, none⟩ w0 N #[true, true, true, true, true, true, true, true] a w → Q .normal a w)
    (hP : ¬ (Ok n ∧ Ok m) → ∀ a w, a.defers = [] → RowKit.Below w0.heap.size w0 w → Q (.panic e) a w) :
    ∀ (fuel : Nat) (l : Array Bool) (a : Act) (w : World), left l ≤ fuel → R1 n m ⟨ba, oa, none⟩ ⟨bb, ob, none⟩ w0 N l a w → wpAnyIn Fence.wide 0 Tryd.prog .any (ops1 p) Q fuel l a w := by
  have fin : ∀ (l : Array Bool) (a : Act) (w : World), R1 n m ⟨ba, oa, none⟩ ⟨bb, ob, none⟩ w0 N l a w → Region.ready .any (ops1 p) l = [] → Q .normal a w := by
    intro l a w h hr
    obtain ⟨q0, q1, q2, q3, q4, q5, q6, q7, rfl⟩ := bits8 h.ls
    have := rdy0 p q0 q1 q2 q3 q4 q5 q6 q7
    rw [hr] at this
    simp only [List.isEmpty_nil, Bool.not_true, Bool.false_or, Bool.and_eq_true] at this
    obtain ⟨⟨⟨⟨⟨⟨⟨rfl, rfl⟩, rfl⟩, rfl⟩, rfl⟩, rfl⟩, rfl⟩, rfl⟩ := this
    exact hQ a w h
  have mem : ∀ (l : Array Bool), l.size = 8 → ∀ i ∈ Region.ready .any (ops1 p) l, i < 8 ∧ li l i = false ∧ need l i = true ∧ left (l.setIfInBounds i true) + 1 = left l := by
    intro l hs i hi
    obtain ⟨q0, q1, q2, q3, q4, q5, q6, q7, rfl⟩ := bits8 hs
    have := List.all_eq_true.1 (rdy p q0 q1 q2 q3 q4 q5 q6 q7) i hi
    simp only [Bool.and_eq_true, Bool.not_eq_true'] at this
    have h8 : i < 8 := by simpa [Nat.blt_eq] using this.1.1
    exact ⟨h8, this.1.2, this.2, left_set rfl i h8 this.1.2⟩
  intro fuel
  induction fuel with
  | zero =>
    intro l a w hf h
    have hr : Region.ready .any (ops1 p) l = [] := by
      cases hx : Region.ready .any (ops1 p) l with
      | nil => rfl
      | cons i r =>
        have := (mem l h.ls i (by rw [hx]; simp)).2.2.2
        omega
    exact ⟨hr, fin l a w h hr⟩
  | succ fuel ih =>
    intro l a w hf h
    refine ⟨fin l a w h, fun i hi => ?_⟩
    obtain ⟨h8, hl, hnd, hleft⟩ := mem l h.ls i hi
    have hK : ∀ a1 w1, R1 n m ⟨ba, oa, none⟩ ⟨bb, ob, none⟩ w0 N (l.setIfInBounds i true) a1 w1 → wpAnyIn Fence.wide 0 Tryd.prog .any (ops1 p) Q fuel (l.setIfInBounds i true) a1 w1 := fun a1 w1 h1 => ih _ _ _ (by omega) h1
    have : i = 0 ∨ i = 1 ∨ i = 2 ∨ i = 3 ∨ i = 4 ∨ i = 5 ∨ i = 6 ∨ i = 7 := by omega
    rcases this with rfl | rfl | rfl | rfl | rfl | rfl | rfl | rfl
    · exact st0 hN h a0 a1 hK
    · exact st1 hN h hnd hn hK (fun ho => hP (fun x => ho x.1))
    · exact st2 hN h b0 b1 hK
    · exact st3 hN h hnd hm hK (fun ho => hP (fun x => ho x.2))
    · exact st4 hN h hl hK
    · exact st5 hN h hl hK
    · simp only [need, Bool.and_eq_true] at hnd
      exact st6 hN h hnd.1.1 hnd.1.2 hl hK
    · simp only [need, Bool.and_eq_true] at hnd
      exact st7 hN h hnd.1.1 hnd.1.2 hl hK
end Rat0
end Go.Proofs.YtfplfkcgjdkdaaaDoor
