/-
  What the proof is built on (L0 to L2).
-/
import Derived.Test.YtfidjdlmmcaplaaY03
import Derived.Test.YtfidjdlmmcaplaaChecked
import Derived.KernelRfl
/-
  The functions, compiled; written by wip/gen.
-/
namespace Go.Proofs.Ytfidjdlmmcaplaa
open Go
def mf12 : MFun := ⟨0, 18, .seq (.region [⟨some 0, .mv (.cst (.bool false)), none⟩]) (.seq (.region [⟨none, .call (.fn 41) [], none⟩, ⟨none, .mv (.tmp 0), none⟩, ⟨none, .extract (.tmp 1) 0, none⟩, ⟨none, .extract (.tmp 1) 1, none⟩, ⟨none, .extract (.tmp 1) 2, none⟩, ⟨some 1, .mv (.tmp 2), none⟩, ⟨some 2, .mv (.tmp 3), none⟩, ⟨some 3, .mv (.tmp 4), none⟩]) (.seq (.seq (.region [⟨none, .mv (.var 3), none⟩, ⟨none, .un .not (.tmp 0), none⟩, ⟨none, .mv (.tmp 1), none⟩, ⟨none, .mv (.var 1), some (.tmp 2, false)⟩, ⟨none, .call (.fn 16) [.tmp 3, .cst (.str [120])], some (.tmp 2, false)⟩, ⟨none, .bin .neq (.tmp 4) (.cst (.int .i64 0)), some (.tmp 2, false)⟩, ⟨some 15, .pick (.tmp 2) (.cst (.bool true)) (.tmp 5), none⟩]) (.cond (.var 15) (.seq (.region [⟨some 0, .mv (.cst (.bool false)), none⟩]) .ret) .skip)) (.seq (.region [⟨none, .mv (.var 1), none⟩, ⟨none, .call (.fn 19) [.tmp 0], none⟩, ⟨some 4, .mv (.tmp 1), none⟩]) (.seq (.seq (.region [⟨none, .mv (.var 4), none⟩, ⟨none, .lenSl (.tmp 0), none⟩, ⟨some 16, .bin .neq (.tmp 1) (.cst (.int .i64 1)), none⟩]) (.cond (.var 16) (.seq (.region [⟨some 0, .mv (.cst (.bool false)), none⟩]) .ret) .skip)) (.seq (.region [⟨none, .mv (.var 2), none⟩, ⟨none, .mv (.var 4), none⟩, ⟨none, .indexSl 5 (.tmp 1) (.cst (.int .i64 0)), none⟩, ⟨none, .load true 5 (.tmp 2), none⟩, ⟨none, .call (.fn 23) [.tmp 0, .tmp 3], none⟩, ⟨some 5, .mv (.tmp 4), none⟩]) (.seq (.region [⟨none, .mv (.var 2), none⟩, ⟨none, .mv (.var 4), none⟩, ⟨none, .indexSl 5 (.tmp 1) (.cst (.int .i64 0)), none⟩, ⟨none, .load true 5 (.tmp 2), none⟩, ⟨none, .call (.fn 23) [.tmp 0, .tmp 3], none⟩, ⟨some 6, .mv (.tmp 4), none⟩]) (.seq (.region [⟨none, .mv (.var 2), none⟩, ⟨none, .call (.fn 19) [.tmp 0], none⟩, ⟨some 7, .mv (.tmp 1), none⟩]) (.seq (.seq (.region [⟨none, .mv (.var 7), none⟩, ⟨none, .lenSl (.tmp 0), none⟩, ⟨some 17, .bin .neq (.tmp 1) (.cst (.int .i64 1)), none⟩]) (.cond (.var 17) (.seq (.region [⟨some 0, .mv (.cst (.bool false)), none⟩]) .ret) .skip)) (.seq (.region [⟨none, .mv (.var 1), none⟩, ⟨none, .mv (.var 7), none⟩, ⟨none, .indexSl 5 (.tmp 1) (.cst (.int .i64 0)), none⟩, ⟨none, .load true 5 (.tmp 2), none⟩, ⟨none, .call (.fn 23) [.tmp 0, .tmp 3], none⟩]) (.seq (.region [⟨none, .mv (.var 1), none⟩, ⟨none, .call (.fn 27) [.tmp 0], none⟩, ⟨some 8, .mv (.tmp 1), none⟩]) (.seq (.region [⟨none, .mv (.var 1), none⟩, ⟨none, .call (.fn 16) [.tmp 0, .cst (.str [121])], none⟩]) (.seq (.region [⟨none, .mv (.var 1), none⟩, ⟨none, .build [.int .i64 0, .int .i64 0, .int .i64 0, .int .i64 0, .str []] [(0, (1, .cst (.int .i64 6)))], none⟩, ⟨none, .call (.fn 23) [.tmp 0, .tmp 1], none⟩]) (.seq (.region [⟨none, .mv (.var 1), none⟩, ⟨none, .call (.fn 28) [.tmp 0], none⟩, ⟨some 9, .mv (.tmp 1), none⟩]) (.seq (.region [⟨none, .mv (.var 4), none⟩, ⟨none, .indexSl 5 (.tmp 0) (.cst (.int .i64 0)), none⟩, ⟨none, .load true 5 (.tmp 1), none⟩, ⟨none, .call (.fn 30) [.tmp 2], none⟩, ⟨none, .mv (.tmp 3), none⟩, ⟨none, .extract (.tmp 4) 0, none⟩, ⟨none, .extract (.tmp 4) 1, none⟩, ⟨some 10, .mv (.tmp 5), none⟩, ⟨some 11, .mv (.tmp 6), none⟩]) (.seq (.region [⟨none, .mv (.var 10), none⟩, ⟨none, .call (.fn 32) [.tmp 0], none⟩, ⟨none, .mv (.tmp 1), none⟩, ⟨none, .extract (.tmp 2) 0, none⟩, ⟨none, .extract (.tmp 2) 1, none⟩, ⟨some 12, .alloc 5 (.agg [.int .i64 0, .int .i64 0, .int .i64 0, .int .i64 0, .str []]), none⟩, ⟨none, .store 5 (.var 12) (.tmp 3), none⟩, ⟨some 13, .mv (.tmp 4), none⟩]) (.seq (.region [⟨none, .mv (.var 4), none⟩, ⟨none, .indexSl 5 (.tmp 0) (.cst (.int .i64 0)), none⟩, ⟨none, .load true 5 (.tmp 1), none⟩, ⟨none, .build [.int .i64 0, .int .i64 0, .int .i64 0, .int .i64 0, .str []] [(0, (1, .cst (.int .i64 1))), (1, (1, .cst (.int .i64 5))), (2, (1, .cst (.int .i64 1))), (4, (1, .cst (.str [120])))], none⟩, ⟨none, .eqAgg false [(0, 1), (1, 1), (2, 1), (3, 1), (4, 2)] (.tmp 2) (.tmp 3), none⟩, ⟨none, .mv (.tmp 4), none⟩, ⟨none, .mv (.var 5), some (.tmp 5, true)⟩, ⟨none, .lenSl (.tmp 6), some (.tmp 5, true)⟩, ⟨none, .bin .eql (.tmp 7) (.cst (.int .i64 1)), some (.tmp 5, true)⟩, ⟨none, .pick (.tmp 5) (.tmp 8) (.cst (.bool false)), none⟩, ⟨none, .mv (.tmp 9), none⟩, ⟨none, .mv (.var 5), some (.tmp 10, true)⟩, ⟨none, .indexSl 1 (.tmp 11) (.cst (.int .i64 0)), some (.tmp 10, true)⟩, ⟨none, .load false 1 (.tmp 12), some (.tmp 10, true)⟩, ⟨none, .bin .eql (.tmp 13) (.cst (.str [120])), some (.tmp 10, true)⟩, ⟨none, .pick (.tmp 10) (.tmp 14) (.cst (.bool false)), none⟩, ⟨none, .mv (.tmp 15), none⟩, ⟨none, .mv (.var 6), some (.tmp 16, true)⟩, ⟨none, .lenSl (.tmp 17), some (.tmp 16, true)⟩, ⟨none, .bin .eql (.tmp 18) (.cst (.int .i64 0)), some (.tmp 16, true)⟩, ⟨none, .pick (.tmp 16) (.tmp 19) (.cst (.bool false)), none⟩, ⟨none, .mv (.tmp 20), none⟩, ⟨none, .mv (.var 7), some (.tmp 21, true)⟩, ⟨none, .indexSl 5 (.tmp 22) (.cst (.int .i64 0)), some (.tmp 21, true)⟩, ⟨none, .load true 5 (.tmp 23), some (.tmp 21, true)⟩, ⟨none, .build [.int .i64 0, .int .i64 0, .int .i64 0, .int .i64 0, .str []] [(0, (1, .cst (.int .i64 5))), (1, (1, .cst (.int .i64 1))), (3, (1, .cst (.int .i64 1)))], some (.tmp 21, true)⟩, ⟨none, .eqAgg false [(0, 1), (1, 1), (2, 1), (3, 1), (4, 2)] (.tmp 24) (.tmp 25), some (.tmp 21, true)⟩, ⟨none, .pick (.tmp 21) (.tmp 26) (.cst (.bool false)), none⟩, ⟨none, .mv (.tmp 27), none⟩, ⟨none, .mv (.var 8), some (.tmp 28, true)⟩, ⟨none, .bin .eql (.tmp 29) (.cst (.int .i64 0)), some (.tmp 28, true)⟩, ⟨none, .pick (.tmp 28) (.tmp 30) (.cst (.bool false)), none⟩, ⟨some 14, .mv (.tmp 31), none⟩]) (.seq (.region [⟨none, .mv (.var 14), none⟩, ⟨none, .mv (.tmp 0), none⟩, ⟨none, .mv (.var 9), some (.tmp 1, true)⟩, ⟨none, .lenSl (.tmp 2), some (.tmp 1, true)⟩, ⟨none, .bin .eql (.tmp 3) (.cst (.int .i64 1)), some (.tmp 1, true)⟩, ⟨none, .pick (.tmp 1) (.tmp 4) (.cst (.bool false)), none⟩, ⟨none, .mv (.tmp 5), none⟩, ⟨none, .mv (.var 9), some (.tmp 6, true)⟩, ⟨none, .indexSl 1 (.tmp 7) (.cst (.int .i64 0)), some (.tmp 6, true)⟩, ⟨none, .load false 1 (.tmp 8), some (.tmp 6, true)⟩, ⟨none, .bin .eql (.tmp 9) (.cst (.str [121])), some (.tmp 6, true)⟩, ⟨none, .pick (.tmp 6) (.tmp 10) (.cst (.bool false)), none⟩, ⟨none, .mv (.tmp 11), none⟩, ⟨none, .mv (.var 1), some (.tmp 12, true)⟩, ⟨none, .call (.fn 25) [.tmp 13], some (.tmp 12, true)⟩, ⟨none, .bin .eql (.tmp 14) (.cst (.int .i64 6)), some (.tmp 12, true)⟩, ⟨none, .pick (.tmp 12) (.tmp 15) (.cst (.bool false)), none⟩, ⟨none, .mv (.tmp 16), none⟩, ⟨none, .mv (.var 1), some (.tmp 17, true)⟩, ⟨none, .call (.fn 26) [.tmp 18], some (.tmp 17, true)⟩, ⟨none, .bin .eql (.tmp 19) (.cst (.int .i64 1)), some (.tmp 17, true)⟩, ⟨none, .pick (.tmp 17) (.tmp 20) (.cst (.bool false)), none⟩, ⟨none, .mv (.tmp 21), none⟩, ⟨none, .mv (.var 11), some (.tmp 22, true)⟩, ⟨none, .bin .eql (.tmp 23) (.cst (.int .i64 0)), some (.tmp 22, true)⟩, ⟨none, .pick (.tmp 22) (.tmp 24) (.cst (.bool false)), none⟩, ⟨none, .mv (.tmp 25), none⟩, ⟨none, .mv (.var 13), some (.tmp 26, true)⟩, ⟨none, .bin .eql (.tmp 27) (.cst (.int .i64 0)), some (.tmp 26, true)⟩, ⟨none, .pick (.tmp 26) (.tmp 28) (.cst (.bool false)), none⟩, ⟨none, .mv (.tmp 29), none⟩, ⟨none, .load true 5 (.var 12), some (.tmp 30, true)⟩, ⟨none, .mv (.var 4), some (.tmp 30, true)⟩, ⟨none, .indexSl 5 (.tmp 32) (.cst (.int .i64 0)), some (.tmp 30, true)⟩, ⟨none, .load true 5 (.tmp 33), some (.tmp 30, true)⟩, ⟨none, .eqAgg false [(0, 1), (1, 1), (2, 1), (3, 1), (4, 2)] (.tmp 31) (.tmp 34), some (.tmp 30, true)⟩, ⟨none, .pick (.tmp 30) (.tmp 35) (.cst (.bool false)), none⟩, ⟨none, .mv (.tmp 36), none⟩, ⟨none, .load true 5 (.var 12), some (.tmp 37, true)⟩, ⟨none, .call (.fn 34) [.tmp 38], some (.tmp 37, true)⟩, ⟨none, .pick (.tmp 37) (.tmp 39) (.cst (.bool false)), none⟩, ⟨none, .mv (.tmp 40), none⟩, ⟨none, .build [.int .i64 0, .int .i64 0, .int .i64 0, .int .i64 0, .str []] [], some (.tmp 41, true)⟩, ⟨none, .call (.fn 34) [.tmp 42], some (.tmp 41, true)⟩, ⟨none, .un .not (.tmp 43), some (.tmp 41, true)⟩, ⟨none, .pick (.tmp 41) (.tmp 44) (.cst (.bool false)), none⟩, ⟨some 0, .mv (.tmp 45), none⟩]) .ret))))))))))))))))), [.tmp 0]⟩
set_option maxHeartbeats 4000000 in
theorem comp12 : compFun Try.prog Try.f12 0 [0, 1, 2, 3, 4, 5, 6, 7, 8, 9, 10, 11, 12, 13, 14, 26, 31, 46] [25, 26, 34] true ([], []) = some mf12 := by kernel_rfl
theorem at12 : Try.prog.funcs[12]? = some Try.f12 := by kernel_rfl
def mf13 : MFun := ⟨1, 4, .seq (.region [⟨some 1, .mv (.cst .nilP), none⟩, ⟨some 2, .mv (.cst (.int .i64 0)), none⟩]) (.seq (.seq (.region [⟨none, .mv (.var 0), none⟩, ⟨none, .call (.fn 42) [.tmp 0, .cst (.int .i64 1), .cst (.int .i64 1000000)], none⟩, ⟨some 3, .un .not (.tmp 1), none⟩]) (.cond (.var 3) (.seq (.region [⟨some 1, .mv (.cst .nilP), none⟩, ⟨some 2, .mv (.cst (.int .i64 260)), none⟩]) .ret) .skip)) (.seq (.region [⟨none, .mv (.var 0), none⟩, ⟨none, .build [.int .i64 0, .int .i64 0, .nilS, .int .i64 0, .int .i64 0, .bool false, .int .i64 0, .bool false, .int .i64 0, .nilS] [(0, (1, .tmp 0)), (3, (1, .cst (.int .i64 1)))], none⟩, ⟨none, .box (.tmp 1), none⟩, ⟨some 1, .mv (.tmp 2), none⟩, ⟨some 2, .mv (.cst (.int .i64 0)), none⟩]) .ret)), [.tmp 1, .tmp 2]⟩
set_option maxHeartbeats 4000000 in
theorem comp13 : compFun Try.prog Try.f13 1 [0, 2, 3, 6] [] true ([], []) = some mf13 := by kernel_rfl
theorem at13 : Try.prog.funcs[13]? = some Try.f13 := by kernel_rfl
def mf14 : MFun := ⟨1, 4, .seq (.region [⟨some 1, .mv (.cst .nilP), none⟩, ⟨some 2, .mv (.cst (.int .i64 0)), none⟩]) (.seq (.seq (.region [⟨none, .mv (.var 0), none⟩, ⟨none, .call (.fn 43) [.tmp 0, .cst (.int .i64 1), .cst (.int .i64 1000000)], none⟩, ⟨some 3, .un .not (.tmp 1), none⟩]) (.cond (.var 3) (.seq (.region [⟨some 1, .mv (.cst .nilP), none⟩, ⟨some 2, .mv (.cst (.int .i64 260)), none⟩]) .ret) .skip)) (.seq (.region [⟨none, .mv (.var 0), none⟩, ⟨none, .build [.int .i64 0, .int .i64 0, .nilS, .int .i64 0, .int .i64 0, .bool false, .int .i64 0, .bool false, .int .i64 0, .nilS] [(0, (1, .tmp 0)), (3, (1, .cst (.int .i64 1)))], none⟩, ⟨none, .box (.tmp 1), none⟩, ⟨some 1, .mv (.tmp 2), none⟩, ⟨some 2, .mv (.cst (.int .i64 0)), none⟩]) .ret)), [.tmp 1, .tmp 2]⟩
set_option maxHeartbeats 4000000 in
theorem comp14 : compFun Try.prog Try.f14 1 [0, 2, 3, 6] [] true ([], []) = some mf14 := by kernel_rfl
theorem at14 : Try.prog.funcs[14]? = some Try.f14 := by kernel_rfl
def mf15 : MFun := ⟨2, 4, .seq (.region [⟨some 2, .mv (.cst (.int .i64 0)), none⟩]) (.seq (.seq (.region [⟨none, .mv (.var 0), none⟩, ⟨some 3, .bin .lss (.tmp 0) (.cst (.int .i64 0)), none⟩]) (.cond (.var 3) (.region [⟨none, .mv (.var 0), none⟩, ⟨none, .bin .add (.tmp 0) (.cst (.int .i64 1)), none⟩, ⟨none, .un .neg (.tmp 1), none⟩, ⟨some 0, .mv (.tmp 2), none⟩]) .skip)) (.seq (.region [⟨none, .mv (.var 0), none⟩, ⟨none, .mv (.var 1), none⟩, ⟨none, .bin .rem (.tmp 0) (.tmp 1), none⟩, ⟨some 2, .mv (.tmp 2), none⟩]) .ret)), [.tmp 2]⟩
set_option maxHeartbeats 4000000 in
theorem comp15 : compFun Try.prog Try.f15 2 [0, 1, 4, 6] [] true ([], []) = some mf15 := by kernel_rfl
theorem at15 : Try.prog.funcs[15]? = some Try.f15 := by kernel_rfl
def mf16 : MFun := ⟨2, 5, .seq (.region [⟨some 2, .mv (.cst (.int .i64 0)), none⟩]) (.seq (.seq (.block 0 (.seq (.region [⟨none, .mv (.var 0), none⟩, ⟨none, .eqNil 0 false (.tmp 0), none⟩, ⟨some 3, .mv (.tmp 1), none⟩]) (.cond (.var 3) (.seq (.region [⟨some 2, .mv (.cst (.int .i64 1)), none⟩]) .ret) (.seq (.region [⟨none, .mv (.var 1), none⟩, ⟨none, .lenStr (.tmp 0), none⟩, ⟨none, .bin .gtr (.tmp 1) (.cst (.int .i64 1024)), none⟩, ⟨none, .mv (.tmp 2), none⟩, ⟨none, .mv (.var 0), some (.tmp 3, false)⟩, ⟨none, .nilCheck (.tmp 4), some (.tmp 3, false)⟩, ⟨none, .fieldAddr 2 (.tmp 5), some (.tmp 3, false)⟩, ⟨none, .load false 1 (.tmp 6), some (.tmp 3, false)⟩, ⟨none, .lenSl (.tmp 7), some (.tmp 3, false)⟩, ⟨none, .bin .geq (.tmp 8) (.cst (.int .i64 64)), some (.tmp 3, false)⟩, ⟨none, .pick (.tmp 3) (.cst (.bool true)) (.tmp 9), none⟩, ⟨some 4, .mv (.tmp 10), none⟩]) (.cond (.var 4) (.seq (.region [⟨some 2, .mv (.cst (.int .i64 260)), none⟩]) .ret) .skip))))) (.kill [2, 3, 4])) (.seq (.region [⟨none, .mv (.var 0), none⟩, ⟨none, .mv (.var 0), none⟩, ⟨none, .nilCheck (.tmp 1), none⟩, ⟨none, .fieldAddr 2 (.tmp 2), none⟩, ⟨none, .load false 1 (.tmp 3), none⟩, ⟨none, .mv (.var 0), none⟩, ⟨none, .nilCheck (.tmp 5), none⟩, ⟨none, .fieldAddr 3 (.tmp 6), none⟩, ⟨none, .load false 1 (.tmp 7), none⟩, ⟨none, .mv (.var 1), none⟩, ⟨none, .build [.int .i64 0, .str []] [(0, (1, .tmp 8)), (1, (1, .tmp 9))], none⟩, ⟨none, .build [.int .i64 0, .str [], .int .i64 0] [(0, (2, .tmp 10))], none⟩, ⟨none, .buildF 3 [.tmp 11], none⟩, ⟨none, .appendN 3 32 (.tmp 4) (.tmp 12), none⟩, ⟨none, .nilCheck (.tmp 0), none⟩, ⟨none, .fieldAddr 2 (.tmp 14), none⟩, ⟨none, .store 1 (.tmp 15) (.tmp 13), none⟩]) (.seq (.region [⟨none, .mv (.var 0), none⟩, ⟨none, .nilCheck (.tmp 0), none⟩, ⟨none, .fieldAddr 3 (.tmp 1), none⟩, ⟨none, .load false 1 (.tmp 2), none⟩, ⟨none, .bin .add (.tmp 3) (.cst (.int .i64 1)), none⟩, ⟨none, .nilCheck (.tmp 0), none⟩, ⟨none, .fieldAddr 3 (.tmp 5), none⟩, ⟨none, .store 1 (.tmp 6) (.tmp 4), none⟩]) (.seq (.region [⟨some 2, .mv (.cst (.int .i64 0)), none⟩]) .ret)))), [.tmp 2]⟩
set_option maxHeartbeats 4000000 in
theorem comp16 : compFun Try.prog Try.f16 2 [0, 1, 4, 5, 8] [] true ([], [[2, 3, 4]]) = some mf16 := by kernel_rfl
theorem at16 : Try.prog.funcs[16]? = some Try.f16 := by kernel_rfl
def lp17x0 : MC := .seq (.seq (.region [⟨none, .mv (.var 3), none⟩, ⟨none, .bin .gtr (.tmp 0) (.cst (.int .i64 0)), none⟩, ⟨none, .mv (.tmp 1), none⟩, ⟨none, .mv (.var 2), some (.tmp 2, false)⟩, ⟨none, .bin .eql (.tmp 3) (.cst (.str [])), some (.tmp 2, false)⟩, ⟨some 4, .pick (.tmp 2) (.cst (.bool true)) (.tmp 4), none⟩]) (.cond (.var 4) .skip (.exit 0))) (.seq (.seq (.block 1 (.region [⟨none, .mv (.var 3), none⟩, ⟨none, .bin .rem (.tmp 0) (.cst (.int .i64 10)), none⟩, ⟨none, .bin .add (.cst (.int .i64 48)) (.tmp 1), none⟩, ⟨none, .convInt .u8 (.tmp 2), none⟩, ⟨none, .buildSlice 1 [.tmp 3], none⟩, ⟨none, .toStr (.tmp 4), none⟩, ⟨none, .mv (.var 2), none⟩, ⟨none, .bin .add (.tmp 5) (.tmp 6), none⟩, ⟨some 2, .mv (.tmp 7), none⟩])) (.kill [0, 1, 4])) (.region [⟨none, .mv (.var 3), none⟩, ⟨none, .bin .quo (.tmp 0) (.cst (.int .i64 10)), none⟩, ⟨some 3, .mv (.tmp 1), none⟩]))
def mf17 : MFun := ⟨1, 5, .seq (.region [⟨some 1, .mv (.cst (.str [])), none⟩]) (.seq (.region [⟨some 2, .mv (.cst (.str [])), none⟩]) (.seq (.seq (.region [⟨none, .mv (.var 0), none⟩, ⟨some 3, .mv (.tmp 0), none⟩]) (.seq (.block 0 (.loop [0, 1, 4] lp17x0)) (.kill [0, 1, 3, 4]))) (.seq (.region [⟨none, .mv (.var 2), none⟩, ⟨some 1, .mv (.tmp 0), none⟩]) .ret))), [.tmp 1]⟩
def mask17x0 : List Nat := [0, 1, 4]
abbrev st17x0 (v2 v3 : AV) : List AV := [.undef, .undef, v2, v3, .undef]
theorem cl17x0 {d0 d1 v2 v3 d4 : AV} : clear mask17x0 [d0, d1, v2, v3, d4] = st17x0 v2 v3 := by simp only [mask17x0, clear, List.foldl_cons, List.foldl_nil, List.set_cons_zero, List.set_cons_succ]
theorem go17x0 {E : Env} {fuel : Nat} {A : Arena} {o : Out} {k : List KC} {d0 d1 v2 v3 d4 : AV} (h : iter (evC E fuel lp17x0) mask17x0 fuel (st17x0 v2 v3) A = some o) :
    run E fuel (.code (.loop [0, 1, 4] lp17x0) :: k) [d0, d1, v2, v3, d4] A = after E fuel k o := run_loopC mask17x0 _ _ (by rw [cl17x0]; exact h)
set_option maxHeartbeats 4000000 in
theorem comp17 : compFun Try.prog Try.f17 1 [0, 2, 3, 4, 11] [] true ([[0, 1, 4]], [[0, 1, 4], [0, 1, 3, 4]]) = some mf17 := by kernel_rfl
theorem at17 : Try.prog.funcs[17]? = some Try.f17 := by kernel_rfl
def mf18 : MFun := ⟨2, 4, .seq (.region [⟨some 2, .mv (.cst (.int .i64 0)), none⟩]) (.seq (.seq (.region [⟨none, .mv (.var 1), none⟩, ⟨none, .lenStr (.tmp 0), none⟩, ⟨none, .bin .gtr (.tmp 1) (.cst (.int .i64 1024)), none⟩, ⟨none, .mv (.tmp 2), none⟩, ⟨none, .mv (.var 0), some (.tmp 3, false)⟩, ⟨none, .nilCheck (.tmp 4), some (.tmp 3, false)⟩, ⟨none, .fieldAddr 2 (.tmp 5), some (.tmp 3, false)⟩, ⟨none, .load false 1 (.tmp 6), some (.tmp 3, false)⟩, ⟨none, .lenSl (.tmp 7), some (.tmp 3, false)⟩, ⟨none, .bin .geq (.tmp 8) (.cst (.int .i64 64)), some (.tmp 3, false)⟩, ⟨some 3, .pick (.tmp 3) (.cst (.bool true)) (.tmp 9), none⟩]) (.cond (.var 3) (.seq (.region [⟨some 2, .mv (.cst (.int .i64 260)), none⟩]) .ret) .skip)) (.seq (.region [⟨none, .mv (.var 0), none⟩, ⟨none, .mv (.var 0), none⟩, ⟨none, .nilCheck (.tmp 1), none⟩, ⟨none, .fieldAddr 2 (.tmp 2), none⟩, ⟨none, .load false 1 (.tmp 3), none⟩, ⟨none, .mv (.var 0), none⟩, ⟨none, .nilCheck (.tmp 5), none⟩, ⟨none, .fieldAddr 3 (.tmp 6), none⟩, ⟨none, .load false 1 (.tmp 7), none⟩, ⟨none, .mv (.var 1), none⟩, ⟨none, .build [.int .i64 0, .str [], .int .i64 0] [(0, (1, .tmp 8)), (1, (1, .tmp 9))], none⟩, ⟨none, .buildF 3 [.tmp 10], none⟩, ⟨none, .appendN 3 32 (.tmp 4) (.tmp 11), none⟩, ⟨none, .nilCheck (.tmp 0), none⟩, ⟨none, .fieldAddr 2 (.tmp 13), none⟩, ⟨none, .store 1 (.tmp 14) (.tmp 12), none⟩]) (.seq (.region [⟨none, .mv (.var 0), none⟩, ⟨none, .nilCheck (.tmp 0), none⟩, ⟨none, .fieldAddr 3 (.tmp 1), none⟩, ⟨none, .load false 1 (.tmp 2), none⟩, ⟨none, .bin .add (.tmp 3) (.cst (.int .i64 1)), none⟩, ⟨none, .nilCheck (.tmp 0), none⟩, ⟨none, .fieldAddr 3 (.tmp 5), none⟩, ⟨none, .store 1 (.tmp 6) (.tmp 4), none⟩]) (.seq (.region [⟨some 2, .mv (.cst (.int .i64 0)), none⟩]) .ret)))), [.tmp 2]⟩
set_option maxHeartbeats 4000000 in
theorem comp18 : compFun Try.prog Try.f18 2 [0, 1, 4, 15] [] true ([], []) = some mf18 := by kernel_rfl
theorem at18 : Try.prog.funcs[18]? = some Try.f18 := by kernel_rfl
def mf19 : MFun := ⟨1, 5, .seq (.region [⟨some 1, .mv (.cst .nilS), none⟩]) (.seq (.seq (.region [⟨none, .mv (.var 0), none⟩, ⟨some 2, .eqNil 0 false (.tmp 0), none⟩]) (.cond (.var 2) (.seq (.region [⟨some 1, .mv (.cst .nilS), none⟩]) .ret) .skip)) (.seq (.region [⟨none, .mv (.var 0), none⟩, ⟨none, .nilCheck (.tmp 0), none⟩, ⟨none, .fieldAddr 6 (.tmp 1), none⟩, ⟨none, .load false 1 (.tmp 2), none⟩, ⟨none, .bin .add (.tmp 3) (.cst (.int .i64 1)), none⟩, ⟨none, .nilCheck (.tmp 0), none⟩, ⟨none, .fieldAddr 6 (.tmp 5), none⟩, ⟨none, .store 1 (.tmp 6) (.tmp 4), none⟩]) (.seq (.seq (.region [⟨none, .mv (.var 0), none⟩, ⟨none, .nilCheck (.tmp 0), none⟩, ⟨none, .fieldAddr 1 (.tmp 1), none⟩, ⟨none, .load false 1 (.tmp 2), none⟩, ⟨some 3, .bin .gtr (.tmp 3) (.cst (.int .i64 0)), none⟩]) (.cond (.var 3) (.seq (.region [⟨none, .mv (.var 0), none⟩, ⟨none, .call (.fn 44) [.tmp 0], none⟩, ⟨some 1, .mv (.tmp 1), none⟩]) (.region [⟨none, .mv (.var 0), none⟩, ⟨none, .mv (.var 0), none⟩, ⟨none, .nilCheck (.tmp 1), none⟩, ⟨none, .fieldAddr 5 (.tmp 2), none⟩, ⟨none, .load false 1 (.tmp 3), none⟩, ⟨none, .mv (.tmp 4), none⟩, ⟨none, .mv (.var 1), some (.tmp 5, true)⟩, ⟨none, .lenSl (.tmp 6), some (.tmp 5, true)⟩, ⟨none, .bin .eql (.tmp 7) (.cst (.int .i64 0)), some (.tmp 5, true)⟩, ⟨none, .pick (.tmp 5) (.tmp 8) (.cst (.bool false)), none⟩, ⟨none, .nilCheck (.tmp 0), none⟩, ⟨none, .fieldAddr 5 (.tmp 10), none⟩, ⟨none, .store 1 (.tmp 11) (.tmp 9), none⟩])) .skip)) (.seq (.seq (.region [⟨none, .mv (.var 0), none⟩, ⟨none, .nilCheck (.tmp 0), none⟩, ⟨none, .fieldAddr 7 (.tmp 1), none⟩, ⟨none, .load false 1 (.tmp 2), none⟩, ⟨none, .un .not (.tmp 3), none⟩, ⟨none, .mv (.tmp 4), none⟩, ⟨none, .mv (.var 0), some (.tmp 5, true)⟩, ⟨none, .mv (.var 0), some (.tmp 5, true)⟩, ⟨none, .nilCheck (.tmp 7), some (.tmp 5, true)⟩, ⟨none, .fieldAddr 8 (.tmp 8), some (.tmp 5, true)⟩, ⟨none, .load false 1 (.tmp 9), some (.tmp 5, true)⟩, ⟨none, .call (.fn 45) [.tmp 6, .tmp 10], some (.tmp 5, true)⟩, ⟨some 4, .pick (.tmp 5) (.tmp 11) (.cst (.bool false)), none⟩]) (.cond (.var 4) (.seq (.region [⟨none, .mv (.var 0), none⟩, ⟨none, .mv (.var 0), none⟩, ⟨none, .nilCheck (.tmp 1), none⟩, ⟨none, .fieldAddr 6 (.tmp 2), none⟩, ⟨none, .load false 1 (.tmp 3), none⟩, ⟨none, .nilCheck (.tmp 0), none⟩, ⟨none, .fieldAddr 8 (.tmp 5), none⟩, ⟨none, .store 1 (.tmp 6) (.tmp 4), none⟩]) (.region [⟨none, .mv (.var 1), none⟩, ⟨none, .mv (.var 0), none⟩, ⟨none, .nilCheck (.tmp 1), none⟩, ⟨none, .fieldAddr 0 (.tmp 2), none⟩, ⟨none, .load false 1 (.tmp 3), none⟩, ⟨none, .build [.int .i64 0, .int .i64 0, .int .i64 0, .int .i64 0, .str []] [(0, (1, .tmp 4))], none⟩, ⟨none, .buildF 5 [.tmp 5], none⟩, ⟨none, .appendN 5 48 (.tmp 0) (.tmp 6), none⟩, ⟨some 1, .mv (.tmp 7), none⟩])) .skip)) (.seq (.region [⟨none, .mv (.var 1), none⟩, ⟨some 1, .mv (.tmp 0), none⟩]) .ret))))), [.tmp 1]⟩
set_option maxHeartbeats 4000000 in
theorem comp19 : compFun Try.prog Try.f19 1 [0, 2, 4, 16, 43] [] true ([], []) = some mf19 := by kernel_rfl
theorem at19 : Try.prog.funcs[19]? = some Try.f19 := by kernel_rfl
def lp20x0 : MC := .seq (.seq (.region [⟨none, .mv (.var 3), none⟩, ⟨none, .mv (.var 0), none⟩, ⟨none, .nilCheck (.tmp 1), none⟩, ⟨none, .fieldAddr 2 (.tmp 2), none⟩, ⟨none, .load false 1 (.tmp 3), none⟩, ⟨none, .lenSl (.tmp 4), none⟩, ⟨none, .bin .lss (.tmp 0) (.tmp 5), none⟩, ⟨none, .mv (.tmp 6), none⟩, ⟨none, .mv (.var 3), some (.tmp 7, true)⟩, ⟨none, .bin .lss (.tmp 8) (.cst (.int .i64 8)), some (.tmp 7, true)⟩, ⟨none, .pick (.tmp 7) (.tmp 9) (.cst (.bool false)), none⟩, ⟨none, .mv (.tmp 10), none⟩, ⟨none, .mv (.var 0), some (.tmp 11, true)⟩, ⟨none, .nilCheck (.tmp 12), some (.tmp 11, true)⟩, ⟨none, .fieldAddr 7 (.tmp 13), some (.tmp 11, true)⟩, ⟨none, .load false 1 (.tmp 14), some (.tmp 11, true)⟩, ⟨some 5, .pick (.tmp 11) (.tmp 15) (.cst (.bool false)), none⟩]) (.cond (.var 5) .skip (.exit 0))) (.seq (.seq (.block 1 (.seq (.region [⟨none, .mv (.var 0), none⟩, ⟨none, .nilCheck (.tmp 0), none⟩, ⟨none, .fieldAddr 2 (.tmp 1), none⟩, ⟨none, .load false 1 (.tmp 2), none⟩, ⟨none, .mv (.var 3), none⟩, ⟨none, .indexSl 3 (.tmp 3) (.tmp 4), none⟩, ⟨none, .load true 3 (.tmp 5), none⟩, ⟨some 4, .alloc 3 (.agg [.int .i64 0, .str [], .int .i64 0]), none⟩, ⟨none, .store 3 (.var 4) (.tmp 6), none⟩]) (.seq (.region [⟨none, .fieldAddr 2 (.var 4), none⟩, ⟨none, .load false 1 (.tmp 0), none⟩, ⟨none, .bin .eql (.tmp 1) (.cst (.int .i64 0)), none⟩, ⟨none, .mv (.tmp 2), none⟩, ⟨none, .mv (.var 0), some (.tmp 3, false)⟩, ⟨none, .nilCheck (.tmp 4), some (.tmp 3, false)⟩, ⟨none, .fieldAddr 6 (.tmp 5), some (.tmp 3, false)⟩, ⟨none, .load false 1 (.tmp 6), some (.tmp 3, false)⟩, ⟨none, .fieldAddr 2 (.var 4), some (.tmp 3, false)⟩, ⟨none, .load false 1 (.tmp 8), some (.tmp 3, false)⟩, ⟨none, .bin .sub (.tmp 7) (.tmp 9), some (.tmp 3, false)⟩, ⟨none, .bin .geq (.tmp 10) (.cst (.int .i64 3)), some (.tmp 3, false)⟩, ⟨some 6, .pick (.tmp 3) (.cst (.bool true)) (.tmp 11), none⟩]) (.cond (.var 6) (.seq (.region [⟨none, .mv (.var 0), none⟩, ⟨none, .nilCheck (.tmp 0), none⟩, ⟨none, .fieldAddr 2 (.tmp 1), none⟩, ⟨none, .load false 1 (.tmp 2), none⟩, ⟨none, .mv (.var 3), none⟩, ⟨none, .mv (.var 0), none⟩, ⟨none, .nilCheck (.tmp 5), none⟩, ⟨none, .fieldAddr 6 (.tmp 6), none⟩, ⟨none, .load false 1 (.tmp 7), none⟩, ⟨none, .indexSl 3 (.tmp 3) (.tmp 4), none⟩, ⟨none, .fieldAddr 2 (.tmp 9), none⟩, ⟨none, .store 1 (.tmp 10) (.tmp 8), none⟩]) (.region [⟨none, .mv (.var 2), none⟩, ⟨none, .mv (.var 0), none⟩, ⟨none, .nilCheck (.tmp 1), none⟩, ⟨none, .fieldAddr 0 (.tmp 2), none⟩, ⟨none, .load false 1 (.tmp 3), none⟩, ⟨none, .mv (.var 0), none⟩, ⟨none, .nilCheck (.tmp 5), none⟩, ⟨none, .fieldAddr 1 (.tmp 6), none⟩, ⟨none, .load false 1 (.tmp 7), none⟩, ⟨none, .fieldAddr 0 (.var 4), none⟩, ⟨none, .load false 1 (.tmp 9), none⟩, ⟨none, .mv (.var 0), none⟩, ⟨none, .nilCheck (.tmp 11), none⟩, ⟨none, .fieldAddr 4 (.tmp 12), none⟩, ⟨none, .load false 1 (.tmp 13), none⟩, ⟨none, .fieldAddr 1 (.var 4), none⟩, ⟨none, .load false 1 (.tmp 15), none⟩, ⟨none, .build [.int .i64 0, .int .i64 0, .int .i64 0, .int .i64 0, .str []] [(0, (1, .tmp 4)), (1, (1, .tmp 8)), (2, (1, .tmp 10)), (3, (1, .tmp 14)), (4, (1, .tmp 16))], none⟩, ⟨none, .buildF 5 [.tmp 17], none⟩, ⟨none, .appendN 5 48 (.tmp 0) (.tmp 18), none⟩, ⟨some 2, .mv (.tmp 19), none⟩])) .skip)))) (.kill [1, 4, 5, 6, 7, 8, 9])) (.region [⟨none, .mv (.var 3), none⟩, ⟨none, .bin .add (.tmp 0) (.cst (.int .i64 1)), none⟩, ⟨some 3, .mv (.tmp 1), none⟩]))
def mf20 : MFun := ⟨1, 10, .seq (.region [⟨some 1, .mv (.cst .nilS), none⟩]) (.seq (.region [⟨none, .mv (.var 0), none⟩, ⟨none, .nilCheck (.tmp 0), none⟩, ⟨none, .fieldAddr 6 (.tmp 1), none⟩, ⟨none, .load false 1 (.tmp 2), none⟩, ⟨none, .bin .add (.tmp 3) (.cst (.int .i64 1)), none⟩, ⟨none, .nilCheck (.tmp 0), none⟩, ⟨none, .fieldAddr 6 (.tmp 5), none⟩, ⟨none, .store 1 (.tmp 6) (.tmp 4), none⟩]) (.seq (.region [⟨some 2, .mv (.cst .nilS), none⟩]) (.seq (.seq (.region [⟨some 3, .mv (.cst (.int .i64 0)), none⟩]) (.seq (.block 0 (.loop [1, 4, 5, 6, 7, 8, 9] lp20x0)) (.kill [1, 3, 4, 5, 6, 7, 8, 9]))) (.seq (.seq (.region [⟨none, .mv (.var 2), none⟩, ⟨none, .lenSl (.tmp 0), none⟩, ⟨none, .bin .eql (.tmp 1) (.cst (.int .i64 0)), none⟩, ⟨none, .mv (.tmp 2), none⟩, ⟨none, .mv (.var 0), some (.tmp 3, true)⟩, ⟨none, .nilCheck (.tmp 4), some (.tmp 3, true)⟩, ⟨none, .fieldAddr 5 (.tmp 5), some (.tmp 3, true)⟩, ⟨none, .load false 1 (.tmp 6), some (.tmp 3, true)⟩, ⟨none, .pick (.tmp 3) (.tmp 7) (.cst (.bool false)), none⟩, ⟨none, .mv (.tmp 8), none⟩, ⟨none, .mv (.var 0), some (.tmp 9, true)⟩, ⟨none, .nilCheck (.tmp 10), some (.tmp 9, true)⟩, ⟨none, .fieldAddr 1 (.tmp 11), some (.tmp 9, true)⟩, ⟨none, .load false 1 (.tmp 12), some (.tmp 9, true)⟩, ⟨none, .bin .gtr (.tmp 13) (.cst (.int .i64 0)), some (.tmp 9, true)⟩, ⟨some 7, .pick (.tmp 9) (.tmp 14) (.cst (.bool false)), none⟩]) (.cond (.var 7) (.region [⟨none, .mv (.var 2), none⟩, ⟨none, .mv (.var 0), none⟩, ⟨none, .nilCheck (.tmp 1), none⟩, ⟨none, .fieldAddr 0 (.tmp 2), none⟩, ⟨none, .load false 1 (.tmp 3), none⟩, ⟨none, .mv (.var 0), none⟩, ⟨none, .nilCheck (.tmp 5), none⟩, ⟨none, .fieldAddr 1 (.tmp 6), none⟩, ⟨none, .load false 1 (.tmp 7), none⟩, ⟨none, .mv (.var 0), none⟩, ⟨none, .nilCheck (.tmp 9), none⟩, ⟨none, .fieldAddr 4 (.tmp 10), none⟩, ⟨none, .load false 1 (.tmp 11), none⟩, ⟨none, .build [.int .i64 0, .int .i64 0, .int .i64 0, .int .i64 0, .str []] [(0, (1, .tmp 4)), (1, (1, .tmp 8)), (3, (1, .tmp 12))], none⟩, ⟨none, .buildF 5 [.tmp 13], none⟩, ⟨none, .appendN 5 48 (.tmp 0) (.tmp 14), none⟩, ⟨some 2, .mv (.tmp 15), none⟩]) .skip)) (.seq (.seq (.region [⟨none, .mv (.var 2), none⟩, ⟨none, .lenSl (.tmp 0), none⟩, ⟨some 8, .bin .gtr (.tmp 1) (.cst (.int .i64 0)), none⟩]) (.cond (.var 8) (.region [⟨none, .mv (.var 0), none⟩, ⟨none, .nilCheck (.tmp 0), none⟩, ⟨none, .fieldAddr 5 (.tmp 1), none⟩, ⟨none, .store 1 (.tmp 2) (.cst (.bool false)), none⟩]) .skip)) (.seq (.seq (.region [⟨none, .mv (.var 0), none⟩, ⟨none, .nilCheck (.tmp 0), none⟩, ⟨none, .fieldAddr 7 (.tmp 1), none⟩, ⟨none, .load false 1 (.tmp 2), none⟩, ⟨none, .un .not (.tmp 3), none⟩, ⟨none, .mv (.tmp 4), none⟩, ⟨none, .mv (.var 0), some (.tmp 5, true)⟩, ⟨none, .nilCheck (.tmp 6), some (.tmp 5, true)⟩, ⟨none, .fieldAddr 8 (.tmp 7), some (.tmp 5, true)⟩, ⟨none, .load false 1 (.tmp 8), some (.tmp 5, true)⟩, ⟨none, .bin .eql (.tmp 9) (.cst (.int .i64 0)), some (.tmp 5, true)⟩, ⟨none, .mv (.tmp 10), some (.tmp 5, true)⟩, ⟨none, .mv (.var 0), some (.tmp 11, false)⟩, ⟨none, .nilCheck (.tmp 12), some (.tmp 11, false)⟩, ⟨none, .fieldAddr 6 (.tmp 13), some (.tmp 11, false)⟩, ⟨none, .load false 1 (.tmp 14), some (.tmp 11, false)⟩, ⟨none, .mv (.var 0), some (.tmp 11, false)⟩, ⟨none, .nilCheck (.tmp 16), some (.tmp 11, false)⟩, ⟨none, .fieldAddr 8 (.tmp 17), some (.tmp 11, false)⟩, ⟨none, .load false 1 (.tmp 18), some (.tmp 11, false)⟩, ⟨none, .bin .sub (.tmp 15) (.tmp 19), some (.tmp 11, false)⟩, ⟨none, .bin .geq (.tmp 20) (.cst (.int .i64 3)), some (.tmp 11, false)⟩, ⟨none, .pick (.tmp 11) (.cst (.bool true)) (.tmp 21), some (.tmp 5, true)⟩, ⟨some 9, .pick (.tmp 5) (.tmp 22) (.cst (.bool false)), none⟩]) (.cond (.var 9) (.seq (.region [⟨none, .mv (.var 2), none⟩, ⟨none, .mv (.var 0), none⟩, ⟨none, .nilCheck (.tmp 1), none⟩, ⟨none, .fieldAddr 0 (.tmp 2), none⟩, ⟨none, .load false 1 (.tmp 3), none⟩, ⟨none, .build [.int .i64 0, .int .i64 0, .int .i64 0, .int .i64 0, .str []] [(0, (1, .tmp 4))], none⟩, ⟨none, .buildF 5 [.tmp 5], none⟩, ⟨none, .appendN 5 48 (.tmp 0) (.tmp 6), none⟩, ⟨some 2, .mv (.tmp 7), none⟩]) (.region [⟨none, .mv (.var 0), none⟩, ⟨none, .mv (.var 0), none⟩, ⟨none, .nilCheck (.tmp 1), none⟩, ⟨none, .fieldAddr 6 (.tmp 2), none⟩, ⟨none, .load false 1 (.tmp 3), none⟩, ⟨none, .nilCheck (.tmp 0), none⟩, ⟨none, .fieldAddr 8 (.tmp 5), none⟩, ⟨none, .store 1 (.tmp 6) (.tmp 4), none⟩])) .skip)) (.seq (.region [⟨none, .mv (.var 2), none⟩, ⟨some 1, .mv (.tmp 0), none⟩]) .ret))))))), [.tmp 1]⟩
def mask20x0 : List Nat := [1, 4, 5, 6, 7, 8, 9]
abbrev st20x0 (v0 v2 v3 : AV) : List AV := [v0, .undef, v2, v3, .undef, .undef, .undef, .undef, .undef, .undef]
theorem cl20x0 {v0 d1 v2 v3 d4 d5 d6 d7 d8 d9 : AV} : clear mask20x0 [v0, d1, v2, v3, d4, d5, d6, d7, d8, d9] = st20x0 v0 v2 v3 := by simp only [mask20x0, clear, List.foldl_cons, List.foldl_nil, List.set_cons_zero, List.set_cons_succ]
theorem go20x0 {E : Env} {fuel : Nat} {A : Arena} {o : Out} {k : List KC} {v0 d1 v2 v3 d4 d5 d6 d7 d8 d9 : AV} (h : iter (evC E fuel lp20x0) mask20x0 fuel (st20x0 v0 v2 v3) A = some o) :
    run E fuel (.code (.loop [1, 4, 5, 6, 7, 8, 9] lp20x0) :: k) [v0, d1, v2, v3, d4, d5, d6, d7, d8, d9] A = after E fuel k o := run_loopC mask20x0 _ _ (by rw [cl20x0]; exact h)
set_option maxHeartbeats 4000000 in
theorem comp20 : compFun Try.prog Try.f20 1 [0, 2, 3, 4, 5, 29, 51, 98, 117, 144] [] true ([[1, 4, 5, 6, 7, 8, 9]], [[1, 4, 5, 6, 7, 8, 9], [1, 3, 4, 5, 6, 7, 8, 9]]) = some mf20 := by kernel_rfl
theorem at20 : Try.prog.funcs[20]? = some Try.f20 := by kernel_rfl
def lp21x0 : MC := .seq (.seq (.region [⟨none, .mv (.var 3), none⟩, ⟨none, .mv (.var 0), none⟩, ⟨none, .lenSl (.tmp 1), none⟩, ⟨some 5, .bin .lss (.tmp 0) (.tmp 2), none⟩]) (.cond (.var 5) .skip (.exit 0))) (.seq (.seq (.block 1 (.seq (.region [⟨none, .mv (.var 0), none⟩, ⟨none, .mv (.var 3), none⟩, ⟨none, .indexSl 5 (.tmp 0) (.tmp 1), none⟩, ⟨none, .load true 5 (.tmp 2), none⟩, ⟨none, .mv (.var 1), none⟩, ⟨none, .mv (.var 3), none⟩, ⟨none, .indexSl 5 (.tmp 4) (.tmp 5), none⟩, ⟨none, .load true 5 (.tmp 6), none⟩, ⟨some 6, .eqAgg true [(0, 1), (1, 1), (2, 1), (3, 1), (4, 2)] (.tmp 3) (.tmp 7), none⟩]) (.cond (.var 6) (.seq (.region [⟨some 2, .mv (.cst (.bool false)), none⟩]) .ret) .skip))) (.kill [2, 4, 5, 6])) (.region [⟨none, .mv (.var 3), none⟩, ⟨none, .bin .add (.tmp 0) (.cst (.int .i64 1)), none⟩, ⟨some 3, .mv (.tmp 1), none⟩]))
def mf21 : MFun := ⟨2, 7, .seq (.region [⟨some 2, .mv (.cst (.bool false)), none⟩]) (.seq (.seq (.region [⟨none, .mv (.var 0), none⟩, ⟨none, .lenSl (.tmp 0), none⟩, ⟨none, .mv (.var 1), none⟩, ⟨none, .lenSl (.tmp 2), none⟩, ⟨some 4, .bin .neq (.tmp 1) (.tmp 3), none⟩]) (.cond (.var 4) (.seq (.region [⟨some 2, .mv (.cst (.bool false)), none⟩]) .ret) .skip)) (.seq (.seq (.region [⟨some 3, .mv (.cst (.int .i64 0)), none⟩]) (.seq (.block 0 (.loop [2, 4, 5, 6] lp21x0)) (.kill [0, 1, 2, 3, 4, 5, 6]))) (.seq (.region [⟨some 2, .mv (.cst (.bool true)), none⟩]) .ret))), [.tmp 2]⟩
def mask21x0 : List Nat := [2, 4, 5, 6]
abbrev st21x0 (v0 v1 v3 : AV) : List AV := [v0, v1, .undef, v3, .undef, .undef, .undef]
theorem cl21x0 {v0 v1 d2 v3 d4 d5 d6 : AV} : clear mask21x0 [v0, v1, d2, v3, d4, d5, d6] = st21x0 v0 v1 v3 := by simp only [mask21x0, clear, List.foldl_cons, List.foldl_nil, List.set_cons_zero, List.set_cons_succ]
theorem go21x0 {E : Env} {fuel : Nat} {A : Arena} {o : Out} {k : List KC} {v0 v1 d2 v3 d4 d5 d6 : AV} (h : iter (evC E fuel lp21x0) mask21x0 fuel (st21x0 v0 v1 v3) A = some o) :
    run E fuel (.code (.loop [2, 4, 5, 6] lp21x0) :: k) [v0, v1, d2, v3, d4, d5, d6] A = after E fuel k o := run_loopC mask21x0 _ _ (by rw [cl21x0]; exact h)
set_option maxHeartbeats 4000000 in
theorem comp21 : compFun Try.prog Try.f21 2 [0, 1, 4, 5, 10, 14, 25] [] true ([[2, 4, 5, 6]], [[2, 4, 5, 6], [0, 1, 2, 3, 4, 5, 6]]) = some mf21 := by kernel_rfl
theorem at21 : Try.prog.funcs[21]? = some Try.f21 := by kernel_rfl
def lp22x0 : MC := .seq (.seq (.region [⟨none, .mv (.var 3), none⟩, ⟨none, .mv (.var 0), none⟩, ⟨none, .lenSl (.tmp 1), none⟩, ⟨some 5, .bin .lss (.tmp 0) (.tmp 2), none⟩]) (.cond (.var 5) .skip (.exit 0))) (.seq (.seq (.block 1 (.seq (.region [⟨none, .mv (.var 0), none⟩, ⟨none, .mv (.var 3), none⟩, ⟨none, .indexSl 1 (.tmp 0) (.tmp 1), none⟩, ⟨none, .load false 1 (.tmp 2), none⟩, ⟨none, .mv (.var 1), none⟩, ⟨none, .mv (.var 3), none⟩, ⟨none, .indexSl 1 (.tmp 4) (.tmp 5), none⟩, ⟨none, .load false 1 (.tmp 6), none⟩, ⟨some 6, .bin .neq (.tmp 3) (.tmp 7), none⟩]) (.cond (.var 6) (.seq (.region [⟨some 2, .mv (.cst (.bool false)), none⟩]) .ret) .skip))) (.kill [2, 4, 5, 6])) (.region [⟨none, .mv (.var 3), none⟩, ⟨none, .bin .add (.tmp 0) (.cst (.int .i64 1)), none⟩, ⟨some 3, .mv (.tmp 1), none⟩]))
def mf22 : MFun := ⟨2, 7, .seq (.region [⟨some 2, .mv (.cst (.bool false)), none⟩]) (.seq (.seq (.region [⟨none, .mv (.var 0), none⟩, ⟨none, .lenSl (.tmp 0), none⟩, ⟨none, .mv (.var 1), none⟩, ⟨none, .lenSl (.tmp 2), none⟩, ⟨some 4, .bin .neq (.tmp 1) (.tmp 3), none⟩]) (.cond (.var 4) (.seq (.region [⟨some 2, .mv (.cst (.bool false)), none⟩]) .ret) .skip)) (.seq (.seq (.region [⟨some 3, .mv (.cst (.int .i64 0)), none⟩]) (.seq (.block 0 (.loop [2, 4, 5, 6] lp22x0)) (.kill [0, 1, 2, 3, 4, 5, 6]))) (.seq (.region [⟨some 2, .mv (.cst (.bool true)), none⟩]) .ret))), [.tmp 2]⟩
def mask22x0 : List Nat := [2, 4, 5, 6]
abbrev st22x0 (v0 v1 v3 : AV) : List AV := [v0, v1, .undef, v3, .undef, .undef, .undef]
theorem cl22x0 {v0 v1 d2 v3 d4 d5 d6 : AV} : clear mask22x0 [v0, v1, d2, v3, d4, d5, d6] = st22x0 v0 v1 v3 := by simp only [mask22x0, clear, List.foldl_cons, List.foldl_nil, List.set_cons_zero, List.set_cons_succ]
theorem go22x0 {E : Env} {fuel : Nat} {A : Arena} {o : Out} {k : List KC} {v0 v1 d2 v3 d4 d5 d6 : AV} (h : iter (evC E fuel lp22x0) mask22x0 fuel (st22x0 v0 v1 v3) A = some o) :
    run E fuel (.code (.loop [2, 4, 5, 6] lp22x0) :: k) [v0, v1, d2, v3, d4, d5, d6] A = after E fuel k o := run_loopC mask22x0 _ _ (by rw [cl22x0]; exact h)
set_option maxHeartbeats 4000000 in
theorem comp22 : compFun Try.prog Try.f22 2 [0, 1, 4, 5, 10, 14, 25] [] true ([[2, 4, 5, 6]], [[2, 4, 5, 6], [0, 1, 2, 3, 4, 5, 6]]) = some mf22 := by kernel_rfl
theorem at22 : Try.prog.funcs[22]? = some Try.f22 := by kernel_rfl
def mf23 : MFun := ⟨2, 8, .seq (.region [⟨some 2, .box (.var 1), none⟩, ⟨some 3, .mv (.cst .nilS), none⟩]) (.seq (.seq (.region [⟨none, .mv (.var 0), none⟩, ⟨none, .eqNil 0 false (.tmp 0), none⟩, ⟨none, .mv (.tmp 1), none⟩, ⟨none, .load true 5 (.var 2), some (.tmp 2, false)⟩, ⟨none, .call (.fn 34) [.tmp 3], some (.tmp 2, false)⟩, ⟨none, .un .not (.tmp 4), some (.tmp 2, false)⟩, ⟨none, .pick (.tmp 2) (.cst (.bool true)) (.tmp 5), none⟩, ⟨none, .mv (.tmp 6), none⟩, ⟨none, .fieldAddr 1 (.var 2), some (.tmp 7, false)⟩, ⟨none, .load false 1 (.tmp 8), some (.tmp 7, false)⟩, ⟨none, .bin .neq (.tmp 9) (.cst (.int .i64 0)), some (.tmp 7, false)⟩, ⟨none, .mv (.tmp 10), some (.tmp 7, false)⟩, ⟨none, .fieldAddr 1 (.var 2), some (.tmp 11, true)⟩, ⟨none, .load false 1 (.tmp 12), some (.tmp 11, true)⟩, ⟨none, .mv (.var 0), some (.tmp 11, true)⟩, ⟨none, .nilCheck (.tmp 14), some (.tmp 11, true)⟩, ⟨none, .fieldAddr 0 (.tmp 15), some (.tmp 11, true)⟩, ⟨none, .load false 1 (.tmp 16), some (.tmp 11, true)⟩, ⟨none, .bin .neq (.tmp 13) (.tmp 17), some (.tmp 11, true)⟩, ⟨none, .pick (.tmp 11) (.tmp 18) (.cst (.bool false)), some (.tmp 7, false)⟩, ⟨none, .pick (.tmp 7) (.cst (.bool true)) (.tmp 19), none⟩, ⟨none, .mv (.tmp 20), none⟩, ⟨none, .fieldAddr 0 (.var 2), some (.tmp 21, false)⟩, ⟨none, .load false 1 (.tmp 22), some (.tmp 21, false)⟩, ⟨none, .mv (.var 0), some (.tmp 21, false)⟩, ⟨none, .nilCheck (.tmp 24), some (.tmp 21, false)⟩, ⟨none, .fieldAddr 1 (.tmp 25), some (.tmp 21, false)⟩, ⟨none, .load false 1 (.tmp 26), some (.tmp 21, false)⟩, ⟨none, .bin .lss (.tmp 23) (.tmp 27), some (.tmp 21, false)⟩, ⟨some 5, .pick (.tmp 21) (.cst (.bool true)) (.tmp 28), none⟩]) (.cond (.var 5) (.seq (.region [⟨some 3, .mv (.cst .nilS), none⟩]) .ret) .skip)) (.seq (.region [⟨none, .mv (.var 0), none⟩, ⟨none, .fieldAddr 0 (.var 2), none⟩, ⟨none, .load false 1 (.tmp 1), none⟩, ⟨none, .call (.fn 46) [.tmp 0, .tmp 2], none⟩]) (.seq (.region [⟨none, .mv (.var 0), none⟩, ⟨none, .mv (.var 0), none⟩, ⟨none, .nilCheck (.tmp 1), none⟩, ⟨none, .fieldAddr 5 (.tmp 2), none⟩, ⟨none, .load false 1 (.tmp 3), none⟩, ⟨none, .mv (.tmp 4), none⟩, ⟨none, .fieldAddr 1 (.var 2), some (.tmp 5, false)⟩, ⟨none, .load false 1 (.tmp 6), some (.tmp 5, false)⟩, ⟨none, .bin .eql (.tmp 7) (.cst (.int .i64 0)), some (.tmp 5, false)⟩, ⟨none, .pick (.tmp 5) (.cst (.bool true)) (.tmp 8), none⟩, ⟨none, .mv (.tmp 9), none⟩, ⟨none, .fieldAddr 2 (.var 2), some (.tmp 10, false)⟩, ⟨none, .load false 1 (.tmp 11), some (.tmp 10, false)⟩, ⟨none, .bin .gtr (.tmp 12) (.cst (.int .i64 0)), some (.tmp 10, false)⟩, ⟨none, .pick (.tmp 10) (.cst (.bool true)) (.tmp 13), none⟩, ⟨none, .nilCheck (.tmp 0), none⟩, ⟨none, .fieldAddr 5 (.tmp 15), none⟩, ⟨none, .store 1 (.tmp 16) (.tmp 14), none⟩]) (.seq (.seq (.region [⟨none, .fieldAddr 1 (.var 2), none⟩, ⟨none, .load false 1 (.tmp 0), none⟩, ⟨some 6, .bin .eql (.tmp 1) (.cst (.int .i64 0)), none⟩]) (.cond (.var 6) (.seq (.region [⟨some 3, .mv (.cst .nilS), none⟩]) .ret) .skip)) (.seq (.region [⟨none, .mv (.var 0), none⟩, ⟨none, .nilCheck (.tmp 0), none⟩, ⟨none, .fieldAddr 7 (.tmp 1), none⟩, ⟨none, .store 1 (.tmp 2) (.cst (.bool true)), none⟩]) (.seq (.region [⟨none, .mv (.var 0), none⟩, ⟨none, .makeFunc (.func 47) [.tmp 0] [], none⟩, ⟨some 4, .mv (.tmp 1), none⟩]) (.seq (.region [⟨none, .mv (.var 4), none⟩, ⟨none, .fieldAddr 3 (.var 2), none⟩, ⟨none, .load false 1 (.tmp 1), none⟩, ⟨none, .call (.tmp 0) [.tmp 2], none⟩]) (.seq (.seq (.region [⟨none, .fieldAddr 2 (.var 2), none⟩, ⟨none, .load false 1 (.tmp 0), none⟩, ⟨none, .bin .eql (.tmp 1) (.cst (.int .i64 0)), none⟩, ⟨none, .mv (.tmp 2), none⟩, ⟨none, .fieldAddr 2 (.var 2), some (.tmp 3, false)⟩, ⟨none, .load false 1 (.tmp 4), some (.tmp 3, false)⟩, ⟨none, .mv (.var 0), some (.tmp 3, false)⟩, ⟨none, .nilCheck (.tmp 6), some (.tmp 3, false)⟩, ⟨none, .fieldAddr 4 (.tmp 7), some (.tmp 3, false)⟩, ⟨none, .load false 1 (.tmp 8), some (.tmp 3, false)⟩, ⟨none, .bin .add (.tmp 9) (.cst (.int .i64 1)), some (.tmp 3, false)⟩, ⟨none, .bin .neq (.tmp 5) (.tmp 10), some (.tmp 3, false)⟩, ⟨some 7, .pick (.tmp 3) (.cst (.bool true)) (.tmp 11), none⟩]) (.cond (.var 7) (.seq (.region [⟨some 3, .mv (.cst .nilS), none⟩]) .ret) .skip)) (.seq (.region [⟨none, .mv (.var 0), none⟩, ⟨none, .fieldAddr 2 (.var 2), none⟩, ⟨none, .load false 1 (.tmp 1), none⟩, ⟨none, .nilCheck (.tmp 0), none⟩, ⟨none, .fieldAddr 4 (.tmp 3), none⟩, ⟨none, .store 1 (.tmp 4) (.tmp 2), none⟩]) (.seq (.region [⟨none, .fieldAddr 4 (.var 2), none⟩, ⟨none, .load false 1 (.tmp 0), none⟩, ⟨none, .buildSlice 1 [.tmp 1], none⟩, ⟨some 3, .mv (.tmp 2), none⟩]) .ret)))))))))), [.tmp 3]⟩
set_option maxHeartbeats 4000000 in
theorem comp23 : compFun Try.prog Try.f23 2 [0, 1, 3, 4, 5, 35, 59, 81] [34] true ([], []) = some mf23 := by kernel_rfl
theorem at23 : Try.prog.funcs[23]? = some Try.f23 := by kernel_rfl
def lp24x0 : MC := .seq (.seq (.region [⟨none, .mv (.var 4), none⟩, ⟨none, .mv (.var 0), none⟩, ⟨none, .nilCheck (.tmp 1), none⟩, ⟨none, .fieldAddr 2 (.tmp 2), none⟩, ⟨none, .load false 1 (.tmp 3), none⟩, ⟨none, .lenSl (.tmp 4), none⟩, ⟨none, .bin .lss (.tmp 0) (.tmp 5), none⟩, ⟨none, .mv (.tmp 6), none⟩, ⟨none, .mv (.var 0), some (.tmp 7, true)⟩, ⟨none, .nilCheck (.tmp 8), some (.tmp 7, true)⟩, ⟨none, .fieldAddr 1 (.tmp 9), some (.tmp 7, true)⟩, ⟨none, .load false 1 (.tmp 10), some (.tmp 7, true)⟩, ⟨none, .bin .gtr (.tmp 11) (.cst (.int .i64 0)), some (.tmp 7, true)⟩, ⟨some 9, .pick (.tmp 7) (.tmp 12) (.cst (.bool false)), none⟩]) (.cond (.var 9) .skip (.exit 0))) (.seq (.seq (.block 1 (.region [⟨none, .mv (.var 0), none⟩, ⟨none, .mv (.var 0), none⟩, ⟨none, .nilCheck (.tmp 1), none⟩, ⟨none, .fieldAddr 9 (.tmp 2), none⟩, ⟨none, .load false 1 (.tmp 3), none⟩, ⟨none, .mv (.var 0), none⟩, ⟨none, .nilCheck (.tmp 5), none⟩, ⟨none, .fieldAddr 2 (.tmp 6), none⟩, ⟨none, .load false 1 (.tmp 7), none⟩, ⟨none, .mv (.var 4), none⟩, ⟨none, .indexSl 3 (.tmp 8) (.tmp 9), none⟩, ⟨none, .fieldAddr 1 (.tmp 10), none⟩, ⟨none, .load false 1 (.tmp 11), none⟩, ⟨none, .buildF 1 [.tmp 12], none⟩, ⟨none, .appendN 1 16 (.tmp 4) (.tmp 13), none⟩, ⟨none, .nilCheck (.tmp 0), none⟩, ⟨none, .fieldAddr 9 (.tmp 15), none⟩, ⟨none, .store 1 (.tmp 16) (.tmp 14), none⟩])) (.kill [1, 3, 5, 6, 7, 8, 9, 10, 11, 12, 13, 14, 15])) (.region [⟨none, .mv (.var 4), none⟩, ⟨none, .bin .add (.tmp 0) (.cst (.int .i64 1)), none⟩, ⟨some 4, .mv (.tmp 1), none⟩]))
def lp24x1 : MC := .seq (.seq (.region [⟨none, .mv (.var 6), none⟩, ⟨none, .mv (.var 0), none⟩, ⟨none, .nilCheck (.tmp 1), none⟩, ⟨none, .fieldAddr 2 (.tmp 2), none⟩, ⟨none, .load false 1 (.tmp 3), none⟩, ⟨none, .lenSl (.tmp 4), none⟩, ⟨some 12, .bin .lss (.tmp 0) (.tmp 5), none⟩]) (.cond (.var 12) .skip (.exit 2))) (.seq (.seq (.block 3 (.seq (.region [⟨none, .mv (.var 0), none⟩, ⟨none, .nilCheck (.tmp 0), none⟩, ⟨none, .fieldAddr 2 (.tmp 1), none⟩, ⟨none, .load false 1 (.tmp 2), none⟩, ⟨none, .mv (.var 6), none⟩, ⟨none, .indexSl 3 (.tmp 3) (.tmp 4), none⟩, ⟨none, .fieldAddr 2 (.tmp 5), none⟩, ⟨none, .load false 1 (.tmp 6), none⟩, ⟨none, .bin .eql (.tmp 7) (.cst (.int .i64 0)), none⟩, ⟨none, .mv (.tmp 8), none⟩, ⟨none, .mv (.var 0), some (.tmp 9, false)⟩, ⟨none, .nilCheck (.tmp 10), some (.tmp 9, false)⟩, ⟨none, .fieldAddr 2 (.tmp 11), some (.tmp 9, false)⟩, ⟨none, .load false 1 (.tmp 12), some (.tmp 9, false)⟩, ⟨none, .mv (.var 6), some (.tmp 9, false)⟩, ⟨none, .indexSl 3 (.tmp 13) (.tmp 14), some (.tmp 9, false)⟩, ⟨none, .fieldAddr 0 (.tmp 15), some (.tmp 9, false)⟩, ⟨none, .load false 1 (.tmp 16), some (.tmp 9, false)⟩, ⟨none, .fieldAddr 3 (.var 2), some (.tmp 9, false)⟩, ⟨none, .load false 1 (.tmp 18), some (.tmp 9, false)⟩, ⟨none, .bin .gtr (.tmp 17) (.tmp 19), some (.tmp 9, false)⟩, ⟨some 13, .pick (.tmp 9) (.cst (.bool true)) (.tmp 20), none⟩]) (.cond (.var 13) (.region [⟨none, .mv (.var 5), none⟩, ⟨none, .mv (.var 0), none⟩, ⟨none, .nilCheck (.tmp 1), none⟩, ⟨none, .fieldAddr 2 (.tmp 2), none⟩, ⟨none, .load false 1 (.tmp 3), none⟩, ⟨none, .mv (.var 6), none⟩, ⟨none, .indexSl 3 (.tmp 4) (.tmp 5), none⟩, ⟨none, .load true 3 (.tmp 6), none⟩, ⟨none, .buildF 3 [.tmp 7], none⟩, ⟨none, .appendN 3 32 (.tmp 0) (.tmp 8), none⟩, ⟨some 5, .mv (.tmp 9), none⟩]) .skip))) (.kill [1, 3, 4, 7, 8, 9, 10, 11, 12, 13, 14, 15])) (.region [⟨none, .mv (.var 6), none⟩, ⟨none, .bin .add (.tmp 0) (.cst (.int .i64 1)), none⟩, ⟨some 6, .mv (.tmp 1), none⟩]))
def mf24 : MFun := ⟨2, 16, .seq (.region [⟨some 2, .box (.var 1), none⟩, ⟨some 3, .mv (.cst .nilS), none⟩]) (.seq (.seq (.region [⟨none, .load true 5 (.var 2), none⟩, ⟨none, .call (.fn 35) [.tmp 0], none⟩, ⟨none, .un .not (.tmp 1), none⟩, ⟨none, .mv (.tmp 2), none⟩, ⟨none, .fieldAddr 1 (.var 2), some (.tmp 3, false)⟩, ⟨none, .load false 1 (.tmp 4), some (.tmp 3, false)⟩, ⟨none, .bin .neq (.tmp 5) (.cst (.int .i64 0)), some (.tmp 3, false)⟩, ⟨none, .mv (.tmp 6), some (.tmp 3, false)⟩, ⟨none, .fieldAddr 1 (.var 2), some (.tmp 7, true)⟩, ⟨none, .load false 1 (.tmp 8), some (.tmp 7, true)⟩, ⟨none, .mv (.var 0), some (.tmp 7, true)⟩, ⟨none, .nilCheck (.tmp 10), some (.tmp 7, true)⟩, ⟨none, .fieldAddr 0 (.tmp 11), some (.tmp 7, true)⟩, ⟨none, .load false 1 (.tmp 12), some (.tmp 7, true)⟩, ⟨none, .bin .neq (.tmp 9) (.tmp 13), some (.tmp 7, true)⟩, ⟨none, .pick (.tmp 7) (.tmp 14) (.cst (.bool false)), some (.tmp 3, false)⟩, ⟨none, .pick (.tmp 3) (.cst (.bool true)) (.tmp 15), none⟩, ⟨none, .mv (.tmp 16), none⟩, ⟨none, .fieldAddr 0 (.var 2), some (.tmp 17, false)⟩, ⟨none, .load false 1 (.tmp 18), some (.tmp 17, false)⟩, ⟨none, .mv (.var 0), some (.tmp 17, false)⟩, ⟨none, .nilCheck (.tmp 20), some (.tmp 17, false)⟩, ⟨none, .fieldAddr 1 (.tmp 21), some (.tmp 17, false)⟩, ⟨none, .load false 1 (.tmp 22), some (.tmp 17, false)⟩, ⟨none, .bin .lss (.tmp 19) (.tmp 23), some (.tmp 17, false)⟩, ⟨some 7, .pick (.tmp 17) (.cst (.bool true)) (.tmp 24), none⟩]) (.cond (.var 7) (.seq (.region [⟨some 3, .mv (.cst .nilS), none⟩]) .ret) .skip)) (.seq (.seq (.region [⟨none, .fieldAddr 0 (.var 2), none⟩, ⟨none, .load false 1 (.tmp 0), none⟩, ⟨none, .mv (.var 0), none⟩, ⟨none, .nilCheck (.tmp 2), none⟩, ⟨none, .fieldAddr 1 (.tmp 3), none⟩, ⟨none, .load false 1 (.tmp 4), none⟩, ⟨some 8, .bin .gtr (.tmp 1) (.tmp 5), none⟩]) (.cond (.var 8) (.seq (.seq (.region [⟨some 4, .mv (.cst (.int .i64 0)), none⟩]) (.seq (.block 0 (.loop [1, 3, 5, 6, 7, 8, 9, 10, 11, 12, 13, 14, 15] lp24x0)) (.kill [1, 3, 4, 5, 6, 7, 8, 9, 10, 11, 12, 13, 14, 15]))) (.seq (.seq (.region [⟨none, .mv (.var 0), none⟩, ⟨none, .nilCheck (.tmp 0), none⟩, ⟨none, .fieldAddr 1 (.tmp 1), none⟩, ⟨none, .load false 1 (.tmp 2), none⟩, ⟨some 10, .bin .gtr (.tmp 3) (.cst (.int .i64 0)), none⟩]) (.cond (.var 10) (.seq (.region [⟨none, .mv (.var 0), none⟩, ⟨none, .nilCheck (.tmp 0), none⟩, ⟨none, .fieldAddr 2 (.tmp 1), none⟩, ⟨none, .store 1 (.tmp 2) (.cst .nilS), none⟩]) (.region [⟨none, .mv (.var 0), none⟩, ⟨none, .nilCheck (.tmp 0), none⟩, ⟨none, .fieldAddr 3 (.tmp 1), none⟩, ⟨none, .store 1 (.tmp 2) (.cst (.int .i64 1)), none⟩])) .skip)) (.seq (.region [⟨none, .mv (.var 0), none⟩, ⟨none, .fieldAddr 0 (.var 2), none⟩, ⟨none, .load false 1 (.tmp 1), none⟩, ⟨none, .nilCheck (.tmp 0), none⟩, ⟨none, .fieldAddr 1 (.tmp 3), none⟩, ⟨none, .store 1 (.tmp 4) (.tmp 2), none⟩]) (.seq (.region [⟨none, .mv (.var 0), none⟩, ⟨none, .nilCheck (.tmp 0), none⟩, ⟨none, .fieldAddr 4 (.tmp 1), none⟩, ⟨none, .store 1 (.tmp 2) (.cst (.int .i64 0)), none⟩]) (.region [⟨none, .mv (.var 0), none⟩, ⟨none, .nilCheck (.tmp 0), none⟩, ⟨none, .fieldAddr 7 (.tmp 1), none⟩, ⟨none, .store 1 (.tmp 2) (.cst (.bool false)), none⟩]))))) .skip)) (.seq (.seq (.region [⟨none, .fieldAddr 1 (.var 2), none⟩, ⟨none, .load false 1 (.tmp 0), none⟩, ⟨some 11, .bin .eql (.tmp 1) (.cst (.int .i64 0)), none⟩]) (.cond (.var 11) (.seq (.region [⟨none, .mv (.var 0), none⟩, ⟨none, .nilCheck (.tmp 0), none⟩, ⟨none, .fieldAddr 5 (.tmp 1), none⟩, ⟨none, .store 1 (.tmp 2) (.cst (.bool true)), none⟩]) (.seq (.region [⟨some 3, .mv (.cst .nilS), none⟩]) .ret)) .skip)) (.seq (.region [⟨none, .mv (.var 0), none⟩, ⟨none, .nilCheck (.tmp 0), none⟩, ⟨none, .fieldAddr 7 (.tmp 1), none⟩, ⟨none, .store 1 (.tmp 2) (.cst (.bool true)), none⟩]) (.seq (.region [⟨some 5, .mv (.cst .nilS), none⟩]) (.seq (.seq (.region [⟨some 6, .mv (.cst (.int .i64 0)), none⟩]) (.seq (.block 2 (.loop [1, 3, 4, 7, 8, 9, 10, 11, 12, 13, 14, 15] lp24x1)) (.kill [1, 3, 4, 6, 7, 8, 9, 10, 11, 12, 13, 14, 15]))) (.seq (.region [⟨none, .mv (.var 0), none⟩, ⟨none, .mv (.var 5), none⟩, ⟨none, .nilCheck (.tmp 0), none⟩, ⟨none, .fieldAddr 2 (.tmp 2), none⟩, ⟨none, .store 1 (.tmp 3) (.tmp 1), none⟩]) (.seq (.seq (.region [⟨none, .fieldAddr 2 (.var 2), none⟩, ⟨none, .load false 1 (.tmp 0), none⟩, ⟨some 14, .bin .eql (.tmp 1) (.cst (.int .i64 0)), none⟩]) (.cond (.var 14) (.seq (.region [⟨some 3, .mv (.cst .nilS), none⟩]) .ret) .skip)) (.seq (.region [⟨none, .mv (.var 0), none⟩, ⟨none, .nilCheck (.tmp 0), none⟩, ⟨none, .fieldAddr 5 (.tmp 1), none⟩, ⟨none, .store 1 (.tmp 2) (.cst (.bool true)), none⟩]) (.seq (.seq (.region [⟨none, .fieldAddr 2 (.var 2), none⟩, ⟨none, .load false 1 (.tmp 0), none⟩, ⟨none, .mv (.var 0), none⟩, ⟨none, .nilCheck (.tmp 2), none⟩, ⟨none, .fieldAddr 4 (.tmp 3), none⟩, ⟨none, .load false 1 (.tmp 4), none⟩, ⟨none, .bin .add (.tmp 5) (.cst (.int .i64 1)), none⟩, ⟨some 15, .bin .neq (.tmp 1) (.tmp 6), none⟩]) (.cond (.var 15) (.seq (.region [⟨some 3, .mv (.cst .nilS), none⟩]) .ret) .skip)) (.seq (.region [⟨none, .mv (.var 0), none⟩, ⟨none, .fieldAddr 2 (.var 2), none⟩, ⟨none, .load false 1 (.tmp 1), none⟩, ⟨none, .nilCheck (.tmp 0), none⟩, ⟨none, .fieldAddr 4 (.tmp 3), none⟩, ⟨none, .store 1 (.tmp 4) (.tmp 2), none⟩]) (.seq (.region [⟨none, .fieldAddr 4 (.var 2), none⟩, ⟨none, .load false 1 (.tmp 0), none⟩, ⟨none, .buildSlice 1 [.tmp 1], none⟩, ⟨some 3, .mv (.tmp 2), none⟩]) .ret)))))))))))), [.tmp 3]⟩
def mask24x0 : List Nat := [1, 3, 5, 6, 7, 8, 9, 10, 11, 12, 13, 14, 15]
abbrev st24x0 (v0 v2 v4 : AV) : List AV := [v0, .undef, v2, .undef, v4, .undef, .undef, .undef, .undef, .undef, .undef, .undef, .undef, .undef, .undef, .undef]
theorem cl24x0 {v0 d1 v2 d3 v4 d5 d6 d7 d8 d9 d10 d11 d12 d13 d14 d15 : AV} : clear mask24x0 [v0, d1, v2, d3, v4, d5, d6, d7, d8, d9, d10, d11, d12, d13, d14, d15] = st24x0 v0 v2 v4 := by simp only [mask24x0, clear, List.foldl_cons, List.foldl_nil, List.set_cons_zero, List.set_cons_succ]
theorem go24x0 {E : Env} {fuel : Nat} {A : Arena} {o : Out} {k : List KC} {v0 d1 v2 d3 v4 d5 d6 d7 d8 d9 d10 d11 d12 d13 d14 d15 : AV} (h : iter (evC E fuel lp24x0) mask24x0 fuel (st24x0 v0 v2 v4) A = some o) :
    run E fuel (.code (.loop [1, 3, 5, 6, 7, 8, 9, 10, 11, 12, 13, 14, 15] lp24x0) :: k) [v0, d1, v2, d3, v4, d5, d6, d7, d8, d9, d10, d11, d12, d13, d14, d15] A = after E fuel k o := run_loopC mask24x0 _ _ (by rw [cl24x0]; exact h)
def mask24x1 : List Nat := [1, 3, 4, 7, 8, 9, 10, 11, 12, 13, 14, 15]
abbrev st24x1 (v0 v2 v5 v6 : AV) : List AV := [v0, .undef, v2, .undef, .undef, v5, v6, .undef, .undef, .undef, .undef, .undef, .undef, .undef, .undef, .undef]
theorem cl24x1 {v0 d1 v2 d3 d4 v5 v6 d7 d8 d9 d10 d11 d12 d13 d14 d15 : AV} : clear mask24x1 [v0, d1, v2, d3, d4, v5, v6, d7, d8, d9, d10, d11, d12, d13, d14, d15] = st24x1 v0 v2 v5 v6 := by simp only [mask24x1, clear, List.foldl_cons, List.foldl_nil, List.set_cons_zero, List.set_cons_succ]
theorem go24x1 {E : Env} {fuel : Nat} {A : Arena} {o : Out} {k : List KC} {v0 d1 v2 d3 d4 v5 v6 d7 d8 d9 d10 d11 d12 d13 d14 d15 : AV} (h : iter (evC E fuel lp24x1) mask24x1 fuel (st24x1 v0 v2 v5 v6) A = some o) :
    run E fuel (.code (.loop [1, 3, 4, 7, 8, 9, 10, 11, 12, 13, 14, 15] lp24x1) :: k) [v0, d1, v2, d3, d4, v5, v6, d7, d8, d9, d10, d11, d12, d13, d14, d15] A = after E fuel k o := run_loopC mask24x1 _ _ (by rw [cl24x1]; exact h)
set_option maxHeartbeats 4000000 in
theorem comp24 : compFun Try.prog Try.f24 2 [0, 1, 3, 4, 5, 6, 7, 33, 40, 54, 78, 98, 111, 135, 152, 163] [35] true ([[1, 3, 5, 6, 7, 8, 9, 10, 11, 12, 13, 14, 15], [1, 3, 4, 7, 8, 9, 10, 11, 12, 13, 14, 15]], [[1, 3, 5, 6, 7, 8, 9, 10, 11, 12, 13, 14, 15], [1, 3, 4, 5, 6, 7, 8, 9, 10, 11, 12, 13, 14, 15], [1, 3, 4, 7, 8, 9, 10, 11, 12, 13, 14, 15], [1, 3, 4, 6, 7, 8, 9, 10, 11, 12, 13, 14, 15]]) = some mf24 := by kernel_rfl
theorem at24 : Try.prog.funcs[24]? = some Try.f24 := by kernel_rfl
def mf25 : MFun := ⟨1, 3, .seq (.region [⟨some 1, .mv (.cst (.int .i64 0)), none⟩]) (.seq (.seq (.region [⟨none, .mv (.var 0), none⟩, ⟨some 2, .eqNil 0 false (.tmp 0), none⟩]) (.cond (.var 2) (.seq (.region [⟨some 1, .mv (.cst (.int .i64 0)), none⟩]) .ret) .skip)) (.seq (.region [⟨none, .mv (.var 0), none⟩, ⟨none, .nilCheck (.tmp 0), none⟩, ⟨none, .fieldAddr 1 (.tmp 1), none⟩, ⟨none, .load false 1 (.tmp 2), none⟩, ⟨some 1, .mv (.tmp 3), none⟩]) .ret)), [.tmp 1]⟩
set_option maxHeartbeats 4000000 in
theorem comp25 : compFun Try.prog Try.f25 1 [0, 2, 4] [] true ([], []) = some mf25 := by kernel_rfl
theorem at25 : Try.prog.funcs[25]? = some Try.f25 := by kernel_rfl
def mf26 : MFun := ⟨1, 3, .seq (.region [⟨some 1, .mv (.cst (.int .i64 0)), none⟩]) (.seq (.seq (.region [⟨none, .mv (.var 0), none⟩, ⟨some 2, .eqNil 0 false (.tmp 0), none⟩]) (.cond (.var 2) (.seq (.region [⟨some 1, .mv (.cst (.int .i64 0)), none⟩]) .ret) .skip)) (.seq (.region [⟨none, .mv (.var 0), none⟩, ⟨none, .nilCheck (.tmp 0), none⟩, ⟨none, .fieldAddr 0 (.tmp 1), none⟩, ⟨none, .load false 1 (.tmp 2), none⟩, ⟨some 1, .mv (.tmp 3), none⟩]) .ret)), [.tmp 1]⟩
set_option maxHeartbeats 4000000 in
theorem comp26 : compFun Try.prog Try.f26 1 [0, 2, 4] [] true ([], []) = some mf26 := by kernel_rfl
theorem at26 : Try.prog.funcs[26]? = some Try.f26 := by kernel_rfl
def mf27 : MFun := ⟨1, 3, .seq (.region [⟨some 1, .mv (.cst (.int .i64 0)), none⟩]) (.seq (.seq (.region [⟨none, .mv (.var 0), none⟩, ⟨some 2, .eqNil 0 false (.tmp 0), none⟩]) (.cond (.var 2) (.seq (.region [⟨some 1, .mv (.cst (.int .i64 0)), none⟩]) .ret) .skip)) (.seq (.region [⟨none, .mv (.var 0), none⟩, ⟨none, .nilCheck (.tmp 0), none⟩, ⟨none, .fieldAddr 2 (.tmp 1), none⟩, ⟨none, .load false 1 (.tmp 2), none⟩, ⟨none, .lenSl (.tmp 3), none⟩, ⟨some 1, .mv (.tmp 4), none⟩]) .ret)), [.tmp 1]⟩
set_option maxHeartbeats 4000000 in
theorem comp27 : compFun Try.prog Try.f27 1 [0, 2, 4] [] true ([], []) = some mf27 := by kernel_rfl
theorem at27 : Try.prog.funcs[27]? = some Try.f27 := by kernel_rfl
def mf28 : MFun := ⟨1, 4, .seq (.region [⟨some 1, .mv (.cst .nilS), none⟩]) (.seq (.seq (.region [⟨none, .mv (.var 0), none⟩, ⟨some 3, .eqNil 0 false (.tmp 0), none⟩]) (.cond (.var 3) (.seq (.region [⟨some 1, .mv (.cst .nilS), none⟩]) .ret) .skip)) (.seq (.region [⟨none, .mv (.var 0), none⟩, ⟨none, .nilCheck (.tmp 0), none⟩, ⟨none, .fieldAddr 9 (.tmp 1), none⟩, ⟨none, .load false 1 (.tmp 2), none⟩, ⟨some 2, .mv (.tmp 3), none⟩]) (.seq (.region [⟨none, .mv (.var 0), none⟩, ⟨none, .nilCheck (.tmp 0), none⟩, ⟨none, .fieldAddr 9 (.tmp 1), none⟩, ⟨none, .store 1 (.tmp 2) (.cst .nilS), none⟩]) (.seq (.region [⟨none, .mv (.var 2), none⟩, ⟨some 1, .mv (.tmp 0), none⟩]) .ret)))), [.tmp 1]⟩
set_option maxHeartbeats 4000000 in
theorem comp28 : compFun Try.prog Try.f28 1 [0, 2, 3, 5] [] true ([], []) = some mf28 := by kernel_rfl
theorem at28 : Try.prog.funcs[28]? = some Try.f28 := by kernel_rfl
def mf29 : MFun := ⟨1, 3, .seq (.region [⟨some 1, .mv (.cst .nilS), none⟩]) (.seq (.region [⟨none, .mv (.var 0), none⟩, ⟨none, .nilCheck (.tmp 0), none⟩, ⟨none, .fieldAddr 9 (.tmp 1), none⟩, ⟨none, .load false 1 (.tmp 2), none⟩, ⟨some 2, .mv (.tmp 3), none⟩]) (.seq (.region [⟨none, .mv (.var 0), none⟩, ⟨none, .nilCheck (.tmp 0), none⟩, ⟨none, .fieldAddr 9 (.tmp 1), none⟩, ⟨none, .store 1 (.tmp 2) (.cst .nilS), none⟩]) (.seq (.region [⟨none, .mv (.var 2), none⟩, ⟨some 1, .mv (.tmp 0), none⟩]) .ret))), [.tmp 1]⟩
set_option maxHeartbeats 4000000 in
theorem comp29 : compFun Try.prog Try.f29 1 [0, 2, 3] [] true ([], []) = some mf29 := by kernel_rfl
theorem at29 : Try.prog.funcs[29]? = some Try.f29 := by kernel_rfl
def lp30x0 : MC := .seq (.region [⟨some 11, .bin .lss (.var 10) (.cst (.int .i64 4)), none⟩]) (.seq (.cond (.var 11) .skip (.exit 0)) (.seq (.seq (.block 1 (.seq (.region [⟨none, .indexVal false 4 1 (.var 9) (.var 10), none⟩, ⟨some 5, .mv (.tmp 0), none⟩]) (.seq (.region [⟨none, .mv (.var 5), none⟩, ⟨none, .call (.fn 48) [.tmp 0], none⟩, ⟨none, .mv (.tmp 1), none⟩, ⟨none, .extract (.tmp 2) 0, none⟩, ⟨none, .extract (.tmp 2) 1, none⟩, ⟨some 6, .mv (.tmp 3), none⟩, ⟨none, .mv (.tmp 4), none⟩]) (.region [⟨none, .mv (.var 4), none⟩, ⟨none, .mv (.var 6), none⟩, ⟨none, .bin .add (.tmp 0) (.tmp 1), none⟩, ⟨some 4, .mv (.tmp 2), none⟩])))) (.kill [0, 2, 3, 5, 6, 7, 8, 11])) (.region [⟨none, .bin .add (.var 10) (.cst (.int .i64 1)), none⟩, ⟨some 10, .mv (.tmp 0), none⟩])))
def mf30 : MFun := ⟨1, 12, .seq (.region [⟨some 1, .box (.var 0), none⟩, ⟨some 2, .mv (.cst (.str [])), none⟩, ⟨some 3, .mv (.cst (.int .i64 0)), none⟩]) (.seq (.seq (.region [⟨none, .load true 5 (.var 1), none⟩, ⟨none, .call (.fn 34) [.tmp 0], none⟩, ⟨some 8, .un .not (.tmp 1), none⟩]) (.cond (.var 8) (.seq (.region [⟨some 2, .mv (.cst (.str [])), none⟩, ⟨some 3, .mv (.cst (.int .i64 260)), none⟩]) .ret) .skip)) (.seq (.region [⟨some 4, .mv (.cst (.str [])), none⟩]) (.seq (.seq (.region [⟨none, .fieldAddr 0 (.var 1), none⟩, ⟨none, .load false 1 (.tmp 0), none⟩, ⟨none, .fieldAddr 1 (.var 1), none⟩, ⟨none, .load false 1 (.tmp 2), none⟩, ⟨none, .fieldAddr 2 (.var 1), none⟩, ⟨none, .load false 1 (.tmp 4), none⟩, ⟨none, .fieldAddr 3 (.var 1), none⟩, ⟨none, .load false 1 (.tmp 6), none⟩, ⟨some 9, .build [.int .i64 0, .int .i64 0, .int .i64 0, .int .i64 0] [(0, (1, .tmp 1)), (1, (1, .tmp 3)), (2, (1, .tmp 5)), (3, (1, .tmp 7))], none⟩, ⟨some 10, .mv (.cst (.int .i64 0)), none⟩]) (.seq (.block 0 (.loop [0, 2, 3, 5, 6, 7, 8, 11] lp30x0)) (.kill [0, 2, 3, 5, 6, 7, 8, 9, 10, 11]))) (.seq (.region [⟨none, .fieldAddr 4 (.var 1), none⟩, ⟨none, .load false 1 (.tmp 0), none⟩, ⟨none, .call (.fn 49) [.tmp 1], none⟩, ⟨none, .mv (.tmp 2), none⟩, ⟨none, .extract (.tmp 3) 0, none⟩, ⟨none, .extract (.tmp 3) 1, none⟩, ⟨some 7, .mv (.tmp 4), none⟩, ⟨none, .mv (.tmp 5), none⟩]) (.seq (.region [⟨none, .mv (.var 4), none⟩, ⟨none, .mv (.var 7), none⟩, ⟨none, .bin .add (.tmp 0) (.tmp 1), none⟩, ⟨some 2, .mv (.tmp 2), none⟩, ⟨some 3, .mv (.cst (.int .i64 0)), none⟩]) .ret))))), [.tmp 2, .tmp 3]⟩
def mask30x0 : List Nat := [0, 2, 3, 5, 6, 7, 8, 11]
abbrev st30x0 (v1 v4 v9 v10 : AV) : List AV := [.undef, v1, .undef, .undef, v4, .undef, .undef, .undef, .undef, v9, v10, .undef]
theorem cl30x0 {d0 v1 d2 d3 v4 d5 d6 d7 d8 v9 v10 d11 : AV} : clear mask30x0 [d0, v1, d2, d3, v4, d5, d6, d7, d8, v9, v10, d11] = st30x0 v1 v4 v9 v10 := by simp only [mask30x0, clear, List.foldl_cons, List.foldl_nil, List.set_cons_zero, List.set_cons_succ]
theorem go30x0 {E : Env} {fuel : Nat} {A : Arena} {o : Out} {k : List KC} {d0 v1 d2 d3 v4 d5 d6 d7 d8 v9 v10 d11 : AV} (h : iter (evC E fuel lp30x0) mask30x0 fuel (st30x0 v1 v4 v9 v10) A = some o) :
    run E fuel (.code (.loop [0, 2, 3, 5, 6, 7, 8, 11] lp30x0) :: k) [d0, v1, d2, d3, v4, d5, d6, d7, d8, v9, v10, d11] A = after E fuel k o := run_loopC mask30x0 _ _ (by rw [cl30x0]; exact h)
set_option maxHeartbeats 4000000 in
theorem comp30 : compFun Try.prog Try.f30 1 [0, 1, 2, 3, 4, 6, 7, 9, 13, 22, 23, 24] [] true ([[0, 2, 3, 5, 6, 7, 8, 11]], [[0, 2, 3, 5, 6, 7, 8, 11], [0, 2, 3, 5, 6, 7, 8, 9, 10, 11]]) = some mf30 := by kernel_rfl
theorem at30 : Try.prog.funcs[30]? = some Try.f30 := by kernel_rfl
def lp31x0 : MC := .seq (.region [⟨some 12, .bin .lss (.var 11) (.var 10), none⟩]) (.seq (.cond (.var 12) .skip (.exit 0)) (.seq (.seq (.block 1 (.seq (.region [⟨none, .indexSl 1 (.var 9) (.var 11), none⟩, ⟨none, .load false 1 (.tmp 0), none⟩, ⟨some 5, .mv (.tmp 1), none⟩]) (.seq (.region [⟨none, .mv (.var 5), none⟩, ⟨none, .call (.fn 50) [.tmp 0], none⟩, ⟨none, .mv (.tmp 1), none⟩, ⟨none, .extract (.tmp 2) 0, none⟩, ⟨none, .extract (.tmp 2) 1, none⟩, ⟨some 6, .mv (.tmp 3), none⟩, ⟨none, .mv (.tmp 4), none⟩]) (.region [⟨none, .mv (.var 4), none⟩, ⟨none, .mv (.var 6), none⟩, ⟨none, .bin .add (.tmp 0) (.tmp 1), none⟩, ⟨some 4, .mv (.tmp 2), none⟩])))) (.kill [0, 2, 3, 5, 6, 7, 8, 12])) (.region [⟨none, .bin .add (.var 11) (.cst (.int .i64 1)), none⟩, ⟨some 11, .mv (.tmp 0), none⟩])))
def mf31 : MFun := ⟨1, 13, .seq (.region [⟨some 1, .box (.var 0), none⟩, ⟨some 2, .mv (.cst (.str [])), none⟩, ⟨some 3, .mv (.cst (.int .i64 0)), none⟩]) (.seq (.seq (.region [⟨none, .load true 5 (.var 1), none⟩, ⟨none, .call (.fn 35) [.tmp 0], none⟩, ⟨some 8, .un .not (.tmp 1), none⟩]) (.cond (.var 8) (.seq (.region [⟨some 2, .mv (.cst (.str [])), none⟩, ⟨some 3, .mv (.cst (.int .i64 260)), none⟩]) .ret) .skip)) (.seq (.region [⟨some 4, .mv (.cst (.str [])), none⟩]) (.seq (.seq (.region [⟨none, .fieldAddr 0 (.var 1), none⟩, ⟨none, .load false 1 (.tmp 0), none⟩, ⟨none, .fieldAddr 1 (.var 1), none⟩, ⟨none, .load false 1 (.tmp 2), none⟩, ⟨none, .fieldAddr 2 (.var 1), none⟩, ⟨none, .load false 1 (.tmp 4), none⟩, ⟨none, .fieldAddr 3 (.var 1), none⟩, ⟨none, .load false 1 (.tmp 6), none⟩, ⟨some 9, .buildSlice 1 [.tmp 1, .tmp 3, .tmp 5, .tmp 7], none⟩, ⟨some 10, .lenSl (.var 9), none⟩, ⟨some 11, .mv (.cst (.int .i64 0)), none⟩]) (.seq (.block 0 (.loop [0, 2, 3, 5, 6, 7, 8, 12] lp31x0)) (.kill [0, 2, 3, 5, 6, 7, 8, 9, 10, 11, 12]))) (.seq (.region [⟨none, .fieldAddr 4 (.var 1), none⟩, ⟨none, .load false 1 (.tmp 0), none⟩, ⟨none, .call (.fn 51) [.tmp 1], none⟩, ⟨none, .mv (.tmp 2), none⟩, ⟨none, .extract (.tmp 3) 0, none⟩, ⟨none, .extract (.tmp 3) 1, none⟩, ⟨some 7, .mv (.tmp 4), none⟩, ⟨none, .mv (.tmp 5), none⟩]) (.seq (.region [⟨none, .mv (.var 4), none⟩, ⟨none, .mv (.var 7), none⟩, ⟨none, .bin .add (.tmp 0) (.tmp 1), none⟩, ⟨some 2, .mv (.tmp 2), none⟩, ⟨some 3, .mv (.cst (.int .i64 0)), none⟩]) .ret))))), [.tmp 2, .tmp 3]⟩
def mask31x0 : List Nat := [0, 2, 3, 5, 6, 7, 8, 12]
abbrev st31x0 (v1 v4 v9 v10 v11 : AV) : List AV := [.undef, v1, .undef, .undef, v4, .undef, .undef, .undef, .undef, v9, v10, v11, .undef]
theorem cl31x0 {d0 v1 d2 d3 v4 d5 d6 d7 d8 v9 v10 v11 d12 : AV} : clear mask31x0 [d0, v1, d2, d3, v4, d5, d6, d7, d8, v9, v10, v11, d12] = st31x0 v1 v4 v9 v10 v11 := by simp only [mask31x0, clear, List.foldl_cons, List.foldl_nil, List.set_cons_zero, List.set_cons_succ]
theorem go31x0 {E : Env} {fuel : Nat} {A : Arena} {o : Out} {k : List KC} {d0 v1 d2 d3 v4 d5 d6 d7 d8 v9 v10 v11 d12 : AV} (h : iter (evC E fuel lp31x0) mask31x0 fuel (st31x0 v1 v4 v9 v10 v11) A = some o) :
    run E fuel (.code (.loop [0, 2, 3, 5, 6, 7, 8, 12] lp31x0) :: k) [d0, v1, d2, d3, v4, d5, d6, d7, d8, v9, v10, v11, d12] A = after E fuel k o := run_loopC mask31x0 _ _ (by rw [cl31x0]; exact h)
set_option maxHeartbeats 4000000 in
theorem comp31 : compFun Try.prog Try.f31 1 [0, 1, 2, 3, 4, 6, 7, 9, 13, 22, 23, 24, 25] [] true ([[0, 2, 3, 5, 6, 7, 8, 12]], [[0, 2, 3, 5, 6, 7, 8, 12], [0, 2, 3, 5, 6, 7, 8, 9, 10, 11, 12]]) = some mf31 := by kernel_rfl
theorem at31 : Try.prog.funcs[31]? = some Try.f31 := by kernel_rfl
def lp32x0 : MC := .seq (.region [⟨some 14, .bin .lss (.var 13) (.cst (.int .i64 4)), none⟩]) (.seq (.cond (.var 14) .skip (.exit 0)) (.seq (.seq (.block 1 (.seq (.region [⟨none, .indexVal false 4 1 (.var 12) (.var 13), none⟩, ⟨some 5, .mv (.tmp 0), none⟩]) (.seq (.region [⟨none, .mv (.var 0), none⟩, ⟨none, .mv (.var 4), none⟩, ⟨none, .call (.fn 52) [.tmp 0, .tmp 1], none⟩, ⟨none, .mv (.tmp 2), none⟩, ⟨none, .extract (.tmp 3) 0, none⟩, ⟨none, .extract (.tmp 3) 1, none⟩, ⟨none, .extract (.tmp 3) 2, none⟩, ⟨some 6, .mv (.tmp 4), none⟩, ⟨some 7, .mv (.tmp 5), none⟩, ⟨some 8, .mv (.tmp 6), none⟩]) (.seq (.seq (.region [⟨none, .mv (.var 8), none⟩, ⟨some 15, .bin .neq (.tmp 0) (.cst (.int .i64 0)), none⟩]) (.cond (.var 15) (.seq (.region [⟨none, .build [.int .i64 0, .int .i64 0, .int .i64 0, .int .i64 0, .str []] [], none⟩, ⟨none, .store 5 (.var 1) (.tmp 0), none⟩, ⟨some 2, .mv (.cst (.int .i64 10)), none⟩]) .ret) .skip)) (.region [⟨none, .mv (.var 5), none⟩, ⟨none, .mv (.var 6), none⟩, ⟨none, .mv (.var 7), none⟩, ⟨none, .nilCheck (.tmp 0), none⟩, ⟨none, .store 1 (.tmp 3) (.tmp 1), none⟩, ⟨some 4, .mv (.tmp 2), none⟩]))))) (.kill [2, 5, 6, 7, 8, 9, 10, 11, 14, 15, 16, 17])) (.region [⟨none, .bin .add (.var 13) (.cst (.int .i64 1)), none⟩, ⟨some 13, .mv (.tmp 0), none⟩])))
def mf32 : MFun := ⟨1, 18, .seq (.region [⟨some 1, .alloc 5 (.agg [.int .i64 0, .int .i64 0, .int .i64 0, .int .i64 0, .str []]), none⟩, ⟨some 2, .mv (.cst (.int .i64 0)), none⟩]) (.seq (.region [⟨some 3, .alloc 5 (.agg [.int .i64 0, .int .i64 0, .int .i64 0, .int .i64 0, .str []]), none⟩]) (.seq (.region [⟨some 4, .mv (.cst (.int .i64 0)), none⟩]) (.seq (.seq (.region [⟨none, .fieldAddr 0 (.var 3), none⟩, ⟨none, .fieldAddr 1 (.var 3), none⟩, ⟨none, .fieldAddr 2 (.var 3), none⟩, ⟨none, .fieldAddr 3 (.var 3), none⟩, ⟨some 12, .build [.nilP, .nilP, .nilP, .nilP] [(0, (1, .tmp 0)), (1, (1, .tmp 1)), (2, (1, .tmp 2)), (3, (1, .tmp 3))], none⟩, ⟨some 13, .mv (.cst (.int .i64 0)), none⟩]) (.seq (.block 0 (.loop [2, 5, 6, 7, 8, 9, 10, 11, 14, 15, 16, 17] lp32x0)) (.kill [2, 5, 6, 7, 8, 9, 10, 11, 12, 13, 14, 15, 16, 17]))) (.seq (.region [⟨none, .mv (.var 0), none⟩, ⟨none, .mv (.var 4), none⟩, ⟨none, .call (.fn 53) [.tmp 0, .tmp 1], none⟩, ⟨none, .mv (.tmp 2), none⟩, ⟨none, .extract (.tmp 3) 0, none⟩, ⟨none, .extract (.tmp 3) 1, none⟩, ⟨none, .extract (.tmp 3) 2, none⟩, ⟨some 9, .mv (.tmp 4), none⟩, ⟨some 10, .mv (.tmp 5), none⟩, ⟨some 11, .mv (.tmp 6), none⟩]) (.seq (.seq (.region [⟨none, .mv (.var 11), none⟩, ⟨none, .bin .neq (.tmp 0) (.cst (.int .i64 0)), none⟩, ⟨none, .mv (.tmp 1), none⟩, ⟨none, .mv (.var 10), some (.tmp 2, false)⟩, ⟨none, .mv (.var 0), some (.tmp 2, false)⟩, ⟨none, .lenStr (.tmp 4), some (.tmp 2, false)⟩, ⟨none, .bin .lss (.tmp 3) (.tmp 5), some (.tmp 2, false)⟩, ⟨some 16, .pick (.tmp 2) (.cst (.bool true)) (.tmp 6), none⟩]) (.cond (.var 16) (.seq (.region [⟨none, .build [.int .i64 0, .int .i64 0, .int .i64 0, .int .i64 0, .str []] [], none⟩, ⟨none, .store 5 (.var 1) (.tmp 0), none⟩, ⟨some 2, .mv (.cst (.int .i64 10)), none⟩]) .ret) .skip)) (.seq (.seq (.region [⟨none, .mv (.var 9), none⟩, ⟨none, .fieldAddr 4 (.var 3), none⟩, ⟨none, .store 1 (.tmp 1) (.tmp 0), none⟩]) (.seq (.region [⟨none, .load true 5 (.var 3), none⟩, ⟨none, .call (.fn 34) [.tmp 0], none⟩, ⟨some 17, .un .not (.tmp 1), none⟩]) (.cond (.var 17) (.seq (.region [⟨none, .build [.int .i64 0, .int .i64 0, .int .i64 0, .int .i64 0, .str []] [], none⟩, ⟨none, .store 5 (.var 1) (.tmp 0), none⟩, ⟨some 2, .mv (.cst (.int .i64 260)), none⟩]) .ret) .skip))) (.seq (.region [⟨none, .load true 5 (.var 3), none⟩, ⟨none, .store 5 (.var 1) (.tmp 0), none⟩, ⟨some 2, .mv (.cst (.int .i64 0)), none⟩]) .ret))))))), [.cell 1 true 5, .tmp 2]⟩
def mask32x0 : List Nat := [2, 5, 6, 7, 8, 9, 10, 11, 14, 15, 16, 17]
abbrev st32x0 (v0 v1 v3 v4 v12 v13 : AV) : List AV := [v0, v1, .undef, v3, v4, .undef, .undef, .undef, .undef, .undef, .undef, .undef, v12, v13, .undef, .undef, .undef, .undef]
theorem cl32x0 {v0 v1 d2 v3 v4 d5 d6 d7 d8 d9 d10 d11 v12 v13 d14 d15 d16 d17 : AV} : clear mask32x0 [v0, v1, d2, v3, v4, d5, d6, d7, d8, d9, d10, d11, v12, v13, d14, d15, d16, d17] = st32x0 v0 v1 v3 v4 v12 v13 := by simp only [mask32x0, clear, List.foldl_cons, List.foldl_nil, List.set_cons_zero, List.set_cons_succ]
theorem go32x0 {E : Env} {fuel : Nat} {A : Arena} {o : Out} {k : List KC} {v0 v1 d2 v3 v4 d5 d6 d7 d8 d9 d10 d11 v12 v13 d14 d15 d16 d17 : AV} (h : iter (evC E fuel lp32x0) mask32x0 fuel (st32x0 v0 v1 v3 v4 v12 v13) A = some o) :
    run E fuel (.code (.loop [2, 5, 6, 7, 8, 9, 10, 11, 14, 15, 16, 17] lp32x0) :: k) [v0, v1, d2, v3, v4, d5, d6, d7, d8, d9, d10, d11, v12, v13, d14, d15, d16, d17] A = after E fuel k o := run_loopC mask32x0 _ _ (by rw [cl32x0]; exact h)
set_option maxHeartbeats 4000000 in
theorem comp32 : compFun Try.prog Try.f32 1 [0, 2, 3, 4, 5, 7, 8, 9, 10, 11, 12, 13, 18, 19, 20, 30, 51, 57] [] true ([[2, 5, 6, 7, 8, 9, 10, 11, 14, 15, 16, 17]], [[2, 5, 6, 7, 8, 9, 10, 11, 14, 15, 16, 17], [2, 5, 6, 7, 8, 9, 10, 11, 12, 13, 14, 15, 16, 17]]) = some mf32 := by kernel_rfl
theorem at32 : Try.prog.funcs[32]? = some Try.f32 := by kernel_rfl
def lp33x0 : MC := .seq (.seq (.region [⟨none, .mv (.var 5), none⟩, ⟨some 13, .bin .lss (.tmp 0) (.cst (.int .i64 4)), none⟩]) (.cond (.var 13) .skip (.exit 0))) (.seq (.seq (.block 1 (.seq (.region [⟨none, .mv (.var 0), none⟩, ⟨none, .mv (.var 3), none⟩, ⟨none, .call (.fn 54) [.tmp 0, .tmp 1], none⟩, ⟨none, .mv (.tmp 2), none⟩, ⟨none, .extract (.tmp 3) 0, none⟩, ⟨none, .extract (.tmp 3) 1, none⟩, ⟨none, .extract (.tmp 3) 2, none⟩, ⟨some 6, .mv (.tmp 4), none⟩, ⟨some 7, .mv (.tmp 5), none⟩, ⟨some 8, .mv (.tmp 6), none⟩]) (.seq (.seq (.region [⟨none, .mv (.var 8), none⟩, ⟨some 14, .bin .neq (.tmp 0) (.cst (.int .i64 0)), none⟩]) (.cond (.var 14) (.seq (.region [⟨none, .build [.int .i64 0, .int .i64 0, .int .i64 0, .int .i64 0, .str []] [], none⟩, ⟨none, .store 5 (.var 1) (.tmp 0), none⟩, ⟨some 2, .mv (.cst (.int .i64 10)), none⟩]) .ret) .skip)) (.seq (.region [⟨none, .mv (.var 5), none⟩, ⟨none, .mv (.var 6), none⟩, ⟨none, .indexArr 4 1 (.var 4) (.tmp 0), none⟩, ⟨none, .store 1 (.tmp 2) (.tmp 1), none⟩]) (.region [⟨none, .mv (.var 7), none⟩, ⟨some 3, .mv (.tmp 0), none⟩]))))) (.kill [2, 6, 7, 8, 9, 10, 11, 12, 13, 14, 15, 16])) (.region [⟨none, .mv (.var 5), none⟩, ⟨none, .bin .add (.tmp 0) (.cst (.int .i64 1)), none⟩, ⟨some 5, .mv (.tmp 1), none⟩]))
def mf33 : MFun := ⟨1, 17, .seq (.region [⟨some 1, .alloc 5 (.agg [.int .i64 0, .int .i64 0, .int .i64 0, .int .i64 0, .str []]), none⟩, ⟨some 2, .mv (.cst (.int .i64 0)), none⟩]) (.seq (.region [⟨some 3, .mv (.cst (.int .i64 0)), none⟩]) (.seq (.region [⟨some 4, .alloc 4 (.agg [.int .i64 0, .int .i64 0, .int .i64 0, .int .i64 0]), none⟩]) (.seq (.seq (.region [⟨some 5, .mv (.cst (.int .i64 0)), none⟩]) (.seq (.block 0 (.loop [2, 6, 7, 8, 9, 10, 11, 12, 13, 14, 15, 16] lp33x0)) (.kill [2, 5, 6, 7, 8, 9, 10, 11, 12, 13, 14, 15, 16]))) (.seq (.region [⟨none, .mv (.var 0), none⟩, ⟨none, .mv (.var 3), none⟩, ⟨none, .call (.fn 55) [.tmp 0, .tmp 1], none⟩, ⟨none, .mv (.tmp 2), none⟩, ⟨none, .extract (.tmp 3) 0, none⟩, ⟨none, .extract (.tmp 3) 1, none⟩, ⟨none, .extract (.tmp 3) 2, none⟩, ⟨some 9, .mv (.tmp 4), none⟩, ⟨some 10, .mv (.tmp 5), none⟩, ⟨some 11, .mv (.tmp 6), none⟩]) (.seq (.seq (.region [⟨none, .mv (.var 11), none⟩, ⟨none, .bin .neq (.tmp 0) (.cst (.int .i64 0)), none⟩, ⟨none, .mv (.tmp 1), none⟩, ⟨none, .mv (.var 10), some (.tmp 2, false)⟩, ⟨none, .mv (.var 0), some (.tmp 2, false)⟩, ⟨none, .lenStr (.tmp 4), some (.tmp 2, false)⟩, ⟨none, .bin .lss (.tmp 3) (.tmp 5), some (.tmp 2, false)⟩, ⟨some 15, .pick (.tmp 2) (.cst (.bool true)) (.tmp 6), none⟩]) (.cond (.var 15) (.seq (.region [⟨none, .build [.int .i64 0, .int .i64 0, .int .i64 0, .int .i64 0, .str []] [], none⟩, ⟨none, .store 5 (.var 1) (.tmp 0), none⟩, ⟨some 2, .mv (.cst (.int .i64 10)), none⟩]) .ret) .skip)) (.seq (.region [⟨none, .indexArr 4 1 (.var 4) (.cst (.int .i64 0)), none⟩, ⟨none, .load false 1 (.tmp 0), none⟩, ⟨none, .indexArr 4 1 (.var 4) (.cst (.int .i64 1)), none⟩, ⟨none, .load false 1 (.tmp 2), none⟩, ⟨none, .indexArr 4 1 (.var 4) (.cst (.int .i64 2)), none⟩, ⟨none, .load false 1 (.tmp 4), none⟩, ⟨none, .indexArr 4 1 (.var 4) (.cst (.int .i64 3)), none⟩, ⟨none, .load false 1 (.tmp 6), none⟩, ⟨none, .mv (.var 9), none⟩, ⟨none, .build [.int .i64 0, .int .i64 0, .int .i64 0, .int .i64 0, .str []] [(0, (1, .tmp 1)), (1, (1, .tmp 3)), (2, (1, .tmp 5)), (3, (1, .tmp 7)), (4, (1, .tmp 8))], none⟩, ⟨some 12, .alloc 5 (.agg [.int .i64 0, .int .i64 0, .int .i64 0, .int .i64 0, .str []]), none⟩, ⟨none, .store 5 (.var 12) (.tmp 9), none⟩]) (.seq (.seq (.region [⟨none, .load true 5 (.var 12), none⟩, ⟨none, .call (.fn 35) [.tmp 0], none⟩, ⟨some 16, .un .not (.tmp 1), none⟩]) (.cond (.var 16) (.seq (.region [⟨none, .build [.int .i64 0, .int .i64 0, .int .i64 0, .int .i64 0, .str []] [], none⟩, ⟨none, .store 5 (.var 1) (.tmp 0), none⟩, ⟨some 2, .mv (.cst (.int .i64 260)), none⟩]) .ret) .skip)) (.seq (.region [⟨none, .load true 5 (.var 12), none⟩, ⟨none, .store 5 (.var 1) (.tmp 0), none⟩, ⟨some 2, .mv (.cst (.int .i64 0)), none⟩]) .ret)))))))), [.cell 1 true 5, .tmp 2]⟩
def mask33x0 : List Nat := [2, 6, 7, 8, 9, 10, 11, 12, 13, 14, 15, 16]
abbrev st33x0 (v0 v1 v3 v4 v5 : AV) : List AV := [v0, v1, .undef, v3, v4, v5, .undef, .undef, .undef, .undef, .undef, .undef, .undef, .undef, .undef, .undef, .undef]
theorem cl33x0 {v0 v1 d2 v3 v4 v5 d6 d7 d8 d9 d10 d11 d12 d13 d14 d15 d16 : AV} : clear mask33x0 [v0, v1, d2, v3, v4, v5, d6, d7, d8, d9, d10, d11, d12, d13, d14, d15, d16] = st33x0 v0 v1 v3 v4 v5 := by simp only [mask33x0, clear, List.foldl_cons, List.foldl_nil, List.set_cons_zero, List.set_cons_succ]
theorem go33x0 {E : Env} {fuel : Nat} {A : Arena} {o : Out} {k : List KC} {v0 v1 d2 v3 v4 v5 d6 d7 d8 d9 d10 d11 d12 d13 d14 d15 d16 : AV} (h : iter (evC E fuel lp33x0) mask33x0 fuel (st33x0 v0 v1 v3 v4 v5) A = some o) :
    run E fuel (.code (.loop [2, 6, 7, 8, 9, 10, 11, 12, 13, 14, 15, 16] lp33x0) :: k) [v0, v1, d2, v3, v4, v5, d6, d7, d8, d9, d10, d11, d12, d13, d14, d15, d16] A = after E fuel k o := run_loopC mask33x0 _ _ (by rw [cl33x0]; exact h)
set_option maxHeartbeats 4000000 in
theorem comp33 : compFun Try.prog Try.f33 1 [0, 2, 3, 4, 5, 6, 7, 8, 9, 10, 11, 12, 13, 15, 26, 46, 60] [] true ([[2, 6, 7, 8, 9, 10, 11, 12, 13, 14, 15, 16]], [[2, 6, 7, 8, 9, 10, 11, 12, 13, 14, 15, 16], [2, 5, 6, 7, 8, 9, 10, 11, 12, 13, 14, 15, 16]]) = some mf33 := by kernel_rfl
theorem at33 : Try.prog.funcs[33]? = some Try.f33 := by kernel_rfl
def mf34 : MFun := ⟨1, 6, .seq (.region [⟨some 1, .box (.var 0), none⟩, ⟨some 2, .mv (.cst (.bool false)), none⟩]) (.seq (.region [⟨none, .fieldAddr 0 (.var 1), none⟩, ⟨none, .load false 1 (.tmp 0), none⟩, ⟨none, .call (.fn 42) [.tmp 1, .cst (.int .i64 1), .cst (.int .i64 1000000)], none⟩, ⟨none, .mv (.tmp 2), none⟩, ⟨none, .fieldAddr 1 (.var 1), some (.tmp 3, true)⟩, ⟨none, .load false 1 (.tmp 4), some (.tmp 3, true)⟩, ⟨none, .call (.fn 42) [.tmp 5, .cst (.int .i64 0), .cst (.int .i64 1000000)], some (.tmp 3, true)⟩, ⟨none, .pick (.tmp 3) (.tmp 6) (.cst (.bool false)), none⟩, ⟨none, .mv (.tmp 7), none⟩, ⟨none, .fieldAddr 2 (.var 1), some (.tmp 8, true)⟩, ⟨none, .load false 1 (.tmp 9), some (.tmp 8, true)⟩, ⟨none, .call (.fn 42) [.tmp 10, .cst (.int .i64 0), .cst (.int .i64 4611686018427387903)], some (.tmp 8, true)⟩, ⟨none, .pick (.tmp 8) (.tmp 11) (.cst (.bool false)), none⟩, ⟨none, .mv (.tmp 12), none⟩, ⟨none, .fieldAddr 3 (.var 1), some (.tmp 13, true)⟩, ⟨none, .load false 1 (.tmp 14), some (.tmp 13, true)⟩, ⟨none, .call (.fn 42) [.tmp 15, .cst (.int .i64 0), .cst (.int .i64 4611686018427387903)], some (.tmp 13, true)⟩, ⟨none, .pick (.tmp 13) (.tmp 16) (.cst (.bool false)), none⟩, ⟨some 3, .mv (.tmp 17), none⟩]) (.seq (.seq (.block 0 (.seq (.region [⟨none, .fieldAddr 1 (.var 1), none⟩, ⟨none, .load false 1 (.tmp 0), none⟩, ⟨none, .bin .eql (.tmp 1) (.cst (.int .i64 0)), none⟩, ⟨some 4, .mv (.tmp 2), none⟩]) (.cond (.var 4) (.seq (.region [⟨none, .mv (.var 3), none⟩, ⟨none, .mv (.tmp 0), none⟩, ⟨none, .load true 5 (.var 1), some (.tmp 1, true)⟩, ⟨none, .fieldAddr 0 (.var 1), some (.tmp 1, true)⟩, ⟨none, .load false 1 (.tmp 3), some (.tmp 1, true)⟩, ⟨none, .build [.int .i64 0, .int .i64 0, .int .i64 0, .int .i64 0, .str []] [(0, (1, .tmp 4))], some (.tmp 1, true)⟩, ⟨none, .eqAgg false [(0, 1), (1, 1), (2, 1), (3, 1), (4, 2)] (.tmp 2) (.tmp 5), some (.tmp 1, true)⟩, ⟨none, .pick (.tmp 1) (.tmp 6) (.cst (.bool false)), none⟩, ⟨some 2, .mv (.tmp 7), none⟩]) .ret) (.seq (.region [⟨none, .fieldAddr 2 (.var 1), none⟩, ⟨none, .load false 1 (.tmp 0), none⟩, ⟨none, .bin .eql (.tmp 1) (.cst (.int .i64 0)), none⟩, ⟨some 5, .mv (.tmp 2), none⟩]) (.cond (.var 5) (.seq (.region [⟨none, .mv (.var 3), none⟩, ⟨none, .mv (.tmp 0), none⟩, ⟨none, .fieldAddr 4 (.var 1), some (.tmp 1, true)⟩, ⟨none, .load false 1 (.tmp 2), some (.tmp 1, true)⟩, ⟨none, .bin .eql (.tmp 3) (.cst (.str [])), some (.tmp 1, true)⟩, ⟨none, .pick (.tmp 1) (.tmp 4) (.cst (.bool false)), none⟩, ⟨some 2, .mv (.tmp 5), none⟩]) .ret) .skip))))) (.kill [0, 2, 4, 5])) (.seq (.region [⟨none, .mv (.var 3), none⟩, ⟨none, .mv (.tmp 0), none⟩, ⟨none, .fieldAddr 4 (.var 1), some (.tmp 1, true)⟩, ⟨none, .load false 1 (.tmp 2), some (.tmp 1, true)⟩, ⟨none, .lenStr (.tmp 3), some (.tmp 1, true)⟩, ⟨none, .bin .leq (.tmp 4) (.cst (.int .i64 1024)), some (.tmp 1, true)⟩, ⟨none, .pick (.tmp 1) (.tmp 5) (.cst (.bool false)), none⟩, ⟨some 2, .mv (.tmp 6), none⟩]) .ret))), [.tmp 2]⟩
set_option maxHeartbeats 4000000 in
theorem comp34 : compFun Try.prog Try.f34 1 [0, 1, 2, 3, 22, 34] [] true ([], [[0, 2, 4, 5]]) = some mf34 := by kernel_rfl
theorem at34 : Try.prog.funcs[34]? = some Try.f34 := by kernel_rfl
def mf35 : MFun := ⟨1, 4, .seq (.region [⟨some 1, .box (.var 0), none⟩, ⟨some 2, .mv (.cst (.bool false)), none⟩]) (.seq (.seq (.region [⟨none, .fieldAddr 0 (.var 1), none⟩, ⟨none, .load false 1 (.tmp 0), none⟩, ⟨none, .call (.fn 43) [.tmp 1, .cst (.int .i64 1), .cst (.int .i64 1000000)], none⟩, ⟨none, .un .not (.tmp 2), none⟩, ⟨none, .mv (.tmp 3), none⟩, ⟨none, .fieldAddr 1 (.var 1), some (.tmp 4, false)⟩, ⟨none, .load false 1 (.tmp 5), some (.tmp 4, false)⟩, ⟨none, .call (.fn 43) [.tmp 6, .cst (.int .i64 0), .cst (.int .i64 1000000)], some (.tmp 4, false)⟩, ⟨none, .un .not (.tmp 7), some (.tmp 4, false)⟩, ⟨none, .pick (.tmp 4) (.cst (.bool true)) (.tmp 8), none⟩, ⟨none, .mv (.tmp 9), none⟩, ⟨none, .fieldAddr 2 (.var 1), some (.tmp 10, false)⟩, ⟨none, .load false 1 (.tmp 11), some (.tmp 10, false)⟩, ⟨none, .call (.fn 43) [.tmp 12, .cst (.int .i64 0), .cst (.int .i64 4611686018427387903)], some (.tmp 10, false)⟩, ⟨none, .un .not (.tmp 13), some (.tmp 10, false)⟩, ⟨none, .pick (.tmp 10) (.cst (.bool true)) (.tmp 14), none⟩, ⟨none, .mv (.tmp 15), none⟩, ⟨none, .fieldAddr 3 (.var 1), some (.tmp 16, false)⟩, ⟨none, .load false 1 (.tmp 17), some (.tmp 16, false)⟩, ⟨none, .call (.fn 43) [.tmp 18, .cst (.int .i64 0), .cst (.int .i64 4611686018427387903)], some (.tmp 16, false)⟩, ⟨none, .un .not (.tmp 19), some (.tmp 16, false)⟩, ⟨none, .pick (.tmp 16) (.cst (.bool true)) (.tmp 20), none⟩, ⟨none, .mv (.tmp 21), none⟩, ⟨none, .fieldAddr 4 (.var 1), some (.tmp 22, false)⟩, ⟨none, .load false 1 (.tmp 23), some (.tmp 22, false)⟩, ⟨none, .lenStr (.tmp 24), some (.tmp 22, false)⟩, ⟨none, .bin .gtr (.tmp 25) (.cst (.int .i64 1024)), some (.tmp 22, false)⟩, ⟨some 3, .pick (.tmp 22) (.cst (.bool true)) (.tmp 26), none⟩]) (.cond (.var 3) (.seq (.region [⟨some 2, .mv (.cst (.bool false)), none⟩]) .ret) .skip)) (.seq (.region [⟨none, .fieldAddr 2 (.var 1), none⟩, ⟨none, .load false 1 (.tmp 0), none⟩, ⟨none, .bin .gtr (.tmp 1) (.cst (.int .i64 0)), none⟩, ⟨none, .mv (.tmp 2), none⟩, ⟨none, .fieldAddr 4 (.var 1), some (.tmp 3, false)⟩, ⟨none, .load false 1 (.tmp 4), some (.tmp 3, false)⟩, ⟨none, .bin .eql (.tmp 5) (.cst (.str [])), some (.tmp 3, false)⟩, ⟨none, .pick (.tmp 3) (.cst (.bool true)) (.tmp 6), none⟩, ⟨none, .mv (.tmp 7), none⟩, ⟨none, .fieldAddr 1 (.var 1), some (.tmp 8, true)⟩, ⟨none, .load false 1 (.tmp 9), some (.tmp 8, true)⟩, ⟨none, .bin .gtr (.tmp 10) (.cst (.int .i64 0)), some (.tmp 8, true)⟩, ⟨none, .mv (.tmp 11), some (.tmp 8, true)⟩, ⟨none, .fieldAddr 2 (.var 1), some (.tmp 12, false)⟩, ⟨none, .load false 1 (.tmp 13), some (.tmp 12, false)⟩, ⟨none, .bin .eql (.tmp 14) (.cst (.int .i64 0)), some (.tmp 12, false)⟩, ⟨none, .mv (.tmp 15), some (.tmp 12, false)⟩, ⟨none, .fieldAddr 3 (.var 1), some (.tmp 16, true)⟩, ⟨none, .load false 1 (.tmp 17), some (.tmp 16, true)⟩, ⟨none, .bin .eql (.tmp 18) (.cst (.int .i64 0)), some (.tmp 16, true)⟩, ⟨none, .pick (.tmp 16) (.tmp 19) (.cst (.bool false)), some (.tmp 12, false)⟩, ⟨none, .pick (.tmp 12) (.cst (.bool true)) (.tmp 20), some (.tmp 8, true)⟩, ⟨none, .pick (.tmp 8) (.tmp 21) (.cst (.bool false)), none⟩, ⟨some 2, .mv (.tmp 22), none⟩]) .ret)), [.tmp 2]⟩
set_option maxHeartbeats 4000000 in
theorem comp35 : compFun Try.prog Try.f35 1 [0, 1, 2, 30] [] true ([], []) = some mf35 := by kernel_rfl
theorem at35 : Try.prog.funcs[35]? = some Try.f35 := by kernel_rfl
def mf41 : MFun := ⟨0, 12, .seq (.region [⟨some 0, .mv (.cst .nilP), none⟩, ⟨some 1, .mv (.cst .nilP), none⟩, ⟨some 2, .mv (.cst (.bool false)), none⟩]) (.seq (.region [⟨none, .call (.fn 13) [.cst (.int .i64 1)], none⟩, ⟨none, .mv (.tmp 0), none⟩, ⟨none, .extract (.tmp 1) 0, none⟩, ⟨none, .extract (.tmp 1) 1, none⟩, ⟨some 3, .mv (.tmp 2), none⟩, ⟨some 4, .mv (.tmp 3), none⟩]) (.seq (.region [⟨none, .call (.fn 13) [.cst (.int .i64 5)], none⟩, ⟨none, .mv (.tmp 0), none⟩, ⟨none, .extract (.tmp 1) 0, none⟩, ⟨none, .extract (.tmp 1) 1, none⟩, ⟨some 5, .mv (.tmp 2), none⟩, ⟨some 6, .mv (.tmp 3), none⟩]) (.seq (.seq (.region [⟨none, .mv (.var 4), none⟩, ⟨none, .bin .neq (.tmp 0) (.cst (.int .i64 0)), none⟩, ⟨none, .mv (.tmp 1), none⟩, ⟨none, .mv (.var 6), some (.tmp 2, false)⟩, ⟨none, .bin .neq (.tmp 3) (.cst (.int .i64 0)), some (.tmp 2, false)⟩, ⟨none, .pick (.tmp 2) (.cst (.bool true)) (.tmp 4), none⟩, ⟨none, .mv (.tmp 5), none⟩, ⟨none, .mv (.var 3), some (.tmp 6, false)⟩, ⟨none, .eqNil 0 false (.tmp 7), some (.tmp 6, false)⟩, ⟨none, .pick (.tmp 6) (.cst (.bool true)) (.tmp 8), none⟩, ⟨none, .mv (.tmp 9), none⟩, ⟨none, .mv (.var 5), some (.tmp 10, false)⟩, ⟨none, .eqNil 0 false (.tmp 11), some (.tmp 10, false)⟩, ⟨some 9, .pick (.tmp 10) (.cst (.bool true)) (.tmp 12), none⟩]) (.cond (.var 9) (.seq (.region [⟨some 0, .mv (.cst .nilP), none⟩, ⟨some 1, .mv (.cst .nilP), none⟩, ⟨some 2, .mv (.cst (.bool false)), none⟩]) .ret) .skip)) (.seq (.region [⟨none, .mv (.var 3), none⟩, ⟨none, .call (.fn 19) [.tmp 0], none⟩, ⟨some 7, .mv (.tmp 1), none⟩]) (.seq (.seq (.region [⟨none, .mv (.var 7), none⟩, ⟨none, .lenSl (.tmp 0), none⟩, ⟨some 10, .bin .neq (.tmp 1) (.cst (.int .i64 1)), none⟩]) (.cond (.var 10) (.seq (.region [⟨some 0, .mv (.cst .nilP), none⟩, ⟨some 1, .mv (.cst .nilP), none⟩, ⟨some 2, .mv (.cst (.bool false)), none⟩]) .ret) .skip)) (.seq (.region [⟨none, .mv (.var 5), none⟩, ⟨none, .mv (.var 7), none⟩, ⟨none, .indexSl 5 (.tmp 1) (.cst (.int .i64 0)), none⟩, ⟨none, .load true 5 (.tmp 2), none⟩, ⟨none, .call (.fn 23) [.tmp 0, .tmp 3], none⟩]) (.seq (.region [⟨none, .mv (.var 5), none⟩, ⟨none, .call (.fn 19) [.tmp 0], none⟩, ⟨some 8, .mv (.tmp 1), none⟩]) (.seq (.seq (.region [⟨none, .mv (.var 8), none⟩, ⟨none, .lenSl (.tmp 0), none⟩, ⟨some 11, .bin .neq (.tmp 1) (.cst (.int .i64 2)), none⟩]) (.cond (.var 11) (.seq (.region [⟨some 0, .mv (.cst .nilP), none⟩, ⟨some 1, .mv (.cst .nilP), none⟩, ⟨some 2, .mv (.cst (.bool false)), none⟩]) .ret) .skip)) (.seq (.region [⟨none, .mv (.var 3), none⟩, ⟨none, .mv (.var 8), none⟩, ⟨none, .indexSl 5 (.tmp 1) (.cst (.int .i64 0)), none⟩, ⟨none, .load true 5 (.tmp 2), none⟩, ⟨none, .call (.fn 23) [.tmp 0, .tmp 3], none⟩]) (.seq (.region [⟨none, .mv (.var 3), none⟩, ⟨none, .mv (.var 5), none⟩, ⟨none, .mv (.var 3), none⟩, ⟨none, .call (.fn 25) [.tmp 2], none⟩, ⟨none, .bin .eql (.tmp 3) (.cst (.int .i64 5)), none⟩, ⟨none, .mv (.tmp 4), none⟩, ⟨none, .mv (.var 5), some (.tmp 5, true)⟩, ⟨none, .call (.fn 25) [.tmp 6], some (.tmp 5, true)⟩, ⟨none, .bin .eql (.tmp 7) (.cst (.int .i64 1)), some (.tmp 5, true)⟩, ⟨none, .pick (.tmp 5) (.tmp 8) (.cst (.bool false)), none⟩, ⟨some 0, .mv (.tmp 0), none⟩, ⟨some 1, .mv (.tmp 1), none⟩, ⟨some 2, .mv (.tmp 9), none⟩]) .ret)))))))))), [.tmp 0, .tmp 1, .tmp 2]⟩
set_option maxHeartbeats 4000000 in
theorem comp41 : compFun Try.prog Try.f41 0 [0, 1, 2, 3, 4, 5, 6, 7, 8, 30, 35, 45] [] true ([], []) = some mf41 := by kernel_rfl
theorem at41 : Try.prog.funcs[41]? = some Try.f41 := by kernel_rfl
def mf42 : MFun := ⟨3, 4, .seq (.region [⟨some 3, .mv (.cst (.bool false)), none⟩]) (.seq (.region [⟨none, .mv (.var 0), none⟩, ⟨none, .mv (.var 1), none⟩, ⟨none, .bin .geq (.tmp 0) (.tmp 1), none⟩, ⟨none, .mv (.tmp 2), none⟩, ⟨none, .mv (.var 0), some (.tmp 3, true)⟩, ⟨none, .mv (.var 2), some (.tmp 3, true)⟩, ⟨none, .bin .leq (.tmp 4) (.tmp 5), some (.tmp 3, true)⟩, ⟨none, .pick (.tmp 3) (.tmp 6) (.cst (.bool false)), none⟩, ⟨some 3, .mv (.tmp 7), none⟩]) .ret), [.tmp 3]⟩
set_option maxHeartbeats 4000000 in
theorem comp42 : compFun Try.prog Try.f42 3 [0, 1, 2, 6] [] true ([], []) = some mf42 := by kernel_rfl
theorem at42 : Try.prog.funcs[42]? = some Try.f42 := by kernel_rfl
def mf43 : MFun := ⟨3, 4, .seq (.region [⟨some 3, .mv (.cst (.bool false)), none⟩]) (.seq (.region [⟨none, .mv (.var 0), none⟩, ⟨none, .mv (.var 1), none⟩, ⟨none, .bin .geq (.tmp 0) (.tmp 1), none⟩, ⟨none, .mv (.tmp 2), none⟩, ⟨none, .mv (.var 0), some (.tmp 3, true)⟩, ⟨none, .mv (.var 2), some (.tmp 3, true)⟩, ⟨none, .bin .leq (.tmp 4) (.tmp 5), some (.tmp 3, true)⟩, ⟨none, .pick (.tmp 3) (.tmp 6) (.cst (.bool false)), none⟩, ⟨some 3, .mv (.tmp 7), none⟩]) .ret), [.tmp 3]⟩
set_option maxHeartbeats 4000000 in
theorem comp43 : compFun Try.prog Try.f43 3 [0, 1, 2, 6] [] true ([], []) = some mf43 := by kernel_rfl
theorem at43 : Try.prog.funcs[43]? = some Try.f43 := by kernel_rfl
def lp44x0 : MC := .seq (.region [⟨some 6, .bin .lss (.var 5) (.var 4), none⟩]) (.seq (.cond (.var 6) .skip (.exit 0)) (.seq (.seq (.block 1 (.seq (.region [⟨none, .mv (.var 5), none⟩, ⟨some 2, .mv (.tmp 0), none⟩]) (.seq (.region [⟨none, .mv (.var 0), none⟩, ⟨none, .nilCheck (.tmp 0), none⟩, ⟨none, .fieldAddr 2 (.tmp 1), none⟩, ⟨none, .load false 1 (.tmp 2), none⟩, ⟨none, .mv (.var 2), none⟩, ⟨none, .indexSl 3 (.tmp 3) (.tmp 4), none⟩, ⟨some 3, .mv (.tmp 5), none⟩]) (.seq (.region [⟨none, .mv (.var 0), none⟩, ⟨none, .nilCheck (.tmp 0), none⟩, ⟨none, .fieldAddr 7 (.tmp 1), none⟩, ⟨none, .load false 1 (.tmp 2), none⟩, ⟨none, .mv (.tmp 3), none⟩, ⟨none, .mv (.var 0), some (.tmp 4, true)⟩, ⟨none, .mv (.var 3), some (.tmp 4, true)⟩, ⟨none, .nilCheck (.tmp 6), some (.tmp 4, true)⟩, ⟨none, .fieldAddr 2 (.tmp 7), some (.tmp 4, true)⟩, ⟨none, .load false 1 (.tmp 8), some (.tmp 4, true)⟩, ⟨none, .call (.fn 45) [.tmp 5, .tmp 9], some (.tmp 4, true)⟩, ⟨some 7, .pick (.tmp 4) (.tmp 10) (.cst (.bool false)), none⟩]) (.cond (.var 7) (.seq (.region [⟨none, .mv (.var 3), none⟩, ⟨none, .mv (.var 0), none⟩, ⟨none, .nilCheck (.tmp 1), none⟩, ⟨none, .fieldAddr 6 (.tmp 2), none⟩, ⟨none, .load false 1 (.tmp 3), none⟩, ⟨none, .nilCheck (.tmp 0), none⟩, ⟨none, .fieldAddr 2 (.tmp 5), none⟩, ⟨none, .store 1 (.tmp 6) (.tmp 4), none⟩]) (.region [⟨none, .mv (.var 1), none⟩, ⟨none, .mv (.var 0), none⟩, ⟨none, .mv (.var 3), none⟩, ⟨none, .nilCheck (.tmp 2), none⟩, ⟨none, .fieldAddr 0 (.tmp 3), none⟩, ⟨none, .load true 2 (.tmp 4), none⟩, ⟨none, .call (.fn 58) [.tmp 1, .tmp 5], none⟩, ⟨none, .buildF 5 [.tmp 6], none⟩, ⟨none, .appendN 5 48 (.tmp 0) (.tmp 7), none⟩, ⟨some 1, .mv (.tmp 8), none⟩])) .skip))))) (.kill [2, 3, 6, 7, 8])) (.region [⟨none, .bin .add (.var 5) (.cst (.int .i64 1)), none⟩, ⟨some 5, .mv (.tmp 0), none⟩])))
def mf44 : MFun := ⟨1, 9, .seq (.region [⟨some 1, .mv (.cst .nilS), none⟩]) (.seq (.seq (.region [⟨none, .mv (.var 0), none⟩, ⟨none, .nilCheck (.tmp 0), none⟩, ⟨none, .fieldAddr 2 (.tmp 1), none⟩, ⟨none, .load false 1 (.tmp 2), none⟩, ⟨none, .lenSl (.tmp 3), none⟩, ⟨some 4, .minmax false (.tmp 4) [.cst (.int .i64 8)], none⟩, ⟨some 5, .mv (.cst (.int .i64 0)), none⟩]) (.seq (.block 0 (.loop [2, 3, 6, 7, 8] lp44x0)) (.kill [2, 3, 4, 5, 6, 7, 8]))) (.seq (.seq (.region [⟨none, .mv (.var 1), none⟩, ⟨none, .lenSl (.tmp 0), none⟩, ⟨none, .bin .eql (.tmp 1) (.cst (.int .i64 0)), none⟩, ⟨none, .mv (.tmp 2), none⟩, ⟨none, .mv (.var 0), some (.tmp 3, true)⟩, ⟨none, .nilCheck (.tmp 4), some (.tmp 3, true)⟩, ⟨none, .fieldAddr 5 (.tmp 5), some (.tmp 3, true)⟩, ⟨none, .load false 1 (.tmp 6), some (.tmp 3, true)⟩, ⟨some 8, .pick (.tmp 3) (.tmp 7) (.cst (.bool false)), none⟩]) (.cond (.var 8) (.region [⟨none, .mv (.var 1), none⟩, ⟨none, .mv (.var 0), none⟩, ⟨none, .build [.int .i64 0, .str []] [], none⟩, ⟨none, .call (.fn 58) [.tmp 1, .tmp 2], none⟩, ⟨none, .buildF 5 [.tmp 3], none⟩, ⟨none, .appendN 5 48 (.tmp 0) (.tmp 4), none⟩, ⟨some 1, .mv (.tmp 5), none⟩]) .skip)) (.seq (.region [⟨none, .mv (.var 1), none⟩, ⟨some 1, .mv (.tmp 0), none⟩]) .ret))), [.tmp 1]⟩
def mask44x0 : List Nat := [2, 3, 6, 7, 8]
abbrev st44x0 (v0 v1 v4 v5 : AV) : List AV := [v0, v1, .undef, .undef, v4, v5, .undef, .undef, .undef]
theorem cl44x0 {v0 v1 d2 d3 v4 v5 d6 d7 d8 : AV} : clear mask44x0 [v0, v1, d2, d3, v4, v5, d6, d7, d8] = st44x0 v0 v1 v4 v5 := by simp only [mask44x0, clear, List.foldl_cons, List.foldl_nil, List.set_cons_zero, List.set_cons_succ]
theorem go44x0 {E : Env} {fuel : Nat} {A : Arena} {o : Out} {k : List KC} {v0 v1 d2 d3 v4 v5 d6 d7 d8 : AV} (h : iter (evC E fuel lp44x0) mask44x0 fuel (st44x0 v0 v1 v4 v5) A = some o) :
    run E fuel (.code (.loop [2, 3, 6, 7, 8] lp44x0) :: k) [v0, v1, d2, d3, v4, v5, d6, d7, d8] A = after E fuel k o := run_loopC mask44x0 _ _ (by rw [cl44x0]; exact h)
set_option maxHeartbeats 4000000 in
theorem comp44 : compFun Try.prog Try.f44 1 [0, 2, 3, 4, 10, 11, 12, 31, 57] [] true ([[2, 3, 6, 7, 8]], [[2, 3, 6, 7, 8], [2, 3, 4, 5, 6, 7, 8]]) = some mf44 := by kernel_rfl
theorem at44 : Try.prog.funcs[44]? = some Try.f44 := by kernel_rfl
def mf45 : MFun := ⟨2, 3, .seq (.region [⟨some 2, .mv (.cst (.bool false)), none⟩]) (.seq (.region [⟨none, .mv (.var 1), none⟩, ⟨none, .bin .eql (.tmp 0) (.cst (.int .i64 0)), none⟩, ⟨none, .mv (.tmp 1), none⟩, ⟨none, .mv (.var 0), some (.tmp 2, false)⟩, ⟨none, .nilCheck (.tmp 3), some (.tmp 2, false)⟩, ⟨none, .fieldAddr 6 (.tmp 4), some (.tmp 2, false)⟩, ⟨none, .load false 1 (.tmp 5), some (.tmp 2, false)⟩, ⟨none, .mv (.var 1), some (.tmp 2, false)⟩, ⟨none, .bin .sub (.tmp 6) (.tmp 7), some (.tmp 2, false)⟩, ⟨none, .bin .geq (.tmp 8) (.cst (.int .i64 3)), some (.tmp 2, false)⟩, ⟨none, .pick (.tmp 2) (.cst (.bool true)) (.tmp 9), none⟩, ⟨some 2, .mv (.tmp 10), none⟩]) .ret), [.tmp 2]⟩
set_option maxHeartbeats 4000000 in
theorem comp45 : compFun Try.prog Try.f45 2 [0, 1, 4] [] true ([], []) = some mf45 := by kernel_rfl
theorem at45 : Try.prog.funcs[45]? = some Try.f45 := by kernel_rfl
def lp46x0 : MC := .seq (.region [⟨some 8, .bin .lss (.var 7) (.var 6), none⟩]) (.seq (.cond (.var 8) .skip (.exit 0)) (.seq (.seq (.block 1 (.seq (.region [⟨none, .indexSl 3 (.var 5) (.var 7), none⟩, ⟨none, .load true 3 (.tmp 0), none⟩, ⟨some 2, .alloc 3 (.agg [.int .i64 0, .str [], .int .i64 0]), none⟩, ⟨none, .store 3 (.var 2) (.tmp 1), none⟩]) (.region [⟨none, .mv (.var 0), none⟩, ⟨none, .mv (.var 0), none⟩, ⟨none, .nilCheck (.tmp 1), none⟩, ⟨none, .fieldAddr 9 (.tmp 2), none⟩, ⟨none, .load false 1 (.tmp 3), none⟩, ⟨none, .fieldAddr 0 (.var 2), none⟩, ⟨none, .fieldAddr 1 (.tmp 5), none⟩, ⟨none, .load false 1 (.tmp 6), none⟩, ⟨none, .buildF 1 [.tmp 7], none⟩, ⟨none, .appendN 1 16 (.tmp 4) (.tmp 8), none⟩, ⟨none, .nilCheck (.tmp 0), none⟩, ⟨none, .fieldAddr 9 (.tmp 10), none⟩, ⟨none, .store 1 (.tmp 11) (.tmp 9), none⟩]))) (.kill [2, 3, 4, 8])) (.region [⟨none, .bin .add (.var 7) (.cst (.int .i64 1)), none⟩, ⟨some 7, .mv (.tmp 0), none⟩])))
def mf46 : MFun := ⟨2, 9, .seq (.seq (.region [⟨none, .mv (.var 1), none⟩, ⟨none, .mv (.var 0), none⟩, ⟨none, .nilCheck (.tmp 1), none⟩, ⟨none, .fieldAddr 1 (.tmp 2), none⟩, ⟨none, .load false 1 (.tmp 3), none⟩, ⟨some 3, .bin .eql (.tmp 0) (.tmp 4), none⟩]) (.cond (.var 3) .ret .skip)) (.seq (.seq (.region [⟨none, .mv (.var 0), none⟩, ⟨none, .nilCheck (.tmp 0), none⟩, ⟨none, .fieldAddr 1 (.tmp 1), none⟩, ⟨none, .load false 1 (.tmp 2), none⟩, ⟨some 4, .bin .gtr (.tmp 3) (.cst (.int .i64 0)), none⟩]) (.cond (.var 4) (.seq (.seq (.region [⟨none, .mv (.var 0), none⟩, ⟨none, .nilCheck (.tmp 0), none⟩, ⟨none, .fieldAddr 2 (.tmp 1), none⟩, ⟨some 5, .load false 1 (.tmp 2), none⟩, ⟨some 6, .lenSl (.var 5), none⟩, ⟨some 7, .mv (.cst (.int .i64 0)), none⟩]) (.seq (.block 0 (.loop [2, 3, 4, 8] lp46x0)) (.kill [2, 3, 4, 5, 6, 7, 8]))) (.region [⟨none, .mv (.var 0), none⟩, ⟨none, .mv (.var 0), none⟩, ⟨none, .nilCheck (.tmp 0), none⟩, ⟨none, .fieldAddr 2 (.tmp 2), none⟩, ⟨none, .store 1 (.tmp 3) (.cst .nilS), none⟩, ⟨none, .nilCheck (.tmp 1), none⟩, ⟨none, .fieldAddr 3 (.tmp 5), none⟩, ⟨none, .store 1 (.tmp 6) (.cst (.int .i64 1)), none⟩])) .skip)) (.region [⟨none, .mv (.var 0), none⟩, ⟨none, .mv (.var 0), none⟩, ⟨none, .mv (.var 0), none⟩, ⟨none, .mv (.var 1), none⟩, ⟨none, .nilCheck (.tmp 0), none⟩, ⟨none, .fieldAddr 1 (.tmp 4), none⟩, ⟨none, .store 1 (.tmp 5) (.tmp 3), none⟩, ⟨none, .nilCheck (.tmp 1), none⟩, ⟨none, .fieldAddr 4 (.tmp 7), none⟩, ⟨none, .store 1 (.tmp 8) (.cst (.int .i64 0)), none⟩, ⟨none, .nilCheck (.tmp 2), none⟩, ⟨none, .fieldAddr 7 (.tmp 10), none⟩, ⟨none, .store 1 (.tmp 11) (.cst (.bool false)), none⟩])), []⟩
def mask46x0 : List Nat := [2, 3, 4, 8]
abbrev st46x0 (v0 v1 v5 v6 v7 : AV) : List AV := [v0, v1, .undef, .undef, .undef, v5, v6, v7, .undef]
theorem cl46x0 {v0 v1 d2 d3 d4 v5 v6 v7 d8 : AV} : clear mask46x0 [v0, v1, d2, d3, d4, v5, v6, v7, d8] = st46x0 v0 v1 v5 v6 v7 := by simp only [mask46x0, clear, List.foldl_cons, List.foldl_nil, List.set_cons_zero, List.set_cons_succ]
theorem go46x0 {E : Env} {fuel : Nat} {A : Arena} {o : Out} {k : List KC} {v0 v1 d2 d3 d4 v5 v6 v7 d8 : AV} (h : iter (evC E fuel lp46x0) mask46x0 fuel (st46x0 v0 v1 v5 v6 v7) A = some o) :
    run E fuel (.code (.loop [2, 3, 4, 8] lp46x0) :: k) [v0, v1, d2, d3, d4, v5, v6, v7, d8] A = after E fuel k o := run_loopC mask46x0 _ _ (by rw [cl46x0]; exact h)
set_option maxHeartbeats 4000000 in
theorem comp46 : compFun Try.prog Try.f46 2 [0, 1, 5, 11, 16, 20, 21, 22, 23] [] true ([[2, 3, 4, 8]], [[2, 3, 4, 8], [2, 3, 4, 5, 6, 7, 8]]) = some mf46 := by kernel_rfl
theorem at46 : Try.prog.funcs[46]? = some Try.f46 := by kernel_rfl
def mf47 : MFun := ⟨2, 3, .seq (.region [⟨some 2, .box (.var 1), none⟩]) (.region [⟨none, .mv (.var 0), none⟩, ⟨none, .mv (.var 0), none⟩, ⟨none, .nilCheck (.tmp 1), none⟩, ⟨none, .fieldAddr 2 (.tmp 2), none⟩, ⟨none, .load false 1 (.tmp 3), none⟩, ⟨none, .makeFunc (.func 60) [] [.var 2], none⟩, ⟨none, .call (.fn 59) [.tmp 4, .tmp 5], none⟩, ⟨none, .nilCheck (.tmp 0), none⟩, ⟨none, .fieldAddr 2 (.tmp 7), none⟩, ⟨none, .store 1 (.tmp 8) (.tmp 6), none⟩]), []⟩
set_option maxHeartbeats 4000000 in
theorem comp47 : compFun Try.prog Try.f47 2 [0, 1, 3] [] true ([], []) = some mf47 := by kernel_rfl
theorem at47 : Try.prog.funcs[47]? = some Try.f47 := by kernel_rfl
def lp48x0 : MC := .seq (.region [⟨some 4, .mv (.var 8), none⟩]) (.region [⟨some 5, .mv (.var 9), none⟩])
def lp48x1 : MC := .block 1 (.seq (.seq (.region [⟨none, .mv (.var 5), none⟩, ⟨some 10, .un .not (.tmp 0), none⟩]) (.cond (.var 10) (.region [⟨none, .mv (.var 4), none⟩, ⟨none, .bin .or (.tmp 0) (.cst (.int .u8 128)), none⟩, ⟨some 4, .mv (.tmp 1), none⟩]) .skip)) (.region [⟨none, .load false 1 (.var 3), none⟩, ⟨none, .mv (.var 4), none⟩, ⟨none, .buildSlice 1 [.tmp 1], none⟩, ⟨none, .append 1 1 (.tmp 0) (.tmp 2), none⟩, ⟨none, .store 1 (.var 3) (.tmp 3), none⟩]))
def mf48 : MFun := ⟨1, 11, .seq (.region [⟨some 1, .mv (.cst (.str [])), none⟩, ⟨some 2, .mv (.cst (.int .i64 0)), none⟩]) (.seq (.seq (.region [⟨none, .mv (.var 0), none⟩, ⟨none, .bin .lss (.tmp 0) (.cst (.int .i64 (-4611686018427387903))), none⟩, ⟨none, .mv (.tmp 1), none⟩, ⟨none, .mv (.var 0), some (.tmp 2, false)⟩, ⟨none, .bin .gtr (.tmp 3) (.cst (.int .i64 4611686018427387903)), some (.tmp 2, false)⟩, ⟨some 6, .pick (.tmp 2) (.cst (.bool true)) (.tmp 4), none⟩]) (.cond (.var 6) (.seq (.region [⟨some 1, .mv (.cst (.str [])), none⟩, ⟨some 2, .mv (.cst (.int .i64 10)), none⟩]) .ret) .skip)) (.seq (.region [⟨some 3, .alloc 1 .nilS, none⟩]) (.seq (.seq (.region [⟨none, .mv (.var 0), none⟩, ⟨none, .convInt .u64 (.tmp 0), none⟩, ⟨none, .bin .shl (.tmp 1) (.cst (.int .u64 1)), none⟩, ⟨none, .mv (.var 0), none⟩, ⟨none, .bin .shr (.tmp 3) (.cst (.int .u64 63)), none⟩, ⟨none, .convInt .u64 (.tmp 4), none⟩, ⟨none, .bin .xor (.tmp 2) (.tmp 5), none⟩, ⟨some 7, .call (.fn 61) [.tmp 6], none⟩]) (.block 0 (.rangeFunc (.var 7) [8, 9] lp48x0 lp48x1))) (.seq (.region [⟨none, .load false 1 (.var 3), none⟩, ⟨none, .toStr (.tmp 0), none⟩, ⟨some 1, .mv (.tmp 1), none⟩, ⟨some 2, .mv (.cst (.int .i64 0)), none⟩]) .ret)))), [.tmp 1, .tmp 2]⟩
set_option maxHeartbeats 4000000 in
theorem comp48 : compFun Try.prog Try.f48 1 [0, 2, 3, 4, 5, 6, 12, 20, 21, 22, 24] [] false ([], []) = some mf48 := by kernel_rfl
theorem at48 : Try.prog.funcs[48]? = some Try.f48 := by kernel_rfl
def mf49 : MFun := ⟨1, 5, .seq (.region [⟨some 1, .mv (.cst (.str [])), none⟩, ⟨some 2, .mv (.cst (.int .i64 0)), none⟩]) (.seq (.seq (.region [⟨none, .mv (.var 0), none⟩, ⟨none, .lenStr (.tmp 0), none⟩, ⟨some 4, .bin .gtr (.tmp 1) (.cst (.int .i64 65536)), none⟩]) (.cond (.var 4) (.seq (.region [⟨some 1, .mv (.cst (.str [])), none⟩, ⟨some 2, .mv (.cst (.int .i64 10)), none⟩]) .ret) .skip)) (.seq (.region [⟨none, .mv (.var 0), none⟩, ⟨none, .lenStr (.tmp 0), none⟩, ⟨none, .call (.fn 48) [.tmp 1], none⟩, ⟨none, .mv (.tmp 2), none⟩, ⟨none, .extract (.tmp 3) 0, none⟩, ⟨none, .extract (.tmp 3) 1, none⟩, ⟨some 3, .mv (.tmp 4), none⟩, ⟨none, .mv (.tmp 5), none⟩]) (.seq (.region [⟨none, .mv (.var 3), none⟩, ⟨none, .mv (.var 0), none⟩, ⟨none, .bin .add (.tmp 0) (.tmp 1), none⟩, ⟨some 1, .mv (.tmp 2), none⟩, ⟨some 2, .mv (.cst (.int .i64 0)), none⟩]) .ret))), [.tmp 1, .tmp 2]⟩
set_option maxHeartbeats 4000000 in
theorem comp49 : compFun Try.prog Try.f49 1 [0, 2, 3, 4, 8] [] false ([], []) = some mf49 := by kernel_rfl
theorem at49 : Try.prog.funcs[49]? = some Try.f49 := by kernel_rfl
def lp50x0 : MC := .seq (.seq (.region [⟨none, .mv (.var 3), none⟩, ⟨some 6, .bin .geq (.tmp 0) (.cst (.int .u64 128)), none⟩]) (.cond (.var 6) .skip (.exit 0))) (.block 1 (.seq (.region [⟨none, .mv (.var 4), none⟩, ⟨none, .mv (.var 3), none⟩, ⟨none, .bin .rem (.tmp 1) (.cst (.int .u64 128)), none⟩, ⟨none, .bin .add (.tmp 2) (.cst (.int .u64 128)), none⟩, ⟨none, .convInt .u8 (.tmp 3), none⟩, ⟨none, .buildSlice 1 [.tmp 4], none⟩, ⟨none, .append 1 1 (.tmp 0) (.tmp 5), none⟩, ⟨some 4, .mv (.tmp 6), none⟩]) (.region [⟨none, .mv (.var 3), none⟩, ⟨none, .bin .quo (.tmp 0) (.cst (.int .u64 128)), none⟩, ⟨some 3, .mv (.tmp 1), none⟩])))
def mf50 : MFun := ⟨1, 7, .seq (.region [⟨some 1, .mv (.cst (.str [])), none⟩, ⟨some 2, .mv (.cst (.int .i64 0)), none⟩]) (.seq (.seq (.region [⟨none, .mv (.var 0), none⟩, ⟨none, .bin .lss (.tmp 0) (.cst (.int .i64 (-4611686018427387903))), none⟩, ⟨none, .mv (.tmp 1), none⟩, ⟨none, .mv (.var 0), some (.tmp 2, false)⟩, ⟨none, .bin .gtr (.tmp 3) (.cst (.int .i64 4611686018427387903)), some (.tmp 2, false)⟩, ⟨some 5, .pick (.tmp 2) (.cst (.bool true)) (.tmp 4), none⟩]) (.cond (.var 5) (.seq (.region [⟨some 1, .mv (.cst (.str [])), none⟩, ⟨some 2, .mv (.cst (.int .i64 10)), none⟩]) .ret) .skip)) (.seq (.region [⟨none, .mv (.var 0), none⟩, ⟨none, .call (.fn 62) [.tmp 0], none⟩, ⟨some 3, .mv (.tmp 1), none⟩]) (.seq (.region [⟨some 4, .mv (.cst .nilS), none⟩]) (.seq (.block 0 (.loop [0, 1, 2, 5, 6] lp50x0)) (.seq (.region [⟨none, .mv (.var 4), none⟩, ⟨none, .mv (.var 3), none⟩, ⟨none, .convInt .u8 (.tmp 1), none⟩, ⟨none, .buildSlice 1 [.tmp 2], none⟩, ⟨none, .append 1 1 (.tmp 0) (.tmp 3), none⟩, ⟨none, .toStr (.tmp 4), none⟩, ⟨some 1, .mv (.tmp 5), none⟩, ⟨some 2, .mv (.cst (.int .i64 0)), none⟩]) .ret))))), [.tmp 1, .tmp 2]⟩
def mask50x0 : List Nat := [0, 1, 2, 5, 6]
abbrev st50x0 (v3 v4 : AV) : List AV := [.undef, .undef, .undef, v3, v4, .undef, .undef]
theorem cl50x0 {d0 d1 d2 v3 v4 d5 d6 : AV} : clear mask50x0 [d0, d1, d2, v3, v4, d5, d6] = st50x0 v3 v4 := by simp only [mask50x0, clear, List.foldl_cons, List.foldl_nil, List.set_cons_zero, List.set_cons_succ]
theorem go50x0 {E : Env} {fuel : Nat} {A : Arena} {o : Out} {k : List KC} {d0 d1 d2 v3 v4 d5 d6 : AV} (h : iter (evC E fuel lp50x0) mask50x0 fuel (st50x0 v3 v4) A = some o) :
    run E fuel (.code (.loop [0, 1, 2, 5, 6] lp50x0) :: k) [d0, d1, d2, v3, v4, d5, d6] A = after E fuel k o := run_loopC mask50x0 _ _ (by rw [cl50x0]; exact h)
set_option maxHeartbeats 4000000 in
theorem comp50 : compFun Try.prog Try.f50 1 [0, 2, 3, 4, 5, 11, 15] [] false ([[0, 1, 2, 5, 6]], []) = some mf50 := by kernel_rfl
theorem at50 : Try.prog.funcs[50]? = some Try.f50 := by kernel_rfl
def mf51 : MFun := ⟨1, 5, .seq (.region [⟨some 1, .mv (.cst (.str [])), none⟩, ⟨some 2, .mv (.cst (.int .i64 0)), none⟩]) (.seq (.seq (.region [⟨none, .mv (.var 0), none⟩, ⟨none, .lenStr (.tmp 0), none⟩, ⟨some 4, .bin .gtr (.tmp 1) (.cst (.int .i64 65536)), none⟩]) (.cond (.var 4) (.seq (.region [⟨some 1, .mv (.cst (.str [])), none⟩, ⟨some 2, .mv (.cst (.int .i64 10)), none⟩]) .ret) .skip)) (.seq (.region [⟨none, .mv (.var 0), none⟩, ⟨none, .lenStr (.tmp 0), none⟩, ⟨none, .call (.fn 50) [.tmp 1], none⟩, ⟨none, .mv (.tmp 2), none⟩, ⟨none, .extract (.tmp 3) 0, none⟩, ⟨none, .extract (.tmp 3) 1, none⟩, ⟨some 3, .mv (.tmp 4), none⟩, ⟨none, .mv (.tmp 5), none⟩]) (.seq (.region [⟨none, .mv (.var 3), none⟩, ⟨none, .mv (.var 0), none⟩, ⟨none, .bin .add (.tmp 0) (.tmp 1), none⟩, ⟨some 1, .mv (.tmp 2), none⟩, ⟨some 2, .mv (.cst (.int .i64 0)), none⟩]) .ret))), [.tmp 1, .tmp 2]⟩
set_option maxHeartbeats 4000000 in
theorem comp51 : compFun Try.prog Try.f51 1 [0, 2, 3, 4, 8] [] false ([], []) = some mf51 := by kernel_rfl
theorem at51 : Try.prog.funcs[51]? = some Try.f51 := by kernel_rfl
def lp52x0 : MC := .seq (.region [⟨some 11, .bin .lss (.var 10) (.cst (.int .i64 9)), none⟩]) (.seq (.cond (.var 11) .skip (.exit 0)) (.seq (.block 1 (.seq (.region [⟨none, .mv (.var 10), none⟩, ⟨some 6, .mv (.tmp 0), none⟩]) (.seq (.seq (.region [⟨none, .mv (.var 1), none⟩, ⟨none, .mv (.var 6), none⟩, ⟨none, .bin .add (.tmp 0) (.tmp 1), none⟩, ⟨none, .mv (.var 0), none⟩, ⟨none, .lenStr (.tmp 3), none⟩, ⟨some 12, .bin .geq (.tmp 2) (.tmp 4), none⟩]) (.cond (.var 12) (.exit 0) .skip)) (.seq (.region [⟨none, .mv (.var 0), none⟩, ⟨none, .mv (.var 1), none⟩, ⟨none, .mv (.var 6), none⟩, ⟨none, .bin .add (.tmp 1) (.tmp 2), none⟩, ⟨none, .indexStr (.tmp 0) (.tmp 3), none⟩, ⟨some 7, .mv (.tmp 4), none⟩]) (.seq (.region [⟨none, .mv (.var 5), none⟩, ⟨none, .mv (.var 7), none⟩, ⟨none, .bin .and (.tmp 1) (.cst (.int .u8 127)), none⟩, ⟨none, .convInt .u64 (.tmp 2), none⟩, ⟨none, .mv (.var 6), none⟩, ⟨none, .bin .mul (.cst (.int .i64 7)) (.tmp 4), none⟩, ⟨none, .bin .shl (.tmp 3) (.tmp 5), none⟩, ⟨none, .bin .or (.tmp 0) (.tmp 6), none⟩, ⟨some 5, .mv (.tmp 7), none⟩]) (.seq (.seq (.region [⟨none, .mv (.var 7), none⟩, ⟨some 13, .bin .geq (.tmp 0) (.cst (.int .u8 128)), none⟩]) (.cond (.var 13) (.exit 1) .skip)) (.seq (.region [⟨none, .mv (.var 5), none⟩, ⟨none, .bin .shr (.tmp 0) (.cst (.int .u64 1)), none⟩, ⟨none, .convInt .i64 (.tmp 1), none⟩, ⟨none, .mv (.var 5), none⟩, ⟨none, .bin .and (.tmp 3) (.cst (.int .u64 1)), none⟩, ⟨none, .convInt .i64 (.tmp 4), none⟩, ⟨none, .un .neg (.tmp 5), none⟩, ⟨none, .bin .xor (.tmp 2) (.tmp 6), none⟩, ⟨some 8, .mv (.tmp 7), none⟩]) (.seq (.seq (.region [⟨none, .mv (.var 7), none⟩, ⟨none, .bin .eql (.tmp 0) (.cst (.int .u8 0)), none⟩, ⟨none, .mv (.tmp 1), none⟩, ⟨none, .mv (.var 6), some (.tmp 2, true)⟩, ⟨none, .bin .gtr (.tmp 3) (.cst (.int .i64 0)), some (.tmp 2, true)⟩, ⟨none, .pick (.tmp 2) (.tmp 4) (.cst (.bool false)), none⟩, ⟨none, .mv (.tmp 5), none⟩, ⟨none, .mv (.var 8), some (.tmp 6, false)⟩, ⟨none, .bin .lss (.tmp 7) (.cst (.int .i64 (-4611686018427387903))), some (.tmp 6, false)⟩, ⟨some 14, .pick (.tmp 6) (.cst (.bool true)) (.tmp 8), none⟩]) (.cond (.var 14) (.exit 0) .skip)) (.seq (.region [⟨none, .mv (.var 8), none⟩, ⟨none, .mv (.var 1), none⟩, ⟨none, .mv (.var 6), none⟩, ⟨none, .bin .add (.tmp 1) (.tmp 2), none⟩, ⟨none, .bin .add (.tmp 3) (.cst (.int .i64 1)), none⟩, ⟨some 2, .mv (.tmp 0), none⟩, ⟨some 3, .mv (.tmp 4), none⟩, ⟨some 4, .mv (.cst (.int .i64 0)), none⟩]) .ret))))))))) (.region [⟨none, .bin .add (.var 10) (.cst (.int .i64 1)), none⟩, ⟨some 10, .mv (.tmp 0), none⟩])))
def mf52 : MFun := ⟨2, 15, .seq (.region [⟨some 2, .mv (.cst (.int .i64 0)), none⟩, ⟨some 3, .mv (.cst (.int .i64 0)), none⟩, ⟨some 4, .mv (.cst (.int .i64 0)), none⟩]) (.seq (.seq (.region [⟨none, .mv (.var 1), none⟩, ⟨none, .bin .lss (.tmp 0) (.cst (.int .i64 0)), none⟩, ⟨none, .mv (.tmp 1), none⟩, ⟨none, .mv (.var 1), some (.tmp 2, false)⟩, ⟨none, .mv (.var 0), some (.tmp 2, false)⟩, ⟨none, .lenStr (.tmp 4), some (.tmp 2, false)⟩, ⟨none, .bin .gtr (.tmp 3) (.tmp 5), some (.tmp 2, false)⟩, ⟨some 9, .pick (.tmp 2) (.cst (.bool true)) (.tmp 6), none⟩]) (.cond (.var 9) (.seq (.region [⟨some 2, .mv (.cst (.int .i64 0)), none⟩, ⟨some 3, .mv (.cst (.int .i64 0)), none⟩, ⟨some 4, .mv (.cst (.int .i64 2)), none⟩]) .ret) .skip)) (.seq (.region [⟨some 5, .mv (.cst (.int .u64 0)), none⟩]) (.seq (.seq (.region [⟨some 10, .mv (.cst (.int .i64 0)), none⟩]) (.block 0 (.loop [2, 3, 4, 6, 7, 8, 9, 11, 12, 13, 14] lp52x0))) (.seq (.region [⟨some 2, .mv (.cst (.int .i64 0)), none⟩, ⟨some 3, .mv (.cst (.int .i64 0)), none⟩, ⟨some 4, .mv (.cst (.int .i64 10)), none⟩]) .ret)))), [.tmp 2, .tmp 3, .tmp 4]⟩
def mask52x0 : List Nat := [2, 3, 4, 6, 7, 8, 9, 11, 12, 13, 14]
abbrev st52x0 (v0 v1 v5 v10 : AV) : List AV := [v0, v1, .undef, .undef, .undef, v5, .undef, .undef, .undef, .undef, v10, .undef, .undef, .undef, .undef]
theorem cl52x0 {v0 v1 d2 d3 d4 v5 d6 d7 d8 d9 v10 d11 d12 d13 d14 : AV} : clear mask52x0 [v0, v1, d2, d3, d4, v5, d6, d7, d8, d9, v10, d11, d12, d13, d14] = st52x0 v0 v1 v5 v10 := by simp only [mask52x0, clear, List.foldl_cons, List.foldl_nil, List.set_cons_zero, List.set_cons_succ]
theorem go52x0 {E : Env} {fuel : Nat} {A : Arena} {o : Out} {k : List KC} {v0 v1 d2 d3 d4 v5 d6 d7 d8 d9 v10 d11 d12 d13 d14 : AV} (h : iter (evC E fuel lp52x0) mask52x0 fuel (st52x0 v0 v1 v5 v10) A = some o) :
    run E fuel (.code (.loop [2, 3, 4, 6, 7, 8, 9, 11, 12, 13, 14] lp52x0) :: k) [v0, v1, d2, d3, d4, v5, d6, d7, d8, d9, v10, d11, d12, d13, d14] A = after E fuel k o := run_loopC mask52x0 _ _ (by rw [cl52x0]; exact h)
set_option maxHeartbeats 4000000 in
theorem comp52 : compFun Try.prog Try.f52 2 [0, 1, 4, 5, 6, 7, 8, 9, 10, 18, 19, 20, 27, 42, 60] [] false ([[2, 3, 4, 6, 7, 8, 9, 11, 12, 13, 14]], []) = some mf52 := by kernel_rfl
theorem at52 : Try.prog.funcs[52]? = some Try.f52 := by kernel_rfl
def mf53 : MFun := ⟨2, 10, .seq (.region [⟨some 2, .mv (.cst (.str [])), none⟩, ⟨some 3, .mv (.cst (.int .i64 0)), none⟩, ⟨some 4, .mv (.cst (.int .i64 0)), none⟩]) (.seq (.region [⟨none, .mv (.var 0), none⟩, ⟨none, .mv (.var 1), none⟩, ⟨none, .call (.fn 52) [.tmp 0, .tmp 1], none⟩, ⟨none, .mv (.tmp 2), none⟩, ⟨none, .extract (.tmp 3) 0, none⟩, ⟨none, .extract (.tmp 3) 1, none⟩, ⟨none, .extract (.tmp 3) 2, none⟩, ⟨some 5, .mv (.tmp 4), none⟩, ⟨some 6, .mv (.tmp 5), none⟩, ⟨some 7, .mv (.tmp 6), none⟩]) (.seq (.seq (.region [⟨none, .mv (.var 7), none⟩, ⟨some 8, .bin .neq (.tmp 0) (.cst (.int .i64 0)), none⟩]) (.cond (.var 8) (.seq (.region [⟨none, .mv (.var 7), none⟩, ⟨some 2, .mv (.cst (.str [])), none⟩, ⟨some 3, .mv (.cst (.int .i64 0)), none⟩, ⟨some 4, .mv (.tmp 0), none⟩]) .ret) .skip)) (.seq (.seq (.region [⟨none, .mv (.var 5), none⟩, ⟨none, .bin .lss (.tmp 0) (.cst (.int .i64 0)), none⟩, ⟨none, .mv (.tmp 1), none⟩, ⟨none, .mv (.var 5), some (.tmp 2, false)⟩, ⟨none, .bin .gtr (.tmp 3) (.cst (.int .i64 65536)), some (.tmp 2, false)⟩, ⟨none, .pick (.tmp 2) (.cst (.bool true)) (.tmp 4), none⟩, ⟨none, .mv (.tmp 5), none⟩, ⟨none, .mv (.var 5), some (.tmp 6, false)⟩, ⟨none, .mv (.var 0), some (.tmp 6, false)⟩, ⟨none, .lenStr (.tmp 8), some (.tmp 6, false)⟩, ⟨none, .mv (.var 6), some (.tmp 6, false)⟩, ⟨none, .bin .sub (.tmp 9) (.tmp 10), some (.tmp 6, false)⟩, ⟨none, .bin .gtr (.tmp 7) (.tmp 11), some (.tmp 6, false)⟩, ⟨some 9, .pick (.tmp 6) (.cst (.bool true)) (.tmp 12), none⟩]) (.cond (.var 9) (.seq (.region [⟨some 2, .mv (.cst (.str [])), none⟩, ⟨some 3, .mv (.cst (.int .i64 0)), none⟩, ⟨some 4, .mv (.cst (.int .i64 10)), none⟩]) .ret) .skip)) (.seq (.region [⟨none, .mv (.var 0), none⟩, ⟨none, .mv (.var 6), none⟩, ⟨none, .mv (.var 6), none⟩, ⟨none, .mv (.var 5), none⟩, ⟨none, .bin .add (.tmp 2) (.tmp 3), none⟩, ⟨none, .sliceStr (.tmp 0) (some (.tmp 1)) (some (.tmp 4)), none⟩, ⟨none, .mv (.var 6), none⟩, ⟨none, .mv (.var 5), none⟩, ⟨none, .bin .add (.tmp 6) (.tmp 7), none⟩, ⟨some 2, .mv (.tmp 5), none⟩, ⟨some 3, .mv (.tmp 8), none⟩, ⟨some 4, .mv (.cst (.int .i64 0)), none⟩]) .ret)))), [.tmp 2, .tmp 3, .tmp 4]⟩
set_option maxHeartbeats 4000000 in
theorem comp53 : compFun Try.prog Try.f53 2 [0, 1, 4, 5, 6, 7, 8, 9, 18, 33] [] false ([], []) = some mf53 := by kernel_rfl
theorem at53 : Try.prog.funcs[53]? = some Try.f53 := by kernel_rfl
def lp54x0 : MC := .seq (.seq (.region [⟨none, .mv (.var 6), none⟩, ⟨none, .bin .lss (.tmp 0) (.cst (.int .i64 9)), none⟩, ⟨none, .mv (.tmp 1), none⟩, ⟨none, .mv (.var 1), some (.tmp 2, true)⟩, ⟨none, .mv (.var 6), some (.tmp 2, true)⟩, ⟨none, .bin .add (.tmp 3) (.tmp 4), some (.tmp 2, true)⟩, ⟨none, .mv (.var 0), some (.tmp 2, true)⟩, ⟨none, .lenStr (.tmp 6), some (.tmp 2, true)⟩, ⟨none, .bin .lss (.tmp 5) (.tmp 7), some (.tmp 2, true)⟩, ⟨some 12, .pick (.tmp 2) (.tmp 8) (.cst (.bool false)), none⟩]) (.cond (.var 12) .skip (.exit 0))) (.seq (.block 1 (.seq (.region [⟨none, .mv (.var 0), none⟩, ⟨none, .mv (.var 1), none⟩, ⟨none, .mv (.var 6), none⟩, ⟨none, .bin .add (.tmp 1) (.tmp 2), none⟩, ⟨none, .indexStr (.tmp 0) (.tmp 3), none⟩, ⟨none, .convInt .u64 (.tmp 4), none⟩, ⟨some 7, .mv (.tmp 5), none⟩]) (.seq (.region [⟨none, .mv (.var 5), none⟩, ⟨none, .mv (.var 7), none⟩, ⟨none, .bin .rem (.tmp 1) (.cst (.int .u64 128)), none⟩, ⟨none, .mv (.var 6), none⟩, ⟨none, .bin .mul (.cst (.int .i64 7)) (.tmp 3), none⟩, ⟨none, .bin .shl (.tmp 2) (.tmp 4), none⟩, ⟨none, .bin .add (.tmp 0) (.tmp 5), none⟩, ⟨some 5, .mv (.tmp 6), none⟩]) (.seq (.seq (.region [⟨none, .mv (.var 7), none⟩, ⟨some 13, .bin .geq (.tmp 0) (.cst (.int .u64 128)), none⟩]) (.cond (.var 13) (.exit 1) .skip)) (.seq (.region [⟨none, .mv (.var 5), none⟩, ⟨none, .bin .quo (.tmp 0) (.cst (.int .u64 2)), none⟩, ⟨none, .convInt .i64 (.tmp 1), none⟩, ⟨some 8, .mv (.tmp 2), none⟩]) (.seq (.seq (.region [⟨none, .mv (.var 5), none⟩, ⟨none, .bin .rem (.tmp 0) (.cst (.int .u64 2)), none⟩, ⟨some 14, .bin .eql (.tmp 1) (.cst (.int .u64 1)), none⟩]) (.cond (.var 14) (.region [⟨none, .mv (.var 8), none⟩, ⟨none, .un .neg (.tmp 0), none⟩, ⟨none, .bin .sub (.tmp 1) (.cst (.int .i64 1)), none⟩, ⟨some 8, .mv (.tmp 2), none⟩]) .skip)) (.seq (.region [⟨none, .mv (.var 8), none⟩, ⟨none, .call (.fn 50) [.tmp 0], none⟩, ⟨none, .mv (.tmp 1), none⟩, ⟨none, .extract (.tmp 2) 0, none⟩, ⟨none, .extract (.tmp 2) 1, none⟩, ⟨some 9, .mv (.tmp 3), none⟩, ⟨some 10, .mv (.tmp 4), none⟩]) (.seq (.seq (.region [⟨none, .mv (.var 10), none⟩, ⟨none, .bin .neq (.tmp 0) (.cst (.int .i64 0)), none⟩, ⟨none, .mv (.tmp 1), none⟩, ⟨none, .mv (.var 9), some (.tmp 2, false)⟩, ⟨none, .mv (.var 0), some (.tmp 2, false)⟩, ⟨none, .mv (.var 1), some (.tmp 2, false)⟩, ⟨none, .mv (.var 1), some (.tmp 2, false)⟩, ⟨none, .mv (.var 6), some (.tmp 2, false)⟩, ⟨none, .bin .add (.tmp 6) (.tmp 7), some (.tmp 2, false)⟩, ⟨none, .bin .add (.tmp 8) (.cst (.int .i64 1)), some (.tmp 2, false)⟩, ⟨none, .sliceStr (.tmp 4) (some (.tmp 5)) (some (.tmp 9)), some (.tmp 2, false)⟩, ⟨none, .bin .neq (.tmp 3) (.tmp 10), some (.tmp 2, false)⟩, ⟨some 15, .pick (.tmp 2) (.cst (.bool true)) (.tmp 11), none⟩]) (.cond (.var 15) (.seq (.region [⟨some 2, .mv (.cst (.int .i64 0)), none⟩, ⟨some 3, .mv (.cst (.int .i64 0)), none⟩, ⟨some 4, .mv (.cst (.int .i64 10)), none⟩]) .ret) .skip)) (.seq (.region [⟨none, .mv (.var 8), none⟩, ⟨none, .mv (.var 1), none⟩, ⟨none, .mv (.var 6), none⟩, ⟨none, .bin .add (.tmp 1) (.tmp 2), none⟩, ⟨none, .bin .add (.tmp 3) (.cst (.int .i64 1)), none⟩, ⟨some 2, .mv (.tmp 0), none⟩, ⟨some 3, .mv (.tmp 4), none⟩, ⟨some 4, .mv (.cst (.int .i64 0)), none⟩]) .ret))))))))) (.region [⟨none, .mv (.var 6), none⟩, ⟨none, .bin .add (.tmp 0) (.cst (.int .i64 1)), none⟩, ⟨some 6, .mv (.tmp 1), none⟩]))
def mf54 : MFun := ⟨2, 16, .seq (.region [⟨some 2, .mv (.cst (.int .i64 0)), none⟩, ⟨some 3, .mv (.cst (.int .i64 0)), none⟩, ⟨some 4, .mv (.cst (.int .i64 0)), none⟩]) (.seq (.seq (.region [⟨none, .mv (.var 1), none⟩, ⟨none, .bin .lss (.tmp 0) (.cst (.int .i64 0)), none⟩, ⟨none, .mv (.tmp 1), none⟩, ⟨none, .mv (.var 1), some (.tmp 2, false)⟩, ⟨none, .mv (.var 0), some (.tmp 2, false)⟩, ⟨none, .lenStr (.tmp 4), some (.tmp 2, false)⟩, ⟨none, .bin .gtr (.tmp 3) (.tmp 5), some (.tmp 2, false)⟩, ⟨some 11, .pick (.tmp 2) (.cst (.bool true)) (.tmp 6), none⟩]) (.cond (.var 11) (.seq (.region [⟨some 2, .mv (.cst (.int .i64 0)), none⟩, ⟨some 3, .mv (.cst (.int .i64 0)), none⟩, ⟨some 4, .mv (.cst (.int .i64 2)), none⟩]) .ret) .skip)) (.seq (.region [⟨some 5, .mv (.cst (.int .u64 0)), none⟩]) (.seq (.seq (.region [⟨some 6, .mv (.cst (.int .i64 0)), none⟩]) (.block 0 (.loop [2, 3, 4, 7, 8, 9, 10, 11, 12, 13, 14, 15] lp54x0))) (.seq (.region [⟨some 2, .mv (.cst (.int .i64 0)), none⟩, ⟨some 3, .mv (.cst (.int .i64 0)), none⟩, ⟨some 4, .mv (.cst (.int .i64 10)), none⟩]) .ret)))), [.tmp 2, .tmp 3, .tmp 4]⟩
def mask54x0 : List Nat := [2, 3, 4, 7, 8, 9, 10, 11, 12, 13, 14, 15]
abbrev st54x0 (v0 v1 v5 v6 : AV) : List AV := [v0, v1, .undef, .undef, .undef, v5, v6, .undef, .undef, .undef, .undef, .undef, .undef, .undef, .undef, .undef]
theorem cl54x0 {v0 v1 d2 d3 d4 v5 v6 d7 d8 d9 d10 d11 d12 d13 d14 d15 : AV} : clear mask54x0 [v0, v1, d2, d3, d4, v5, v6, d7, d8, d9, d10, d11, d12, d13, d14, d15] = st54x0 v0 v1 v5 v6 := by simp only [mask54x0, clear, List.foldl_cons, List.foldl_nil, List.set_cons_zero, List.set_cons_succ]
theorem go54x0 {E : Env} {fuel : Nat} {A : Arena} {o : Out} {k : List KC} {v0 v1 d2 d3 d4 v5 v6 d7 d8 d9 d10 d11 d12 d13 d14 d15 : AV} (h : iter (evC E fuel lp54x0) mask54x0 fuel (st54x0 v0 v1 v5 v6) A = some o) :
    run E fuel (.code (.loop [2, 3, 4, 7, 8, 9, 10, 11, 12, 13, 14, 15] lp54x0) :: k) [v0, v1, d2, d3, d4, v5, v6, d7, d8, d9, d10, d11, d12, d13, d14, d15] A = after E fuel k o := run_loopC mask54x0 _ _ (by rw [cl54x0]; exact h)
set_option maxHeartbeats 4000000 in
theorem comp54 : compFun Try.prog Try.f54 2 [0, 1, 4, 5, 6, 7, 8, 9, 10, 11, 12, 20, 30, 47, 53, 74] [] false ([[2, 3, 4, 7, 8, 9, 10, 11, 12, 13, 14, 15]], []) = some mf54 := by kernel_rfl
theorem at54 : Try.prog.funcs[54]? = some Try.f54 := by kernel_rfl
def mf55 : MFun := ⟨2, 10, .seq (.region [⟨some 2, .mv (.cst (.str [])), none⟩, ⟨some 3, .mv (.cst (.int .i64 0)), none⟩, ⟨some 4, .mv (.cst (.int .i64 0)), none⟩]) (.seq (.region [⟨none, .mv (.var 0), none⟩, ⟨none, .mv (.var 1), none⟩, ⟨none, .call (.fn 54) [.tmp 0, .tmp 1], none⟩, ⟨none, .mv (.tmp 2), none⟩, ⟨none, .extract (.tmp 3) 0, none⟩, ⟨none, .extract (.tmp 3) 1, none⟩, ⟨none, .extract (.tmp 3) 2, none⟩, ⟨some 5, .mv (.tmp 4), none⟩, ⟨some 6, .mv (.tmp 5), none⟩, ⟨some 7, .mv (.tmp 6), none⟩]) (.seq (.seq (.region [⟨none, .mv (.var 7), none⟩, ⟨some 8, .bin .neq (.tmp 0) (.cst (.int .i64 0)), none⟩]) (.cond (.var 8) (.seq (.region [⟨none, .mv (.var 7), none⟩, ⟨some 2, .mv (.cst (.str [])), none⟩, ⟨some 3, .mv (.cst (.int .i64 0)), none⟩, ⟨some 4, .mv (.tmp 0), none⟩]) .ret) .skip)) (.seq (.seq (.region [⟨none, .mv (.var 5), none⟩, ⟨none, .bin .lss (.tmp 0) (.cst (.int .i64 0)), none⟩, ⟨none, .mv (.tmp 1), none⟩, ⟨none, .mv (.var 5), some (.tmp 2, false)⟩, ⟨none, .bin .gtr (.tmp 3) (.cst (.int .i64 65536)), some (.tmp 2, false)⟩, ⟨none, .pick (.tmp 2) (.cst (.bool true)) (.tmp 4), none⟩, ⟨none, .mv (.tmp 5), none⟩, ⟨none, .mv (.var 5), some (.tmp 6, false)⟩, ⟨none, .mv (.var 0), some (.tmp 6, false)⟩, ⟨none, .lenStr (.tmp 8), some (.tmp 6, false)⟩, ⟨none, .mv (.var 6), some (.tmp 6, false)⟩, ⟨none, .bin .sub (.tmp 9) (.tmp 10), some (.tmp 6, false)⟩, ⟨none, .bin .gtr (.tmp 7) (.tmp 11), some (.tmp 6, false)⟩, ⟨some 9, .pick (.tmp 6) (.cst (.bool true)) (.tmp 12), none⟩]) (.cond (.var 9) (.seq (.region [⟨some 2, .mv (.cst (.str [])), none⟩, ⟨some 3, .mv (.cst (.int .i64 0)), none⟩, ⟨some 4, .mv (.cst (.int .i64 10)), none⟩]) .ret) .skip)) (.seq (.region [⟨none, .mv (.var 0), none⟩, ⟨none, .mv (.var 6), none⟩, ⟨none, .mv (.var 6), none⟩, ⟨none, .mv (.var 5), none⟩, ⟨none, .bin .add (.tmp 2) (.tmp 3), none⟩, ⟨none, .sliceStr (.tmp 0) (some (.tmp 1)) (some (.tmp 4)), none⟩, ⟨none, .mv (.var 6), none⟩, ⟨none, .mv (.var 5), none⟩, ⟨none, .bin .add (.tmp 6) (.tmp 7), none⟩, ⟨some 2, .mv (.tmp 5), none⟩, ⟨some 3, .mv (.tmp 8), none⟩, ⟨some 4, .mv (.cst (.int .i64 0)), none⟩]) .ret)))), [.tmp 2, .tmp 3, .tmp 4]⟩
set_option maxHeartbeats 4000000 in
theorem comp55 : compFun Try.prog Try.f55 2 [0, 1, 4, 5, 6, 7, 8, 9, 18, 33] [] false ([], []) = some mf55 := by kernel_rfl
theorem at55 : Try.prog.funcs[55]? = some Try.f55 := by kernel_rfl
def lp56x0 : MC := .seq (.seq (.region [⟨none, .mv (.var 3), none⟩, ⟨none, .mv (.var 0), none⟩, ⟨none, .lenStr (.tmp 1), none⟩, ⟨none, .bin .lss (.tmp 0) (.tmp 2), none⟩, ⟨none, .mv (.tmp 3), none⟩, ⟨none, .mv (.var 3), some (.tmp 4, true)⟩, ⟨none, .bin .lss (.tmp 5) (.cst (.int .i64 9)), some (.tmp 4, true)⟩, ⟨some 4, .pick (.tmp 4) (.tmp 6) (.cst (.bool false)), none⟩]) (.cond (.var 4) .skip (.exit 0))) (.seq (.seq (.block 1 (.region [⟨none, .mv (.var 2), none⟩, ⟨none, .bin .mul (.cst (.int .i64 10)) (.tmp 0), none⟩, ⟨none, .mv (.var 0), none⟩, ⟨none, .mv (.var 3), none⟩, ⟨none, .indexStr (.tmp 2) (.tmp 3), none⟩, ⟨none, .bin .sub (.tmp 4) (.cst (.int .u8 48)), none⟩, ⟨none, .convInt .i64 (.tmp 5), none⟩, ⟨none, .bin .add (.tmp 1) (.tmp 6), none⟩, ⟨some 2, .mv (.tmp 7), none⟩])) (.kill [1, 4])) (.region [⟨none, .mv (.var 3), none⟩, ⟨none, .bin .add (.tmp 0) (.cst (.int .i64 1)), none⟩, ⟨some 3, .mv (.tmp 1), none⟩]))
def mf56 : MFun := ⟨1, 5, .seq (.region [⟨some 1, .mv (.cst (.int .i64 0)), none⟩]) (.seq (.region [⟨some 2, .mv (.cst (.int .i64 0)), none⟩]) (.seq (.seq (.region [⟨some 3, .mv (.cst (.int .i64 0)), none⟩]) (.seq (.block 0 (.loop [1, 4] lp56x0)) (.kill [0, 1, 3, 4]))) (.seq (.region [⟨none, .mv (.var 2), none⟩, ⟨some 1, .mv (.tmp 0), none⟩]) .ret))), [.tmp 1]⟩
def mask56x0 : List Nat := [1, 4]
abbrev st56x0 (v0 v2 v3 : AV) : List AV := [v0, .undef, v2, v3, .undef]
theorem cl56x0 {v0 d1 v2 v3 d4 : AV} : clear mask56x0 [v0, d1, v2, v3, d4] = st56x0 v0 v2 v3 := by simp only [mask56x0, clear, List.foldl_cons, List.foldl_nil, List.set_cons_zero, List.set_cons_succ]
theorem go56x0 {E : Env} {fuel : Nat} {A : Arena} {o : Out} {k : List KC} {v0 d1 v2 v3 d4 : AV} (h : iter (evC E fuel lp56x0) mask56x0 fuel (st56x0 v0 v2 v3) A = some o) :
    run E fuel (.code (.loop [1, 4] lp56x0) :: k) [v0, d1, v2, v3, d4] A = after E fuel k o := run_loopC mask56x0 _ _ (by rw [cl56x0]; exact h)
set_option maxHeartbeats 4000000 in
theorem comp56 : compFun Try.prog Try.f56 1 [0, 2, 3, 4, 12] [] true ([[1, 4]], [[1, 4], [0, 1, 3, 4]]) = some mf56 := by kernel_rfl
theorem at56 : Try.prog.funcs[56]? = some Try.f56 := by kernel_rfl
def lp57x0 : MC := .seq (.seq (.region [⟨none, .mv (.var 3), none⟩, ⟨none, .mv (.var 2), none⟩, ⟨none, .lenSl (.tmp 1), none⟩, ⟨some 6, .bin .lss (.tmp 0) (.tmp 2), none⟩]) (.cond (.var 6) .skip (.exit 2))) (.seq (.seq (.block 3 (.seq (.region [⟨none, .mv (.var 2), none⟩, ⟨none, .mv (.var 3), none⟩, ⟨none, .indexSl 1 (.tmp 0) (.tmp 1), none⟩, ⟨none, .load false 1 (.tmp 2), none⟩, ⟨none, .call (.fn 56) [.tmp 3], none⟩, ⟨some 4, .mv (.tmp 4), none⟩]) (.seq (.seq (.region [⟨none, .mv (.var 4), none⟩, ⟨none, .bin .lss (.tmp 0) (.cst (.int .i64 1)), none⟩, ⟨none, .mv (.tmp 1), none⟩, ⟨none, .mv (.var 4), some (.tmp 2, false)⟩, ⟨none, .mv (.var 0), some (.tmp 2, false)⟩, ⟨none, .nilCheck (.tmp 4), some (.tmp 2, false)⟩, ⟨none, .fieldAddr 7 (.tmp 5), some (.tmp 2, false)⟩, ⟨none, .load false 1 (.tmp 6), some (.tmp 2, false)⟩, ⟨none, .lenSl (.tmp 7), some (.tmp 2, false)⟩, ⟨none, .bin .geq (.tmp 3) (.tmp 8), some (.tmp 2, false)⟩, ⟨none, .pick (.tmp 2) (.cst (.bool true)) (.tmp 9), none⟩, ⟨none, .mv (.tmp 10), none⟩, ⟨none, .mv (.var 0), some (.tmp 11, false)⟩, ⟨none, .nilCheck (.tmp 12), some (.tmp 11, false)⟩, ⟨none, .fieldAddr 3 (.tmp 13), some (.tmp 11, false)⟩, ⟨none, .load false 1 (.tmp 14), some (.tmp 11, false)⟩, ⟨none, .mv (.var 4), some (.tmp 11, false)⟩, ⟨none, .indexSl 1 (.tmp 15) (.tmp 16), some (.tmp 11, false)⟩, ⟨none, .load false 1 (.tmp 17), some (.tmp 11, false)⟩, ⟨none, .mv (.var 1), some (.tmp 11, false)⟩, ⟨none, .bin .neq (.tmp 18) (.tmp 19), some (.tmp 11, false)⟩, ⟨none, .pick (.tmp 11) (.cst (.bool true)) (.tmp 20), none⟩, ⟨none, .mv (.tmp 21), none⟩, ⟨none, .mv (.var 0), some (.tmp 22, false)⟩, ⟨none, .nilCheck (.tmp 23), some (.tmp 22, false)⟩, ⟨none, .fieldAddr 7 (.tmp 24), some (.tmp 22, false)⟩, ⟨none, .load false 1 (.tmp 25), some (.tmp 22, false)⟩, ⟨none, .mv (.var 4), some (.tmp 22, false)⟩, ⟨none, .indexSl 1 (.tmp 26) (.tmp 27), some (.tmp 22, false)⟩, ⟨none, .load false 1 (.tmp 28), some (.tmp 22, false)⟩, ⟨some 7, .pick (.tmp 22) (.cst (.bool true)) (.tmp 29), none⟩]) (.cond (.var 7) (.seq (.region [⟨none, .mv (.var 0), none⟩, ⟨none, .nilCheck (.tmp 0), none⟩, ⟨none, .fieldAddr 10 (.tmp 1), none⟩, ⟨none, .store 1 (.tmp 2) (.cst (.bool false)), none⟩]) .ret) .skip)) (.region [⟨none, .mv (.var 0), none⟩, ⟨none, .nilCheck (.tmp 0), none⟩, ⟨none, .fieldAddr 7 (.tmp 1), none⟩, ⟨none, .load false 1 (.tmp 2), none⟩, ⟨none, .mv (.var 4), none⟩, ⟨none, .indexSl 1 (.tmp 3) (.tmp 4), none⟩, ⟨none, .store 1 (.tmp 5) (.cst (.bool true)), none⟩])))) (.kill [4, 5, 6, 7])) (.region [⟨none, .mv (.var 3), none⟩, ⟨none, .bin .add (.tmp 0) (.cst (.int .i64 1)), none⟩, ⟨some 3, .mv (.tmp 1), none⟩]))
def lp57x1 : MC := .seq (.seq (.region [⟨none, .mv (.var 1), none⟩, ⟨some 5, .bin .lss (.tmp 0) (.cst (.int .i64 2)), none⟩]) (.cond (.var 5) .skip (.exit 0))) (.seq (.seq (.block 1 (.seq (.region [⟨none, .mv (.var 0), none⟩, ⟨none, .mv (.var 1), none⟩, ⟨none, .nilCheck (.tmp 0), none⟩, ⟨none, .fieldAddr 0 (.tmp 2), none⟩, ⟨none, .indexArr 2 1 (.tmp 3) (.tmp 1), none⟩, ⟨none, .load false 1 (.tmp 4), none⟩, ⟨none, .call (.fn 28) [.tmp 5], none⟩, ⟨some 2, .mv (.tmp 6), none⟩]) (.seq (.region [⟨some 3, .mv (.cst (.int .i64 0)), none⟩]) (.seq (.block 2 (.loop [4, 5, 6, 7] lp57x0)) (.kill [2, 3, 4, 5, 6, 7]))))) (.kill [2, 3, 4, 5, 6, 7])) (.region [⟨none, .mv (.var 1), none⟩, ⟨none, .bin .add (.tmp 0) (.cst (.int .i64 1)), none⟩, ⟨some 1, .mv (.tmp 1), none⟩]))
def mf57 : MFun := ⟨1, 8, .seq (.region [⟨some 1, .mv (.cst (.int .i64 0)), none⟩]) (.seq (.block 0 (.loop [2, 3, 4, 5, 6, 7] lp57x1)) (.kill [0, 1, 2, 3, 4, 5, 6, 7])), []⟩
def mask57x0 : List Nat := [4, 5, 6, 7]
abbrev st57x0 (v0 v1 v2 v3 : AV) : List AV := [v0, v1, v2, v3, .undef, .undef, .undef, .undef]
theorem cl57x0 {v0 v1 v2 v3 d4 d5 d6 d7 : AV} : clear mask57x0 [v0, v1, v2, v3, d4, d5, d6, d7] = st57x0 v0 v1 v2 v3 := by simp only [mask57x0, clear, List.foldl_cons, List.foldl_nil, List.set_cons_zero, List.set_cons_succ]
theorem go57x0 {E : Env} {fuel : Nat} {A : Arena} {o : Out} {k : List KC} {v0 v1 v2 v3 d4 d5 d6 d7 : AV} (h : iter (evC E fuel lp57x0) mask57x0 fuel (st57x0 v0 v1 v2 v3) A = some o) :
    run E fuel (.code (.loop [4, 5, 6, 7] lp57x0) :: k) [v0, v1, v2, v3, d4, d5, d6, d7] A = after E fuel k o := run_loopC mask57x0 _ _ (by rw [cl57x0]; exact h)
def mask57x1 : List Nat := [2, 3, 4, 5, 6, 7]
abbrev st57x1 (v0 v1 : AV) : List AV := [v0, v1, .undef, .undef, .undef, .undef, .undef, .undef]
theorem cl57x1 {v0 v1 d2 d3 d4 d5 d6 d7 : AV} : clear mask57x1 [v0, v1, d2, d3, d4, d5, d6, d7] = st57x1 v0 v1 := by simp only [mask57x1, clear, List.foldl_cons, List.foldl_nil, List.set_cons_zero, List.set_cons_succ]
theorem go57x1 {E : Env} {fuel : Nat} {A : Arena} {o : Out} {k : List KC} {v0 v1 d2 d3 d4 d5 d6 d7 : AV} (h : iter (evC E fuel lp57x1) mask57x1 fuel (st57x1 v0 v1) A = some o) :
    run E fuel (.code (.loop [2, 3, 4, 5, 6, 7] lp57x1) :: k) [v0, v1, d2, d3, d4, d5, d6, d7] A = after E fuel k o := run_loopC mask57x1 _ _ (by rw [cl57x1]; exact h)
set_option maxHeartbeats 4000000 in
theorem comp57 : compFun Try.prog Try.f57 1 [0, 2, 3, 4, 5, 7, 20, 58] [] true ([[2, 3, 4, 5, 6, 7], [4, 5, 6, 7]], [[4, 5, 6, 7], [2, 3, 4, 5, 6, 7], [2, 3, 4, 5, 6, 7], [0, 1, 2, 3, 4, 5, 6, 7]]) = some mf57 := by kernel_rfl
theorem at57 : Try.prog.funcs[57]? = some Try.f57 := by kernel_rfl
def mf58 : MFun := ⟨2, 4, .seq (.region [⟨some 2, .box (.var 1), none⟩, ⟨some 3, .alloc 5 (.agg [.int .i64 0, .int .i64 0, .int .i64 0, .int .i64 0, .str []]), none⟩]) (.seq (.region [⟨none, .mv (.var 0), none⟩, ⟨none, .nilCheck (.tmp 0), none⟩, ⟨none, .fieldAddr 0 (.tmp 1), none⟩, ⟨none, .load false 1 (.tmp 2), none⟩, ⟨none, .mv (.var 0), none⟩, ⟨none, .nilCheck (.tmp 4), none⟩, ⟨none, .fieldAddr 1 (.tmp 5), none⟩, ⟨none, .load false 1 (.tmp 6), none⟩, ⟨none, .fieldAddr 0 (.var 2), none⟩, ⟨none, .load false 1 (.tmp 8), none⟩, ⟨none, .mv (.var 0), none⟩, ⟨none, .nilCheck (.tmp 10), none⟩, ⟨none, .fieldAddr 4 (.tmp 11), none⟩, ⟨none, .load false 1 (.tmp 12), none⟩, ⟨none, .fieldAddr 1 (.var 2), none⟩, ⟨none, .load false 1 (.tmp 14), none⟩, ⟨none, .build [.int .i64 0, .int .i64 0, .int .i64 0, .int .i64 0, .str []] [(0, (1, .tmp 3)), (1, (1, .tmp 7)), (2, (1, .tmp 9)), (3, (1, .tmp 13)), (4, (1, .tmp 15))], none⟩, ⟨none, .store 5 (.var 3) (.tmp 16), none⟩]) .ret), [.cell 3 true 5]⟩
set_option maxHeartbeats 4000000 in
theorem comp58 : compFun Try.prog Try.f58 2 [0, 1, 3, 4] [] true ([], []) = some mf58 := by kernel_rfl
theorem at58 : Try.prog.funcs[58]? = some Try.f58 := by kernel_rfl
def lp59x0 : MC := .seq (.seq (.region [⟨none, .mv (.var 4), none⟩, ⟨none, .mv (.var 0), none⟩, ⟨none, .lenSl (.tmp 1), none⟩, ⟨some 7, .bin .lss (.tmp 0) (.tmp 2), none⟩]) (.cond (.var 7) .skip (.exit 0))) (.seq (.seq (.block 1 (.seq (.region [⟨none, .mv (.var 0), none⟩, ⟨none, .mv (.var 4), none⟩, ⟨none, .indexSl 3 (.tmp 0) (.tmp 1), none⟩, ⟨none, .load true 3 (.tmp 2), none⟩, ⟨some 5, .alloc 3 (.agg [.int .i64 0, .str [], .int .i64 0]), none⟩, ⟨none, .store 3 (.var 5) (.tmp 3), none⟩]) (.seq (.region [⟨none, .mv (.var 1), none⟩, ⟨none, .load true 3 (.var 5), none⟩, ⟨none, .call (.tmp 0) [.tmp 1], none⟩, ⟨some 8, .un .not (.tmp 2), none⟩]) (.cond (.var 8) (.seq (.region [⟨none, .mv (.var 0), none⟩, ⟨none, .mv (.var 3), none⟩, ⟨none, .load true 3 (.var 5), none⟩, ⟨none, .indexSl 3 (.tmp 0) (.tmp 1), none⟩, ⟨none, .store 3 (.tmp 3) (.tmp 2), none⟩]) (.region [⟨none, .mv (.var 3), none⟩, ⟨none, .bin .add (.tmp 0) (.cst (.int .i64 1)), none⟩, ⟨some 3, .mv (.tmp 1), none⟩])) .skip)))) (.kill [2, 5, 6, 7, 8])) (.region [⟨none, .mv (.var 4), none⟩, ⟨none, .bin .add (.tmp 0) (.cst (.int .i64 1)), none⟩, ⟨some 4, .mv (.tmp 1), none⟩]))
def mf59 : MFun := ⟨2, 9, .seq (.region [⟨some 2, .mv (.cst .nilS), none⟩]) (.seq (.region [⟨none, .mv (.var 0), none⟩, ⟨none, .mv (.var 1), none⟩, ⟨none, .call (.fn 63) [.tmp 0, .tmp 1], none⟩, ⟨some 3, .mv (.tmp 2), none⟩]) (.seq (.seq (.region [⟨none, .mv (.var 3), none⟩, ⟨some 6, .bin .eql (.tmp 0) (.cst (.int .i64 (-1))), none⟩]) (.cond (.var 6) (.seq (.region [⟨none, .mv (.var 0), none⟩, ⟨some 2, .mv (.tmp 0), none⟩]) .ret) .skip)) (.seq (.seq (.region [⟨none, .mv (.var 3), none⟩, ⟨none, .bin .add (.tmp 0) (.cst (.int .i64 1)), none⟩, ⟨some 4, .mv (.tmp 1), none⟩]) (.seq (.block 0 (.loop [2, 5, 6, 7, 8] lp59x0)) (.kill [1, 2, 4, 5, 6, 7, 8]))) (.seq (.region [⟨none, .mv (.var 0), none⟩, ⟨none, .mv (.var 3), none⟩, ⟨none, .sliceSl 3 (.tmp 0) (some (.tmp 1)) none, none⟩, ⟨none, .clear 3 (.agg [.int .i64 0, .str [], .int .i64 0]) (.tmp 2), none⟩]) (.seq (.region [⟨none, .mv (.var 0), none⟩, ⟨none, .mv (.var 3), none⟩, ⟨none, .sliceSl 3 (.tmp 0) none (some (.tmp 1)), none⟩, ⟨some 2, .mv (.tmp 2), none⟩]) .ret))))), [.tmp 2]⟩
def mask59x0 : List Nat := [2, 5, 6, 7, 8]
abbrev st59x0 (v0 v1 v3 v4 : AV) : List AV := [v0, v1, .undef, v3, v4, .undef, .undef, .undef, .undef]
theorem cl59x0 {v0 v1 d2 v3 v4 d5 d6 d7 d8 : AV} : clear mask59x0 [v0, v1, d2, v3, v4, d5, d6, d7, d8] = st59x0 v0 v1 v3 v4 := by simp only [mask59x0, clear, List.foldl_cons, List.foldl_nil, List.set_cons_zero, List.set_cons_succ]
theorem go59x0 {E : Env} {fuel : Nat} {A : Arena} {o : Out} {k : List KC} {v0 v1 d2 v3 v4 d5 d6 d7 d8 : AV} (h : iter (evC E fuel lp59x0) mask59x0 fuel (st59x0 v0 v1 v3 v4) A = some o) :
    run E fuel (.code (.loop [2, 5, 6, 7, 8] lp59x0) :: k) [v0, v1, d2, v3, v4, d5, d6, d7, d8] A = after E fuel k o := run_loopC mask59x0 _ _ (by rw [cl59x0]; exact h)
set_option maxHeartbeats 4000000 in
theorem comp59 : compFun Try.prog Try.f59 2 [0, 1, 4, 5, 6, 7, 12, 19, 29] [] true ([[2, 5, 6, 7, 8]], [[2, 5, 6, 7, 8], [1, 2, 4, 5, 6, 7, 8]]) = some mf59 := by kernel_rfl
theorem at59 : Try.prog.funcs[59]? = some Try.f59 := by kernel_rfl
def mf60 : MFun := ⟨2, 4, .seq (.region [⟨some 2, .box (.var 0), none⟩, ⟨some 3, .mv (.cst (.bool false)), none⟩]) (.seq (.region [⟨none, .fieldAddr 2 (.var 2), none⟩, ⟨none, .load false 1 (.tmp 0), none⟩, ⟨none, .bin .gtr (.tmp 1) (.cst (.int .i64 0)), none⟩, ⟨none, .mv (.tmp 2), none⟩, ⟨none, .fieldAddr 0 (.var 2), some (.tmp 3, true)⟩, ⟨none, .fieldAddr 0 (.tmp 4), some (.tmp 3, true)⟩, ⟨none, .load false 1 (.tmp 5), some (.tmp 3, true)⟩, ⟨none, .load false 1 (.var 1), some (.tmp 3, true)⟩, ⟨none, .bin .leq (.tmp 6) (.tmp 7), some (.tmp 3, true)⟩, ⟨none, .pick (.tmp 3) (.tmp 8) (.cst (.bool false)), none⟩, ⟨some 3, .mv (.tmp 9), none⟩]) .ret), [.tmp 3]⟩
set_option maxHeartbeats 4000000 in
theorem comp60 : compFun Try.prog Try.f60 2 [0, 1, 2, 3] [] true ([], []) = some mf60 := by kernel_rfl
theorem at60 : Try.prog.funcs[60]? = some Try.f60 := by kernel_rfl
def mf61 : MFun := ⟨1, 3, .seq (.region [⟨some 1, .box (.var 0), none⟩, ⟨some 2, .mv (.cst .nilF), none⟩]) (.seq (.region [⟨none, .makeFunc (.func 64) [] [.var 1], none⟩, ⟨some 2, .mv (.tmp 0), none⟩]) .ret), [.tmp 2]⟩
set_option maxHeartbeats 4000000 in
theorem comp61 : compFun Try.prog Try.f61 1 [0, 1, 2] [] false ([], []) = some mf61 := by kernel_rfl
theorem at61 : Try.prog.funcs[61]? = some Try.f61 := by kernel_rfl
def mf62 : MFun := ⟨1, 3, .seq (.region [⟨some 1, .mv (.cst (.int .u64 0)), none⟩]) (.seq (.seq (.region [⟨none, .mv (.var 0), none⟩, ⟨some 2, .bin .lss (.tmp 0) (.cst (.int .i64 0)), none⟩]) (.cond (.var 2) (.seq (.region [⟨none, .mv (.var 0), none⟩, ⟨none, .un .neg (.tmp 0), none⟩, ⟨none, .convInt .u64 (.tmp 1), none⟩, ⟨none, .bin .mul (.tmp 2) (.cst (.int .u64 2)), none⟩, ⟨none, .bin .sub (.tmp 3) (.cst (.int .u64 1)), none⟩, ⟨some 1, .mv (.tmp 4), none⟩]) .ret) .skip)) (.seq (.region [⟨none, .mv (.var 0), none⟩, ⟨none, .convInt .u64 (.tmp 0), none⟩, ⟨none, .bin .mul (.tmp 1) (.cst (.int .u64 2)), none⟩, ⟨some 1, .mv (.tmp 2), none⟩]) .ret)), [.tmp 1]⟩
set_option maxHeartbeats 4000000 in
theorem comp62 : compFun Try.prog Try.f62 1 [0, 2, 4] [] false ([], []) = some mf62 := by kernel_rfl
theorem at62 : Try.prog.funcs[62]? = some Try.f62 := by kernel_rfl
def lp63x0 : MC := .seq (.region [⟨some 6, .bin .lss (.var 5) (.var 4), none⟩]) (.seq (.cond (.var 6) .skip (.exit 0)) (.seq (.seq (.block 1 (.seq (.region [⟨none, .mv (.var 5), none⟩, ⟨some 3, .mv (.tmp 0), none⟩]) (.seq (.region [⟨none, .mv (.var 1), none⟩, ⟨none, .mv (.var 0), none⟩, ⟨none, .mv (.var 3), none⟩, ⟨none, .indexSl 3 (.tmp 1) (.tmp 2), none⟩, ⟨none, .load true 3 (.tmp 3), none⟩, ⟨some 7, .call (.tmp 0) [.tmp 4], none⟩]) (.cond (.var 7) (.seq (.region [⟨none, .mv (.var 3), none⟩, ⟨some 2, .mv (.tmp 0), none⟩]) .ret) .skip)))) (.kill [2, 3, 6, 7])) (.region [⟨none, .bin .add (.var 5) (.cst (.int .i64 1)), none⟩, ⟨some 5, .mv (.tmp 0), none⟩])))
def mf63 : MFun := ⟨2, 8, .seq (.region [⟨some 2, .mv (.cst (.int .i64 0)), none⟩]) (.seq (.seq (.region [⟨none, .mv (.var 0), none⟩, ⟨some 4, .lenSl (.tmp 0), none⟩, ⟨some 5, .mv (.cst (.int .i64 0)), none⟩]) (.seq (.block 0 (.loop [2, 3, 6, 7] lp63x0)) (.kill [0, 1, 2, 3, 4, 5, 6, 7]))) (.seq (.region [⟨some 2, .mv (.cst (.int .i64 (-1))), none⟩]) .ret)), [.tmp 2]⟩
def mask63x0 : List Nat := [2, 3, 6, 7]
abbrev st63x0 (v0 v1 v4 v5 : AV) : List AV := [v0, v1, .undef, .undef, v4, v5, .undef, .undef]
theorem cl63x0 {v0 v1 d2 d3 v4 v5 d6 d7 : AV} : clear mask63x0 [v0, v1, d2, d3, v4, v5, d6, d7] = st63x0 v0 v1 v4 v5 := by simp only [mask63x0, clear, List.foldl_cons, List.foldl_nil, List.set_cons_zero, List.set_cons_succ]
theorem go63x0 {E : Env} {fuel : Nat} {A : Arena} {o : Out} {k : List KC} {v0 v1 d2 d3 v4 v5 d6 d7 : AV} (h : iter (evC E fuel lp63x0) mask63x0 fuel (st63x0 v0 v1 v4 v5) A = some o) :
    run E fuel (.code (.loop [2, 3, 6, 7] lp63x0) :: k) [v0, v1, d2, d3, v4, v5, d6, d7] A = after E fuel k o := run_loopC mask63x0 _ _ (by rw [cl63x0]; exact h)
set_option maxHeartbeats 4000000 in
theorem comp63 : compFun Try.prog Try.f63 2 [0, 1, 4, 5, 7, 8, 9, 16] [] true ([[2, 3, 6, 7]], [[2, 3, 6, 7], [0, 1, 2, 3, 4, 5, 6, 7]]) = some mf63 := by kernel_rfl
theorem at63 : Try.prog.funcs[63]? = some Try.f63 := by kernel_rfl
def lp64x0 : MC := .block 1 (.seq (.region [⟨none, .load false 1 (.var 1), none⟩, ⟨none, .bin .lss (.tmp 0) (.cst (.int .u64 128)), none⟩, ⟨some 2, .mv (.tmp 1), none⟩]) (.seq (.seq (.region [⟨none, .mv (.var 0), none⟩, ⟨none, .load false 1 (.var 1), none⟩, ⟨none, .bin .and (.tmp 1) (.cst (.int .u64 127)), none⟩, ⟨none, .convInt .u8 (.tmp 2), none⟩, ⟨none, .mv (.var 2), none⟩, ⟨none, .call (.tmp 0) [.tmp 3, .tmp 4], none⟩, ⟨none, .un .not (.tmp 5), none⟩, ⟨none, .mv (.tmp 6), none⟩, ⟨none, .mv (.var 2), some (.tmp 7, false)⟩, ⟨some 3, .pick (.tmp 7) (.cst (.bool true)) (.tmp 8), none⟩]) (.cond (.var 3) .ret .skip)) (.region [⟨none, .load false 1 (.var 1), none⟩, ⟨none, .bin .shr (.tmp 0) (.cst (.int .u64 7)), none⟩, ⟨none, .store 1 (.var 1) (.tmp 1), none⟩])))
def mf64 : MFun := ⟨2, 4, .block 0 (.loop [2, 3] lp64x0), []⟩
def mask64x0 : List Nat := [2, 3]
abbrev st64x0 (v0 v1 : AV) : List AV := [v0, v1, .undef, .undef]
theorem cl64x0 {v0 v1 d2 d3 : AV} : clear mask64x0 [v0, v1, d2, d3] = st64x0 v0 v1 := by simp only [mask64x0, clear, List.foldl_cons, List.foldl_nil, List.set_cons_zero, List.set_cons_succ]
theorem go64x0 {E : Env} {fuel : Nat} {A : Arena} {o : Out} {k : List KC} {v0 v1 d2 d3 : AV} (h : iter (evC E fuel lp64x0) mask64x0 fuel (st64x0 v0 v1) A = some o) :
    run E fuel (.code (.loop [2, 3] lp64x0) :: k) [v0, v1, d2, d3] A = after E fuel k o := run_loopC mask64x0 _ _ (by rw [cl64x0]; exact h)
set_option maxHeartbeats 4000000 in
theorem comp64 : compFun Try.prog Try.f64 2 [0, 1, 3, 15] [] false ([[2, 3]], []) = some mf64 := by kernel_rfl
theorem at64 : Try.prog.funcs[64]? = some Try.f64 := by kernel_rfl
end Go.Proofs.Ytfidjdlmmcaplaa
/-
  Slices whose row may be stored into: what they hold, append, parts of an arena that stay. Program-independent.
-/
namespace Go.Proofs.Ytfidjdlmmcaplaa
open Go

/-- a slice from the beginning of a row -/
def SlP (esz : Nat) (A : Arena) (v : AV) (xs : List AV) : Prop := (v = .nilS ∧ xs = []) ∨ ∃ r es, v = .sl r 0 xs.length ∧ A[r]? = some (.row esz false es) ∧ es.take xs.length = xs
theorem SlP.nil {esz : Nat} {A : Arena} : SlP esz A .nilS [] := .inl ⟨rfl, rfl⟩
theorem SlP.keep {esz : Nat} {A B : Arena} {v : AV} {xs : List AV} (h : SlP esz A v xs) (hAB : ∀ j, j ∈ idsOf v → B[j]? = A[j]?) : SlP esz B v xs := by
  rcases h with h | ⟨r, es, h1, h2, h3⟩
  · exact .inl h
  · exact .inr ⟨r, es, h1, by rw [hAB r (by rw [h1]; simp [idsOf])]; exact h2, h3⟩
theorem SlP.low {esz : Nat} {A : Arena} {v : AV} {xs : List AV} (h : SlP esz A v xs) : ∀ j, j ∈ idsOf v → j < A.length := by
  rcases h with ⟨h, _⟩ | ⟨r, es, h1, h2, h3⟩
  · rw [h]; intro j hj; simp [idsOf] at hj
  · rw [h1]; intro j hj
    simp [idsOf] at hj
    subst hj
    exact (List.getElem?_eq_some_iff.1 h2).1
theorem SlP.len {esz : Nat} {A : Arena} {v : AV} {xs : List AV} (h : SlP esz A v xs) : evLenSl v = some (.int .i64 (xs.length : Int)) := by
  rcases h with ⟨h, h2⟩ | ⟨r, es, h1, _⟩
  · rw [h, h2]; rfl
  · rw [h1]; rfl
theorem SlP.src {esz : Nat} {A : Arena} {v : AV} {xs : List AV} (h : SlP esz A v xs) : srcElems esz A v = some xs := by
  rcases h with ⟨h, h2⟩ | ⟨r, es, h1, h2, h3⟩
  · rw [h, h2]; rfl
  · rw [h1]
    simp only [srcElems, h2]
    have : xs.length ≤ es.length := by
      have := congrArg List.length h3
      simp at this; omega
    simp [this, h3]
theorem SlP.index {esz : Nat} {A : Arena} {v : AV} {xs : List AV} (h : SlP esz A v xs) {i : Nat} (hi : i < xs.length) (he : 0 < esz) (k : IntKind) : ∃ r es, v = .sl r 0 xs.length ∧ A[r]? = some (.row esz false es) ∧ es[i]? = some xs[i] ∧ evIndexSl esz A v (.int k (i : Int)) = some (.ptr r i 0) := by
  rcases h with ⟨h, h2⟩ | ⟨r, es, h1, h2, h3⟩
  · rw [h2] at hi; simp at hi
  · refine ⟨r, es, h1, h2, ?_, ?_⟩
    · have : (es.take xs.length)[i]? = some xs[i] := by rw [h3]; exact List.getElem?_eq_getElem hi
      rw [List.getElem?_take, if_pos hi] at this
      exact this
    · rw [h1]
      have : (0 : Int) ≤ (i : Int) ∧ (i : Int) < (xs.length : Int) := by omega
      simp [evIndexSl, h2, this.1, hi]
      omega
/-- what is left of an arena -/
def Fr (A B : Arena) (own : List Nat) : Prop := A.length ≤ B.length ∧ ∀ j, j < A.length → j ∉ own → B[j]? = A[j]?
theorem Fr.refl (A : Arena) (own : List Nat) : Fr A A own := ⟨Nat.le_refl _, fun _ _ _ => rfl⟩
theorem Fr.trans {A B C : Arena} {o1 o2 : List Nat} (h1 : Fr A B o1) (h2 : Fr B C o2) (h : ∀ j, j ∈ o2 → j ∈ o1 ∨ A.length ≤ j) : Fr A C o1 := ⟨Nat.le_trans h1.1 h2.1, fun j hj hn => by
  rw [h2.2 j (Nat.lt_of_lt_of_le hj h1.1) (fun hm => (h j hm).elim hn (fun h => by omega)), h1.2 j hj hn]⟩
theorem Fr.mono {A B : Arena} {o1 o2 : List Nat} (h1 : Fr A B o1) (h : ∀ j, j < A.length → j ∈ o1 → j ∈ o2) : Fr A B o2 := ⟨h1.1, fun j hj hn => h1.2 j hj fun hm => hn (h j hj hm)⟩
theorem Fr.app (A X : Arena) (own : List Nat) : Fr A (A ++ X) own := ⟨by simp, fun j hj _ => List.getElem?_append_left hj⟩
theorem Fr.set (A : Arena) (i : Nat) (e : Ent) : Fr A (A.set i e) [i] := ⟨by simp, fun j _ hn => by
  rw [List.getElem?_set_ne]
  intro h; exact hn (by simp [h])⟩
theorem SlP.appendN {esz bytes : Nat} {A : Arena} {v x : AV} {xs ys : List AV} (h : SlP esz A v xs) (hx : srcElems esz A x = some ys) (hy : ys ≠ []) (he : 0 < esz) (hb : 0 < bytes) (hs : (xs.length + ys.length) * bytes ≤ 140737488355328) :
    ∃ B, evAppendN esz bytes A v x = some (.sl A.length 0 (xs ++ ys).length, B) ∧ SlP esz B (.sl A.length 0 (xs ++ ys).length) (xs ++ ys) ∧ Fr A B (idsOf v) ∧ B.length = A.length + 1 ∧ B[A.length]? = some (.row esz false (xs ++ ys)) := by
  have hy0 : ys.length ≠ 0 := fun h => hy (List.length_eq_zero_iff.1 h)
  rcases h with ⟨h, h2⟩ | ⟨r, es, h1, h2, h3⟩
  · subst h2; subst h
    refine ⟨A ++ [.row esz false ys], ?_, .inr ⟨A.length, ys, by simp, by simp, by simp⟩, Fr.app _ _ _, by simp, by simp⟩
    simp only [evAppendN, hx, if_neg hy0]
    rw [if_pos ⟨he, hb, by simpa using hs⟩]
    simp
  · have hr := (List.getElem?_eq_some_iff.1 h2).1
    refine ⟨A.set r .dead ++ [.row esz false (xs ++ ys)], ?_, .inr ⟨A.length, xs ++ ys, rfl, by rw [List.getElem?_append_right (by simp)]; simp, List.take_length⟩, ?_, by simp, by rw [List.getElem?_append_right (by simp)]; simp⟩
    · simp only [evAppendN, hx, h1, h2]
      rw [if_pos ⟨trivial, he, hb, hs⟩]
      simp [h3]
    · refine ⟨by simp, fun j hj hn => ?_⟩
      rw [List.getElem?_append_left (by simpa using hj), List.getElem?_set_ne]
      rintro rfl
      exact hn (by rw [h1]; simp [idsOf])
end Go.Proofs.Ytfidjdlmmcaplaa
/-
  Link, plain: frames, what an end holds, and what its functions make of it.
-/
namespace Go.Proofs.Ytfidjdlmmcaplaa
open Go

abbrev Bytes := List UInt8
structure FrS where
  fr : Int
  to : Int
  seq : Int
  ack : Int
  body : Bytes
structure QE where
  seq : Int
  body : Bytes
  at_ : Int
structure EndS where
  epoch : Int
  peer : Int
  queue : List QE
  next : Int
  received : Int
  owes : Bool
  ticks : Int
  heard : Bool
  hello : Int
  lost : List Bytes
def frA (f : FrS) : AV := .agg [.int .i64 f.fr, .int .i64 f.to, .int .i64 f.seq, .int .i64 f.ack, .str f.body]
def qA (q : QE) : AV := .agg [.int .i64 q.seq, .str q.body, .int .i64 q.at_]
def okF (f : FrS) : Prop := (1 ≤ f.fr ∧ f.fr ≤ 1000000) ∧ (0 ≤ f.to ∧ f.to ≤ 1000000) ∧ (0 ≤ f.seq ∧ f.seq ≤ 4611686018427387903) ∧ (0 ≤ f.ack ∧ f.ack ≤ 4611686018427387903) ∧ f.body.length ≤ 1024 ∧ (f.seq > 0 ∨ f.body = []) ∧ (f.to > 0 ∨ (f.seq = 0 ∧ f.ack = 0))
instance (f : FrS) : Decidable (okF f) := by unfold okF; infer_instance
def newS (e : Int) : EndS := ⟨e, 0, [], 1, 0, false, 0, false, 0, []⟩
def sendOk (S : EndS) (b : Bytes) : Prop := b.length ≤ 1024 ∧ S.queue.length < 64
instance (S : EndS) (b : Bytes) : Decidable (sendOk S b) := by unfold sendOk; infer_instance
def sendS (S : EndS) (b : Bytes) : EndS := { S with queue := S.queue ++ [⟨S.next, b, 0⟩], next := S.next + 1 }
def meetS (S : EndS) (p : Int) : EndS := if p = S.peer then S else
  if S.peer > 0 then { S with lost := S.lost ++ S.queue.map (·.body), queue := [], next := 1, peer := p, received := 0, heard := false } else { S with peer := p, received := 0, heard := false }
def keepQ (k : Int) (q : QE) : Bool := !(decide (q.at_ > 0) && decide (q.seq ≤ k))
def ackS (S : EndS) (k : Int) : EndS := { S with queue := S.queue.filter (keepQ k) }
def takes (S : EndS) (f : FrS) : Prop := okF f ∧ (f.to = 0 ∨ f.to = S.epoch) ∧ S.peer ≤ f.fr
instance (S : EndS) (f : FrS) : Decidable (takes S f) := by unfold takes; infer_instance
/-- after a frame to whom it may concern -/
def recS0 (S : EndS) (f : FrS) : EndS := { meetS S f.fr with owes := (meetS S f.fr).owes || (decide (f.to = 0) || decide (f.seq > 0)) }
def recS1 (S : EndS) (f : FrS) : EndS := ackS { recS0 S f with heard := true } f.ack
def receiveS (S : EndS) (f : FrS) : EndS × List Bytes :=
  if takes S f then
    (if f.to = 0 then (recS0 S f, [])
     else if f.seq = 0 ∨ f.seq ≠ (recS1 S f).received + 1 then (recS1 S f, []) else ({ recS1 S f with received := f.seq }, [f.body]))
  else (S, [])
/-- is something that was sent at a tick to be sent again at tick t? -/
def dueS (t a : Int) : Bool := decide (a = 0) || decide (t - a ≥ 3)
def frameS (S : EndS) (q : QE) : FrS := ⟨S.epoch, S.peer, q.seq, S.received, q.body⟩
def sentQ (t : Int) (h : Bool) (q : QE) : QE := if h && dueS t q.at_ then { q with at_ := t } else q
def outS (S : EndS) (t : Int) : List FrS := ((S.queue.take 8).filter fun q => S.heard && dueS t q.at_).map (frameS S)
def outO (S : EndS) (t : Int) : List FrS := if (outS S t).length = 0 ∧ S.owes = true then [⟨S.epoch, S.peer, 0, S.received, []⟩] else outS S t
/-- the part of a tick that needs a peer -/
def tick1 (S : EndS) : EndS × List FrS :=
  if S.peer > 0 then ({ S with ticks := S.ticks + 1, queue := (S.queue.take 8).map (sentQ (S.ticks + 1) S.heard) ++ S.queue.drop 8, owes := S.owes && decide ((outO S (S.ticks + 1)).length = 0) }, outO S (S.ticks + 1))
  else ({ S with ticks := S.ticks + 1 }, [])
def tickS (S : EndS) : EndS × List FrS :=
  if S.heard = false ∧ dueS (S.ticks + 1) S.hello = true then ({ (tick1 S).1 with hello := S.ticks + 1 }, (tick1 S).2 ++ [⟨S.epoch, 0, 0, 0, []⟩]) else tick1 S
/-- how an end lies in an arena: its row, its queue's and its lost messages' -/
def EndAt (A : Arena) (id : Nat) (S : EndS) (qv lv : AV) : Prop :=
  A[id]? = some (.row 10 false [.agg [.int .i64 S.epoch, .int .i64 S.peer, qv, .int .i64 S.next, .int .i64 S.received, .bool S.owes, .int .i64 S.ticks, .bool S.heard, .int .i64 S.hello, lv]]) ∧
  SlP 3 A qv (S.queue.map qA) ∧ SlP 1 A lv (S.lost.map .str) ∧ id ∉ idsOf qv ∧ id ∉ idsOf lv ∧ ∀ j, j ∈ idsOf qv → j ∉ idsOf lv
def own (id : Nat) (qv lv : AV) : List Nat := id :: (idsOf qv ++ idsOf lv)
theorem mem_own {id : Nat} {qv lv : AV} {j : Nat} : j ∈ own id qv lv ↔ j = id ∨ j ∈ idsOf qv ∨ j ∈ idsOf lv := by
  unfold own
  rw [List.mem_cons, List.mem_append]
theorem EndAt.low {A : Arena} {id : Nat} {S : EndS} {qv lv : AV} (h : EndAt A id S qv lv) : ∀ j, j ∈ own id qv lv → j < A.length := by
  obtain ⟨h1, h2, h3, _⟩ := h
  intro j hj
  rcases mem_own.1 hj with rfl | hj | hj
  · exact (List.getElem?_eq_some_iff.1 h1).1
  · exact h2.low j hj
  · exact h3.low j hj
theorem EndAt.keep {A B : Arena} {id : Nat} {S : EndS} {qv lv : AV} (h : EndAt A id S qv lv) (hAB : ∀ j, j ∈ own id qv lv → B[j]? = A[j]?) : EndAt B id S qv lv := by
  obtain ⟨h1, h2, h3, h4⟩ := h
  exact ⟨by rw [hAB id (mem_own.2 (.inl rfl))]; exact h1, h2.keep fun j hj => hAB j (mem_own.2 (.inr (.inl hj))), h3.keep fun j hj => hAB j (mem_own.2 (.inr (.inr hj))), h4⟩
/-- an end beside what is changed -/
theorem EndAt.beside {A B : Arena} {id : Nat} {S : EndS} {qv lv : AV} {o : List Nat} (h : EndAt A id S qv lv) (hF : Fr A B o) (hd : ∀ j, j ∈ own id qv lv → j ∉ o) : EndAt B id S qv lv :=
  h.keep fun j hj => hF.2 j (h.low j hj) (hd j hj)
end Go.Proofs.Ytfidjdlmmcaplaa
/-
  Wire: numbers drawn; zigzag; the reference's PutInt.
-/
namespace Go.Proofs.Ytfidjdlmmcaplaa
open Go

def GW : Nat → Option (List AV) := fun _ => none
theorem ev15 (E : Env) (a n : Int) (ha : inI a) (hn : 0 < n) : evP E 0 mf15 1 [.int .i64 a, .int .i64 n] = some (.int .i64 (pick a n)) := by
  have h3 : n ≠ 0 := by omega
  rw [evP_run _ _ rfl]
  by_cases h : a < 0
  · have h1 : IntKind.i64.wrap (a + 1) = a + 1 := wrapI (by unfold inI at *; omega)
    have h2 : IntKind.i64.wrap (-(a + 1)) = -(a + 1) := wrapI (by unfold inI at *; omega)
    simp [mf15, h, h1, h2, h3, pick]
  · simp [mf15, h, h3, pick]
def M15 : PModel := fun args => match args with
  | [.int .i64 a, .int .i64 n] => if (-9223372036854775808 ≤ a ∧ a ≤ 9223372036854775807) ∧ 0 < n then some (.int .i64 (pick a n)) else none
  | _ => none
theorem spec15 : PureSpec Try.prog GW 15 M15 := by
  refine PureSpec.of_ev (E := envOf GW []) (envOf_sound lookM_nil) rfl at15 comp15 1 ?_
  intro args r h
  unfold M15 at h
  split at h
  · simp only [Option.ite_none_right_eq_some, Option.some.injEq] at h
    obtain ⟨⟨h1, h2⟩, rfl⟩ := h
    exact ⟨0, ev15 _ _ _ h1 h2⟩
  · cases h
/-- n, folded -/
def zig (n : Int) : Nat := (if n < 0 then -n * 2 - 1 else n * 2).toNat
theorem ev62 (E : Env) (n : Int) (h1 : -4611686018427387903 ≤ n) (h2 : n ≤ 4611686018427387903) : evP E 0 mf62 1 [.int .i64 n] = some (.int .u64 (zig n)) := by
  rw [evP_run _ _ rfl]
  by_cases h : n < 0
  · have w1 : IntKind.i64.wrap (-n) = -n := wrapI (by unfold inI; omega)
    have w2 : IntKind.u64.wrap (-n) = -n := wrapU64 (by omega)
    have w3 : IntKind.u64.wrap (-n * 2) = -n * 2 := wrapU64 (by omega)
    have w3' : IntKind.u64.wrap (-(n * 2)) = -n * 2 := by rw [← w3]; congr 1; omega
    have w4 : IntKind.u64.wrap (-n * 2 - 1) = (zig n : Nat) := by rw [wrapU64 (by omega)]; unfold zig; rw [if_pos h]; omega
    have w4' : IntKind.u64.wrap (-(n * 2) - 1) = (zig n : Nat) := by rw [← w4]; congr 1; omega
    simp [mf62, h, w1, w2, w3, w3', w4, w4']
  · have w2 : IntKind.u64.wrap n = n := wrapU64 (by omega)
    have w3 : IntKind.u64.wrap (n * 2) = (zig n : Nat) := by rw [wrapU64 (by omega)]; unfold zig; rw [if_neg h]; omega
    simp [mf62, h, w2, w3]
def M62 : PModel := fun args => match args with
  | [.int .i64 n] => if -4611686018427387903 ≤ n ∧ n ≤ 4611686018427387903 then some (.int .u64 (zig n)) else none
  | _ => none
theorem spec62 : PureSpec Try.prog GW 62 M62 := by
  refine PureSpec.of_ev (E := envOf GW []) (envOf_sound lookM_nil) rfl at62 comp62 1 ?_
  intro args r h
  unfold M62 at h
  split at h
  · simp only [Option.ite_none_right_eq_some, Option.some.injEq] at h
    obtain ⟨⟨h1, h2⟩, rfl⟩ := h
    exact ⟨0, ev62 _ _ h1 h2⟩
  · cases h

/-- the groups of z -/
def enc (z : Nat) : List UInt8 := if h : z < 128 then [UInt8.ofNat z] else UInt8.ofNat (z % 128 + 128) :: enc (z / 128)
termination_by z
decreasing_by omega
theorem enc_lt {z : Nat} (h : z < 128) : enc z = [UInt8.ofNat z] := by rw [enc, dif_pos h]
theorem enc_ge {z : Nat} (h : ¬ z < 128) : enc z = UInt8.ofNat (z % 128 + 128) :: enc (z / 128) := by rw [enc, dif_neg h]
theorem enc_len (k : Nat) : ∀ z : Nat, z < 128 ^ (k + 1) → (enc z).length ≤ k + 1 := by
  induction k with
  | zero => intro z h; rw [enc_lt (by simpa using h)]; simp
  | succ k ih =>
    intro z h
    by_cases h1 : z < 128
    · rw [enc_lt h1]; simp
    · rw [enc_ge h1]
      have := ih (z / 128) (by rw [Nat.div_lt_iff_lt_mul (by omega)]; rw [Nat.pow_succ] at h; exact h)
      simp; omega

/-- what PutInt gives -/
def putInt (n : Int) : AV := if n < -4611686018427387903 ∨ 4611686018427387903 < n then .tup [.str [], .int .i64 10] else .tup [.str (enc (zig n)), .int .i64 0]
end Go.Proofs.Ytfidjdlmmcaplaa
/-
  Wire: the reference's PutInt.
-/
namespace Go.Proofs.Ytfidjdlmmcaplaa
open Go

theorem bytesA_append (l m : List UInt8) : bytesA (l ++ m) = bytesA l ++ bytesA m := by simp [bytesA]
theorem bytesA_length (l : List UInt8) : (bytesA l).length = l.length := by simp [bytesA]
theorem natu8 {n : Nat} (h : n < 256) : ((UInt8.ofNat n).toNat : Int) = n := by simp; omega

/-- a byte, appended -/
theorem append_byte {A : Arena} {o : AV} {l : List UInt8} (h : Full A o 1 (bytesA l)) (hl : l.length < 100) (b : Nat) (hb : b < 256) : ∃ o' A', evAppend 1 1 (A ++ [Ent.row 1 false [.int .u8 b]]) o (.sl A.length 0 1) = some (o', A') ∧ Full A' o' 1 (bytesA (l ++ [UInt8.ofNat b])) ∧ A.length ≤ A'.length ∧
    ∀ id, id < A.length → (∀ n, o ≠ .sl id 0 n) → A'[id]? = A[id]? := by
  obtain ⟨o', A', h1, h2, h3, h4⟩ := append_full (x := .sl A.length 0 1) (ys := [.int .u8 b]) (bytes := 1) (h.push (.row 1 false [.int .u8 b])) (srcElems_new A 1 false [.int .u8 b]) (by simp) (by simp) (by simp) (by simp [bytesA_length]; omega)
  refine ⟨o', A', h1, ?_, by simp at h3; omega, fun id hid hne => ?_⟩
  · rw [bytesA_append]; simpa only [bytesA, List.map_cons, List.map_nil, natu8 hb] using h2
  · rw [h4 id (by simp; omega) hne, List.getElem?_append_left hid]

theorem loop13_spec (E : Env) (fuel : Nat) : ∀ (k z : Nat), z < 128 ^ (k + 1) → z < 18446744073709551616 → ∀ (m : Nat) (l : List UInt8) (A : Arena) (o a0 a1 a2 a5 a6 : AV), k < m → l.length + k < 90 → Full A o 1 (bytesA l) →
    ∃ (z' : Nat) (l' : List UInt8) (A' : Arena) (o' : AV), iter (evC E fuel lp50x0) [0, 1, 2, 5, 6] m [a0, a1, a2, .int .u64 z, o, a5, a6] A = some (.exit 0 [.undef, .undef, .undef, .int .u64 z', o', .undef, .bool false] A') ∧
      Full A' o' 1 (bytesA l') ∧ z' < 128 ∧ l' ++ [UInt8.ofNat z'] = l ++ enc z ∧ l'.length ≤ l.length + k := by
  intro k
  induction k with
  | zero =>
    intro z hz hz2 m l A o a0 a1 a2 a5 a6 hm hl hF
    obtain ⟨m, rfl⟩ : ∃ j, m = j + 1 := ⟨m - 1, by omega⟩
    have hlt : z < 128 := by simpa using hz
    refine ⟨z, l, A, o, ?_, hF, hlt, by rw [enc_lt hlt], by omega⟩
    rw [iter_succ]
    have h1 : ¬ (128 : Int) ≤ z := by omega
    simp [lp50x0, h1]
  | succ k ih =>
    intro z hz hz2 m l A o a0 a1 a2 a5 a6 hm hl hF
    obtain ⟨m, rfl⟩ : ∃ j, m = j + 1 := ⟨m - 1, by omega⟩
    by_cases hlt : z < 128
    · refine ⟨z, l, A, o, ?_, hF, hlt, by rw [enc_lt hlt], by omega⟩
      rw [iter_succ]
      have h1 : ¬ (128 : Int) ≤ z := by omega
      simp [lp50x0, h1]
    · have h1 : (128 : Int) ≤ z := by omega
      obtain ⟨b, hb⟩ : ∃ b, b = z % 128 + 128 := ⟨_, rfl⟩
      obtain ⟨q, hq⟩ : ∃ q, q = z / 128 := ⟨_, rfl⟩
      have e1 : (z : Int).tmod 128 = (b : Int) - 128 := by rw [Int.tmod_eq_emod_of_nonneg (by omega)]; omega
      have e2 : IntKind.u64.wrap (b : Int) = b := wrapU64 (by omega)
      have e3 : IntKind.u8.wrap (b : Int) = b := wrapU8 (by omega)
      have e4 : (z : Int).tdiv 128 = q := by rw [Int.tdiv_eq_ediv_of_nonneg (by omega)]; omega
      have e5 : IntKind.u64.wrap (q : Int) = q := wrapU64 (by omega)
      obtain ⟨o', A', p1, p2, p3, p4⟩ := append_byte hF (by omega) b (by omega)
      obtain ⟨z', l', A'', o'', q1, q2, q3, q4, q5⟩ := ih q (by rw [hq, Nat.div_lt_iff_lt_mul (by omega)]; rw [Nat.pow_succ] at hz; exact hz) (by omega) m (l ++ [UInt8.ofNat b]) A' o' .undef .undef .undef .undef (.bool true) (by omega) (by simp; omega) p2
      refine ⟨z', l', A'', o'', ?_, q2, q3, by rw [q4, enc_ge hlt, hb, hq]; simp, by simp at q5; omega⟩
      have hbody : run E fuel [.code lp50x0] (clear [0, 1, 2, 5, 6] [a0, a1, a2, .int .u64 z, o, a5, a6]) A = some (.normal [.undef, .undef, .undef, .int .u64 q, o', .undef, .bool true] A') := by
        simp [lp50x0, h1, e1, e2, e3, e4, e5, p1]
      rw [iter_succ, hbody]
      exact q1

theorem zig_lt {n : Int} (h1 : -4611686018427387903 ≤ n) (h2 : n ≤ 4611686018427387903) : zig n < 9223372036854775807 := by
  unfold zig; split <;> omega

theorem ev50 (n : Int) (hn : inI n) : evP (envOf GW [(62, pureH 4 M62)]) 20 mf50 1 [.int .i64 n] = some (putInt n) := by
  rw [evP_run _ _ rfl]
  unfold putInt
  by_cases h : n < -4611686018427387903
  · simp [mf50, h]
  · by_cases h' : 4611686018427387903 < n
    · simp [mf50, h, h']
    · have hz := zig_lt (n := n) (by omega) (by omega)
      have hM : M62 [.int .i64 n] = some (.int .u64 (zig n)) := by simp [M62]; omega
      obtain ⟨z', l', A', o', q1, q2, q3, q4, q5⟩ := loop13_spec (envOf GW [(62, pureH 4 M62)]) 20 9 (zig n) (by omega) (by omega) 20 [] [] .nilS (.int .i64 n) (.str []) (.int .i64 0) (.bool false) .undef (by omega) (by simp) (.inl ⟨rfl, rfl⟩)
      have e3 : IntKind.u8.wrap (z' : Int) = z' := wrapU8 (by omega)
      obtain ⟨o'', A'', p1, p2, p3, p4⟩ := append_byte q2 (by simp at q5; omega) z' (by omega)
      have p5 := toStr_full p2
      rw [q4] at p5
      simp only [List.nil_append] at p5
      simp only [mf50]
      simp [h, h', hM, run_loop _ _ _ q1, e3, p1, p5]

def M50 : PModel := fun args => match args with
  | [.int .i64 n] => if -9223372036854775808 ≤ n ∧ n ≤ 9223372036854775807 then some (putInt n) else none
  | _ => none
theorem spec50 : PureSpec Try.prog GW 50 M50 := by
  refine PureSpec.of_ev (E := envOf GW [(62, pureH 4 M62)]) (envOf_sound (lookM_cons (FnSpecY.of_pure spec62 4) lookM_nil)) rfl at50 comp50 1 ?_
  intro args r h
  unfold M50 at h
  split at h
  · simp only [Option.ite_none_right_eq_some, Option.some.injEq] at h
    obtain ⟨h1, rfl⟩ := h
    exact ⟨20, ev50 _ h1⟩
  · cases h
end Go.Proofs.Ytfidjdlmmcaplaa
/-
  Wire: bits; groups; PutInt.
-/
namespace Go.Proofs.Ytfidjdlmmcaplaa
open Go

theorem ofInt_nat (k n : Nat) (h : n < 2 ^ k) : (BitVec.ofInt k (n : Int)).toNat = n := by
  simp [Nat.mod_eq_of_lt h]
theorem and127 (z : Nat) (h : z < 18446744073709551616) : andI .u64 (z : Int) 127 = (z % 128 : Nat) := by
  unfold andI
  have h2 : (BitVec.ofInt 64 (127 : Int)).toNat = 127 := by decide
  rw [show IntKind.u64.bits = 64 from rfl, BitVec.toNat_and, ofInt_nat 64 z (by omega), h2, show (127 : Nat) = 2 ^ 7 - 1 from rfl, Nat.and_two_pow_sub_one_eq_mod]
  rw [wrapU64 (by omega)]
theorem or128 (b : Nat) (h : b < 128) : orI .u8 (b : Int) 128 = (b + 128 : Nat) := by
  have : ∀ b : Fin 128, orI .u8 ((b : Nat) : Int) 128 = ((b : Nat) + 128 : Nat) := by decide
  exact this ⟨b, h⟩
theorem xor0 (x : Nat) (h : x < 18446744073709551616) : xorI .u64 (x : Int) 0 = x := by
  unfold xorI
  have h2 : (BitVec.ofInt 64 (0 : Int)) = 0#64 := by decide
  rw [show IntKind.u64.bits = 64 from rfl, h2, BitVec.xor_zero, ofInt_nat 64 x (by omega), wrapU64 (by omega)]
theorem xorAll (x : Nat) (h : x < 18446744073709551616) : xorI .u64 (x : Int) 18446744073709551615 = (18446744073709551615 - x : Nat) := by
  unfold xorI
  have h2 : (BitVec.ofInt 64 (18446744073709551615 : Int)) = BitVec.allOnes 64 := by decide
  rw [show IntKind.u64.bits = 64 from rfl, h2, BitVec.xor_allOnes, BitVec.toNat_not, ofInt_nat 64 x (by omega), wrapU64 (by omega)]
/-- zigzag, by shifts -/
theorem zigBits (n : Int) (h1 : -4611686018427387903 ≤ n) (h2 : n ≤ 4611686018427387903) :
    xorI .u64 (IntKind.u64.wrap (IntKind.u64.wrap n * 2 ^ 1)) (IntKind.u64.wrap (n.fdiv (2 ^ 63))) = (zig n : Nat) := by
  by_cases h : n < 0
  · have e1 : IntKind.u64.wrap n = 18446744073709551616 + n := by unfold IntKind.wrap; simp [IntKind.signed, IntKind.bits]; omega
    have e2 : IntKind.u64.wrap ((18446744073709551616 + n) * 2 ^ 1) = ((18446744073709551616 + 2 * n).toNat : Nat) := by unfold IntKind.wrap; simp [IntKind.signed, IntKind.bits]; omega
    have e3 : n.fdiv (2 ^ 63) = -1 := by rw [Int.fdiv_eq_ediv_of_nonneg _ (by decide)]; omega
    have e4 : IntKind.u64.wrap (-1) = 18446744073709551615 := by decide
    rw [e1, e2, e3, e4, xorAll _ (by omega)]
    unfold zig; rw [if_pos h]; omega
  · have e1 : IntKind.u64.wrap n = n := wrapU64 (by omega)
    have e2 : IntKind.u64.wrap (n * 2 ^ 1) = ((2 * n).toNat : Nat) := by rw [wrapU64 (by omega)]; omega
    have e3 : n.fdiv (2 ^ 63) = 0 := by rw [Int.fdiv_eq_ediv_of_nonneg _ (by decide)]; omega
    have e4 : IntKind.u64.wrap 0 = 0 := by decide
    rw [e1, e2, e3, e4, xor0 _ (by omega)]
    unfold zig; rw [if_neg h]; omega

theorem yieldH_normal {E : Env} {fuel n0 l : Nat} {r : Loop} {σ σ1 σ2 σ3 args : List AV} {ps : List Nat} {asg bdy : MC} {h : Handler} {A A2 A3 : Arena} (h1 : A[n0]? = some (.loop r 0)) (h2 : setAll σ ps args = some σ1)
    (h3 : run E fuel [.code asg] σ1 A = some (.normal σ2 A2)) (h4 : A2[n0]? = some (.loop r 0)) (h5 : run E fuel [.code bdy] σ2 (A2.set n0 .dead) = some (.normal σ3 A3)) :
    yieldH n0 l r σ ps (evC E fuel asg) (evC E fuel bdy) h (.func (.yield l) [] []) args A = some (.bool true, A3.set n0 (.loop r 0)) := by
  unfold yieldH
  simp only [evC_run, h1, h2, h3, h4, h5, and_self, if_true]

/-- a byte slice is no row of other content -/
theorem Full.ne_row {A : Arena} {o : AV} {l : List UInt8} (h : Full A o 1 (bytesA l)) {b : Nat} {gr : Bool} {a : AV} (hb : A[b]? = some (.row 1 gr [a])) (ha : ∀ x : Int, a ≠ .int .u8 x) : ∀ n, o ≠ .sl b 0 n := by
  rintro n rfl
  rcases h with ⟨h, _⟩ | ⟨id, gr', h1, h2⟩
  · cases h
  · cases h1
    rw [hb] at h2
    injection h2 with h2; injection h2 with _ _ h2
    cases l with
    | nil => simp [bytesA] at h2
    | cons x r =>
      simp [bytesA] at h2
      exact ha _ h2.1
theorem Full.ne_row' {A : Arena} {o o' : AV} {l : List UInt8} (h : Full A o 1 (bytesA l)) {b : Nat} {gr : Bool} (hb : A[b]? = some (.row 1 gr [o'])) (ho : ∀ x : Int, o' ≠ .int .u8 x) : ∀ n, o ≠ .sl b 0 n := h.ne_row hb ho
theorem Full.ne_loop {A : Arena} {o : AV} {l : List UInt8} (h : Full A o 1 (bytesA l)) {b : Nat} {r : Loop} {k : Nat} (hb : A[b]? = some (.loop r k)) : ∀ n, o ≠ .sl b 0 n := by
  rintro n rfl
  rcases h with ⟨h, _⟩ | ⟨id, gr', h1, h2⟩
  · cases h
  · cases h1; rw [hb] at h2; cases h2

theorem Full.row {A : Arena} {o : AV} {esz : Nat} {xs : List AV} (h : Full A o esz xs) (hx : xs ≠ []) : ∃ id, o = .sl id 0 xs.length ∧ id < A.length := by
  rcases h with ⟨_, h⟩ | ⟨id, gr, h1, h2⟩
  · exact absurd h hx
  · exact ⟨id, h1, (List.getElem?_eq_some_iff.1 h2).1⟩

/-- the loop's body: a group, appended -/
theorem round48 (E : Env) (fuel : Nat) (a0 a1 a2 a6 a7 a8 a9 a10 : AV) (c : Nat) (b : Nat) (hb : b < 128) (last : Bool) (A : Arena) (o : AV) (l : List UInt8) (hc : A[c]? = some (.row 1 false [o])) (hF : Full A o 1 (bytesA l)) (hl : l.length < 100) :
    ∃ σ3 A3 o', run E fuel [.code lp48x1] [a0, a1, a2, .ptr c 0 0, .int .u8 b, .bool last, a6, a7, a8, a9, a10] A = some (.normal σ3 A3) ∧ A3[c]? = some (.row 1 false [o']) ∧
      Full A3 o' 1 (bytesA (l ++ [UInt8.ofNat (if last then b else b + 128)])) ∧ (∀ id, id < A.length → id ≠ c → (∀ n, o ≠ .sl id 0 n) → A3[id]? = A[id]?) ∧ A.length ≤ A3.length := by
  obtain ⟨b', hb'⟩ : ∃ b', b' = if last then b else b + 128 := ⟨_, rfl⟩
  have hlt : b' < 256 := by rw [hb']; split <;> omega
  obtain ⟨o', A', p1, p2, p3, p4⟩ := append_byte hF hl b' hlt
  have hcl : c < A.length := (List.getElem?_eq_some_iff.1 hc).1
  have hnc : ∀ n, o ≠ .sl c 0 n := by
    rintro n rfl
    rcases hF with ⟨h, _⟩ | ⟨id, gr', h1, h2⟩
    · cases h
    · cases h1
      rw [hc] at h2
      injection h2 with h2; injection h2 with _ _ h2
      cases l with
      | nil => simp [bytesA] at h2
      | cons x r => simp [bytesA] at h2
  have hc' := (p4 c hcl hnc).trans hc
  have hou : ∀ x : Int, o ≠ .int .u8 x := by
    rintro x rfl
    rcases hF with ⟨h, _⟩ | ⟨id, gr', h1, _⟩
    · cases h
    · cases h1
  obtain ⟨id', rfl, hid'⟩ := p2.row (by simp [bytesA])
  have hne : id' ≠ c := by
    rintro rfl
    exact (p2.ne_row' hc' hou) _ rfl
  refine ⟨[a0, a1, a2, .ptr c 0 0, .int .u8 b', .bool last, a6, a7, a8, a9, .bool (!last)], A'.set c (.row 1 false [.sl id' 0 (bytesA (l ++ [UInt8.ofNat b'])).length]), .sl id' 0 (bytesA (l ++ [UInt8.ofNat b'])).length, ?_, by simp [show c < A'.length by omega], ?_, fun id hid hidc hn => ?_, by simpa using p3⟩
  rotate_left
  · rw [← hb']
    refine p2.keep fun id n e => ?_
    injection e with e1 e2 e3
    subst e1
    rw [List.getElem?_set_ne (Ne.symm hne)]
  · rw [List.getElem?_set_ne (Ne.symm hidc)]; exact p4 id hid hn
  · have hco : (A ++ [Ent.row 1 false [.int .u8 b']])[c]? = some (.row 1 false [o]) := by rw [List.getElem?_append_left hcl]; exact hc
    have hld : loadElem o 1 0 false 1 = some o := by
      rcases hF with ⟨rfl, _⟩ | ⟨id, gr', rfl, _⟩ <;> rfl
    cases last with
    | true =>
      simp at hb'; subst hb'
      simp [lp48x1, hc, hld, p1, hc', hne]
    | false =>
      have ho := or128 b hb
      simp at hb'
      rw [← hb'] at ho
      simp [lp48x1, hc, hld, ho, p1, hc', hne]
end Go.Proofs.Ytfidjdlmmcaplaa
/-
  Wire: groups and PutInt.
-/
namespace Go.Proofs.Ytfidjdlmmcaplaa
open Go

theorem Full.ne_dead {A : Arena} {o : AV} {esz : Nat} {xs : List AV} (h : Full A o esz xs) {b : Nat} (hb : A[b]? = some .dead) : ∀ n, o ≠ .sl b 0 n := by
  rintro n rfl
  rcases h with ⟨h, _⟩ | ⟨id, gr', h1, h2⟩
  · cases h
  · cases h1; rw [hb] at h2; cases h2
theorem Full.no_int {A : Arena} {o : AV} {esz : Nat} {xs : List AV} (h : Full A o esz xs) (k : IntKind) (x : Int) : o ≠ .int k x := by
  rintro rfl
  rcases h with ⟨h, _⟩ | ⟨id, gr', h1, _⟩
  · cases h
  · cases h1

theorem set_dead {A : Arena} {n0 : Nat} (h : A[n0]? = some .dead) : A.set n0 .dead = A := by
  apply List.ext_getElem?
  intro i
  by_cases e : n0 = i
  · subst e; rw [List.getElem?_set_self (List.getElem?_eq_some_iff.1 h).1, h]
  · rw [List.getElem?_set_ne e]

/-- what a yield does -/
theorem yield12 (E : Env) (fuel n0 : Nat) (a0 a1 a2 a4 a5 a6 a7 a8 a9 a10 : AV) (c b : Nat) (hb : b < 128) (last : Bool) (A : Arena) (o : AV) (l : List UInt8) (hn : A[n0]? = some .dead) (hc : A[c]? = some (.row 1 false [o]))
    (hF : Full A o 1 (bytesA l)) (hl : l.length < 100) :
    ∃ A' o', (∀ (L : Nat) (r : Loop) (h0 : Handler), yieldH n0 L r [a0, a1, a2, .ptr c 0 0, a4, a5, a6, a7, a8, a9, a10] [8, 9] (evC E fuel lp48x0) (evC E fuel lp48x1) h0 (.func (.yield L) [] []) [.int .u8 b, .bool last] (A.set n0 (.loop r 0)) = some (.bool true, A'.set n0 (.loop r 0))) ∧
      A'[n0]? = some .dead ∧ A'[c]? = some (.row 1 false [o']) ∧ Full A' o' 1 (bytesA (l ++ [UInt8.ofNat (if last then b else b + 128)])) ∧ (∀ id, id < A.length → id ≠ c → (∀ n, o ≠ .sl id 0 n) → A'[id]? = A[id]?) := by
  have hnc : n0 ≠ c := by rintro rfl; rw [hn] at hc; cases hc
  have hlt : n0 < A.length := (List.getElem?_eq_some_iff.1 hn).1
  have hon := hF.ne_dead hn
  obtain ⟨σ3, A3, o', q1, q2, q3, q4, q5⟩ := round48 E fuel a0 a1 a2 a6 a7 (.int .u8 b) (.bool last) a10 c b hb last A o l hc hF hl
  refine ⟨A3, o', fun L r h0 => ?_, (q4 n0 hlt hnc hon).trans hn, q2, q3, q4⟩
  refine yieldH_normal (σ1 := [a0, a1, a2, .ptr c 0 0, a4, a5, a6, a7, .int .u8 b, .bool last, a10]) (A2 := A.set n0 (.loop r 0)) (by simp [hlt]) rfl (by simp [lp48x0]) (by simp [hlt]) (σ2 := [a0, a1, a2, .ptr c 0 0, .int .u8 b, .bool last, a6, a7, .int .u8 b, .bool last, a10]) (σ3 := σ3) ?_
  rw [List.set_set, set_dead hn]; exact q1

theorem loop64 (E : Env) (fuel f2 n0 : Nat) (a0 a1 a2 a4 a5 a6 a7 a8 a9 a10 : AV) (c b : Nat) : ∀ (k z : Nat), z < 128 ^ (k + 1) → z < 18446744073709551616 →
    ∀ (m : Nat) (l : List UInt8) (A : Arena) (o b2 b3 : AV), k < m → l.length + k < 90 → A[b]? = some (.row 1 false [.int .u64 z]) → A[n0]? = some .dead → A[c]? = some (.row 1 false [o]) → Full A o 1 (bytesA l) →
    ∃ A' o', (∀ (L : Nat) (r : Loop) (h0 : Handler) (fs : List (FuncId × HModel)), iter (evC (envY GW fs (yieldH n0 L r [a0, a1, a2, .ptr c 0 0, a4, a5, a6, a7, a8, a9, a10] [8, 9] (evC E f2 lp48x0) (evC E f2 lp48x1) h0)) fuel lp64x0) [2, 3] m
        [.func (.yield L) [] [], .ptr b 0 0, b2, b3] (A.set n0 (.loop r 0)) = some (.ret [.func (.yield L) [] [], .ptr b 0 0, .bool true, .bool true] (A'.set n0 (.loop r 0)))) ∧
      A'[n0]? = some .dead ∧ A'[c]? = some (.row 1 false [o']) ∧ Full A' o' 1 (bytesA (l ++ enc z)) := by
  intro k
  have last : ∀ (z : Nat), z < 128 → z < 18446744073709551616 → ∀ (m : Nat) (l : List UInt8) (A : Arena) (o b2 b3 : AV), 0 < m → l.length < 90 → A[b]? = some (.row 1 false [.int .u64 z]) → A[n0]? = some .dead → A[c]? = some (.row 1 false [o]) → Full A o 1 (bytesA l) →
      ∃ A' o', (∀ (L : Nat) (r : Loop) (h0 : Handler) (fs : List (FuncId × HModel)), iter (evC (envY GW fs (yieldH n0 L r [a0, a1, a2, .ptr c 0 0, a4, a5, a6, a7, a8, a9, a10] [8, 9] (evC E f2 lp48x0) (evC E f2 lp48x1) h0)) fuel lp64x0) [2, 3] m
        [.func (.yield L) [] [], .ptr b 0 0, b2, b3] (A.set n0 (.loop r 0)) = some (.ret [.func (.yield L) [] [], .ptr b 0 0, .bool true, .bool true] (A'.set n0 (.loop r 0)))) ∧
      A'[n0]? = some .dead ∧ A'[c]? = some (.row 1 false [o']) ∧ Full A' o' 1 (bytesA (l ++ enc z)) := by
    intro z hlt hz2 m l A o b2 b3 hm hl hAb hAn hAc hF
    obtain ⟨m, rfl⟩ : ∃ j, m = j + 1 := ⟨m - 1, by omega⟩
    have h1 : (z : Int) < 128 := by omega
    have e1 : andI .u64 (z : Int) 127 = z := by rw [and127 z hz2, Nat.mod_eq_of_lt hlt]
    have e2 : IntKind.u8.wrap (z : Int) = z := wrapU8 (by omega)
    have hbn : n0 ≠ b := by rintro rfl; rw [hAb] at hAn; cases hAn
    obtain ⟨A', o', q1, q2, q3, q4, q5⟩ := yield12 E f2 n0 a0 a1 a2 a4 a5 a6 a7 a8 a9 a10 c z hlt true A o l hAn hAc hF (by omega)
    refine ⟨A', o', fun L r h0 fs => ?_, q2, q3, by simpa [enc_lt hlt] using q4⟩
    have hAb2 : (A.set n0 (.loop r 0))[b]? = some (.row 1 false [.int .u64 z]) := by rw [List.getElem?_set_ne hbn]; exact hAb
    have hbody : run (envY GW fs (yieldH n0 L r [a0, a1, a2, .ptr c 0 0, a4, a5, a6, a7, a8, a9, a10] [8, 9] (evC E f2 lp48x0) (evC E f2 lp48x1) h0)) fuel [.code lp64x0] (clear [2, 3] [.func (.yield L) [] [], .ptr b 0 0, b2, b3]) (A.set n0 (.loop r 0)) =
        some (.ret [.func (.yield L) [] [], .ptr b 0 0, .bool true, .bool true] (A'.set n0 (.loop r 0))) := by
      simp [lp64x0, hAb2, h1, e1, e2, q1]
    rw [iter_succ, hbody]
  induction k with
  | zero => exact fun z hz hz2 m l A o b2 b3 hm hl => last z (by simpa using hz) hz2 m l A o b2 b3 hm (by omega)
  | succ k ih =>
    intro z hz hz2 m l A o b2 b3 hm hl hAb hAn hAc hF
    by_cases hlt : z < 128
    · exact last z hlt hz2 m l A o b2 b3 (by omega) (by omega) hAb hAn hAc hF
    · obtain ⟨m, rfl⟩ : ∃ j, m = j + 1 := ⟨m - 1, by omega⟩
      have h1 : ¬ (z : Int) < 128 := by omega
      obtain ⟨g, hg⟩ : ∃ g, g = z % 128 := ⟨_, rfl⟩
      obtain ⟨q, hq⟩ : ∃ q, q = z / 128 := ⟨_, rfl⟩
      have e1 : andI .u64 (z : Int) 127 = g := by rw [and127 z hz2, hg]
      have e2 : IntKind.u8.wrap (g : Int) = g := wrapU8 (by omega)
      have e3 : (z : Int).fdiv 128 = q := by rw [Int.fdiv_eq_ediv_of_nonneg _ (by decide)]; omega
      obtain ⟨A', o', q1, q2, q3, q4, q5⟩ := yield12 E f2 n0 a0 a1 a2 a4 a5 a6 a7 a8 a9 a10 c g (by omega) false A o l hAn hAc hF (by omega)
      have hbl : b < A.length := (List.getElem?_eq_some_iff.1 hAb).1
      have hbc : b ≠ c := by
        rintro rfl
        rw [hAb] at hAc
        injection hAc with h; injection h with _ _ h; injection h with h
        exact hF.no_int _ _ h.symm
      have hbn : b ≠ n0 := by rintro rfl; rw [hAb] at hAn; cases hAn
      have hAb' := (q5 b hbl hbc (hF.ne_row hAb (by simp))).trans hAb
      have hbl' : b < A'.length := (List.getElem?_eq_some_iff.1 hAb').1
      have q4' : Full A' o' 1 (bytesA (l ++ [UInt8.ofNat (g + 128)])) := q4
      have hF2 : Full (A'.set b (.row 1 false [.int .u64 q])) o' 1 (bytesA (l ++ [UInt8.ofNat (g + 128)])) := by
        refine q4'.keep fun id n e => ?_
        rw [List.getElem?_set_ne]
        rintro rfl
        exact q4'.ne_row hAb' (by simp) n e
      obtain ⟨A'', o'', r1, r2, r3, r4⟩ := ih q (by rw [hq, Nat.div_lt_iff_lt_mul (by omega)]; rw [Nat.pow_succ] at hz; exact hz) (by omega) m (l ++ [UInt8.ofNat (g + 128)]) (A'.set b (.row 1 false [.int .u64 q])) o' (.bool false) (.bool false) (by omega) (by simp; omega)
        (by simp [hbl']) (by rw [List.getElem?_set_ne hbn]; exact q2) (by rw [List.getElem?_set_ne hbc]; exact q3) hF2
      refine ⟨A'', o'', fun L r h0 fs => ?_, r2, r3, by rw [enc_ge hlt, ← hg, ← hq]; simpa using r4⟩
      have hAb2 : (A.set n0 (.loop r 0))[b]? = some (.row 1 false [.int .u64 z]) := by rw [List.getElem?_set_ne (Ne.symm hbn)]; exact hAb
      have hAb3 : (A'.set n0 (.loop r 0))[b]? = some (.row 1 false [.int .u64 z]) := by rw [List.getElem?_set_ne (Ne.symm hbn)]; exact hAb'
      have hbody : run (envY GW fs (yieldH n0 L r [a0, a1, a2, .ptr c 0 0, a4, a5, a6, a7, a8, a9, a10] [8, 9] (evC E f2 lp48x0) (evC E f2 lp48x1) h0)) fuel [.code lp64x0] (clear [2, 3] [.func (.yield L) [] [], .ptr b 0 0, b2, b3]) (A.set n0 (.loop r 0)) =
          some (.normal [.func (.yield L) [] [], .ptr b 0 0, .bool false, .bool false] ((A'.set n0 (.loop r 0)).set b (.row 1 false [.int .u64 q]))) := by
        simp [lp64x0, hAb2, h1, e1, e2, e3, q1, hAb3]
      rw [iter_succ, hbody]
      simp only
      rw [List.set_comm _ _ (Ne.symm hbn)]
      exact r1 L r h0 fs

/-- groups: a function that yields -/
theorem ev61 (E : Env) (z : Int) (A : Arena) : evFun E 0 mf61 [.int .u64 z] A = some (.func (.func 64) [] [.ptr A.length 0 0], A ++ [.row 1 false [.int .u64 z]]) := by
  rw [evFun_run _ _ rfl]
  simp [mf61]
noncomputable def H61 : HModel := fun h => evFun (envY GW [] h) 0 mf61
noncomputable def H64 : HModel := fun h => evFun (envY GW [] h) 20 mf64
theorem spec61 : FnSpecY Try.prog GW 61 H61 := evFun_soundY lookM_nil at61 comp61
theorem spec64 : FnSpecY Try.prog GW 64 H64 := evFun_soundY lookM_nil at64 comp64
noncomputable def E48 : Env := envOf GW [(61, H61), (64, H64)]

theorem ev48 (n : Int) (hn : inI n) : evP E48 20 mf48 1 [.int .i64 n] = some (putInt n) := by
  rw [evP_run _ _ rfl]
  unfold putInt
  by_cases h : n < -4611686018427387903
  · simp [mf48, h]
  · by_cases h' : 4611686018427387903 < n
    · simp [mf48, h, h']
    · have hz := zig_lt (n := n) (by omega) (by omega)
      have hzb := zigBits n (by omega) (by omega)
      obtain ⟨σ, hσ⟩ : ∃ σ : List AV, σ = [.int .i64 n, .str [], .int .i64 0, .ptr 0 0 0, .undef, .undef, .bool false, .func (.func 64) [] [.ptr 1 0 0], .undef, .undef, .undef] := ⟨_, rfl⟩
      obtain ⟨σ, hσ⟩ : ∃ σ : List AV, σ = [.int .i64 n, .str [], .int .i64 0, .ptr 0 0 0, .undef, .undef, .bool false, .func (.func 64) [] [.ptr 1 0 0], .undef, .undef, .undef] := ⟨_, rfl⟩
      obtain ⟨A', o', q1, q2, q3, q4⟩ := loop64 E48 20 20 2 (.int .i64 n) (.str []) (.int .i64 0) .undef .undef (.bool false) (.func (.func 64) [] [.ptr 1 0 0]) .undef .undef .undef 0 1 9 (zig n) (by omega) (by omega) 20 []
        [.row 1 false [.nilS], .row 1 false [.int .u64 (zig n)], .dead] .nilS .undef .undef (by omega) (by simp) rfl rfl rfl (.inl ⟨rfl, rfl⟩)
      have hlen : 2 < A'.length := (List.getElem?_eq_some_iff.1 q2).1
      have hrange : run E48 20 [.code (.rangeFunc (.var 7) [8, 9] lp48x0 lp48x1)] σ [.row 1 false [.nilS], .row 1 false [.int .u64 (zig n)]] = some (.normal σ A') := by
        refine (run_rangeFunc _ _ _ _ (.normal σ A') fun L r => ?_).trans (by simp)
        have hq := q1 L r (fun _ _ _ => none) []
        simp only [List.set_cons_succ, List.set_cons_zero] at hq
        have hcall : E48.callY (yieldH 2 L r σ [8, 9] (evC E48 20 lp48x0) (evC E48 20 lp48x1) E48.hand) (evX E48 σ [] (.var 7)) [.func (.yield L) [] []] ([.row 1 false [.nilS], .row 1 false [.int .u64 (zig n)]] ++ [Ent.loop r 0]) = some (.tup [], A'.set 2 (.loop r 0)) := by
          have hx : evX E48 σ [] (.var 7) = .func (.func 64) [] [.ptr 1 0 0] := by rw [hσ]; rfl
          rw [hx]
          show H64 _ ([] ++ [.func (.yield L) [] []] ++ [.ptr 1 0 0]) _ = _
          unfold H64
          rw [evFun_run _ _ rfl]
          rw [hσ]
          have hq' := run_loop (k := [.blk 0]) _ _ _ hq
          simp only [envOf, envY, E48] at hq' ⊢
          simp [mf64, hq', envY]
        have hlen' : [Ent.row 1 false [.nilS], .row 1 false [.int .u64 (zig n)]].length = 2 := rfl
        rw [hlen', hcall]
        simp only [afterR]
        simp [hlen, List.set_set, set_dead q2]
      have hM : ∀ h A, H61 h [.int .u64 (zig n)] A = some (.func (.func 64) [] [.ptr A.length 0 0], A ++ [.row 1 false [.int .u64 (zig n)]]) := fun h A => ev61 _ _ A
      have hcall : ∀ (h : Handler) (A : Arena), callM [(61, H61), (64, H64)] h (.func (.func 61) [] []) [.int .u64 (zig n)] A = some (.func (.func 64) [] [.ptr A.length 0 0], A ++ [.row 1 false [.int .u64 (zig n)]]) := fun h A => hM h A
      have hld : loadElem o' 1 0 false 1 = some o' := by
        rcases q4 with ⟨rfl, _⟩ | ⟨id, gr', rfl, _⟩ <;> rfl
      have hstr := toStr_full q4
      rw [hσ] at hrange
      simp at hzb
      unfold E48 at hrange ⊢
      simp only [List.nil_append] at hstr
      simp [mf48, h, h', hzb, hcall, run_of hrange, q3, hld, hstr, -callM]

theorem spec48 : PureSpec Try.prog GW 48 M50 := by
  refine PureSpec.of_ev (E := E48) (envOf_sound (lookM_cons spec61 (lookM_cons spec64 lookM_nil))) rfl at48 comp48 1 ?_
  intro args r h
  unfold M50 at h
  split at h
  · simp only [Option.ite_none_right_eq_some, Option.some.injEq] at h
    obtain ⟨h1, rfl⟩ := h
    exact ⟨20, ev48 _ h1⟩
  · cases h
end Go.Proofs.Ytfidjdlmmcaplaa
/-
  Wire: decoding, in plain.
-/
namespace Go.Proofs.Ytfidjdlmmcaplaa
open Go

/-- groups, decoded, at most k of them: the number, the place of the last one, the last one -/
def dec : Nat → List UInt8 → Option (Nat × Nat × Nat)
  | 0, _ => none
  | _ + 1, [] => none
  | k + 1, b :: r => if b.toNat < 128 then some (b.toNat, 0, b.toNat) else (dec k r).map fun x => (b.toNat % 128 + 128 * x.1, x.2.1 + 1, x.2.2)

theorem dec_bound : ∀ (k : Nat) (l : List UInt8) (v i c : Nat), dec k l = some (v, i, c) → v < 128 ^ (i + 1) ∧ i < k ∧ i < l.length ∧ c < 128
  | 0, l, v, i, c, h => by cases h
  | k + 1, [], v, i, c, h => by cases h
  | k + 1, b :: r, v, i, c, h => by
    simp only [dec] at h
    split at h
    · simp only [Option.some.injEq, Prod.mk.injEq] at h
      obtain ⟨rfl, rfl, rfl⟩ := h
      exact ⟨by simpa, by omega, by simp, by assumption⟩
    · simp only [Option.map_eq_some_iff] at h
      obtain ⟨⟨v', i', c'⟩, h1, h2⟩ := h
      simp only [Prod.mk.injEq] at h2
      obtain ⟨rfl, rfl, rfl⟩ := h2
      obtain ⟨k1, k2, k3, k4⟩ := dec_bound k r v' i' c' h1
      refine ⟨?_, by omega, by simp; omega, k4⟩
      rw [Nat.pow_succ]
      have := Nat.mod_lt b.toNat (show 0 < 128 by omega)
      omega
theorem dec_zero : ∀ (k : Nat) (l : List UInt8) (i c : Nat), dec k l = some (0, i, c) → c = 0
  | 0, l, i, c, h => by cases h
  | k + 1, [], i, c, h => by cases h
  | k + 1, b :: r, i, c, h => by
    simp only [dec] at h
    split at h
    · simp only [Option.some.injEq, Prod.mk.injEq] at h
      omega
    · simp only [Option.map_eq_some_iff] at h
      obtain ⟨⟨v', i', c'⟩, h1, h2⟩ := h
      simp only [Prod.mk.injEq] at h2
      obtain ⟨h2, rfl, rfl⟩ := h2
      have : v' = 0 := by omega
      subst this
      exact dec_zero k r i' c' h1
theorem u8_ofNat_toNat (b : UInt8) : UInt8.ofNat b.toNat = b := by simp
theorem u8_lt (b : UInt8) : b.toNat < 256 := b.toNat_lt
/-- no shorter way to write it: the last group is not 0 -/
theorem dec_enc : ∀ (k : Nat) (l : List UInt8) (v i c : Nat), dec k l = some (v, i, c) → (enc v = l.take (i + 1) ↔ ¬ (c = 0 ∧ 0 < i))
  | 0, l, v, i, c, h => by cases h
  | k + 1, [], v, i, c, h => by cases h
  | k + 1, b :: r, v, i, c, h => by
    simp only [dec] at h
    split at h
    · rename_i hb
      simp only [Option.some.injEq, Prod.mk.injEq] at h
      obtain ⟨rfl, rfl, rfl⟩ := h
      rw [enc_lt hb]
      simp
    · rename_i hb
      simp only [Option.map_eq_some_iff] at h
      obtain ⟨⟨v', i', c'⟩, h1, h2⟩ := h
      simp only [Prod.mk.injEq] at h2
      obtain ⟨rfl, rfl, rfl⟩ := h2
      have ih := dec_enc k r v' i' c' h1
      have hb2 := u8_lt b
      have hlt := Nat.mod_lt b.toNat (show 0 < 128 by omega)
      by_cases hv : v' = 0
      · subst hv
        have hc := dec_zero k r i' c' h1
        rw [enc_lt (by omega)]
        refine ⟨fun h => ?_, fun h => absurd ⟨hc, by omega⟩ h⟩
        rw [List.take_succ_cons] at h
        injection h with h _
        have := congrArg UInt8.toNat h
        simp at this
        omega
      · rw [enc_ge (by omega), List.take_succ_cons]
        have e1 : (b.toNat % 128 + 128 * v') % 128 + 128 = b.toNat := by omega
        have e2 : (b.toNat % 128 + 128 * v') / 128 = v' := by omega
        rw [e1, e2, u8_ofNat_toNat]
        simp only [List.cons.injEq, true_and]
        rw [ih]
        constructor
        · rintro h ⟨h1', _⟩
          by_cases h0 : 0 < i'
          · exact h ⟨h1', h0⟩
          · have : i' = 0 := by omega
            subst this
            -- one group alone, which is 0
            cases k with
            | zero => cases h1
            | succ k => cases r with
              | nil => cases h1
              | cons b' r' =>
                simp only [dec] at h1
                split at h1
                · simp only [Option.some.injEq, Prod.mk.injEq] at h1
                  omega
                · simp only [Option.map_eq_some_iff] at h1
                  obtain ⟨x, _, hx⟩ := h1
                  simp at hx
        · rintro h ⟨h1', h2'⟩
          exact h ⟨h1', by omega⟩

/-- unfolded -/
def unzig (z : Nat) : Int := if z % 2 = 1 then -((z / 2 : Nat) : Int) - 1 else (z / 2 : Nat)
theorem zig_unzig (z : Nat) : zig (unzig z) = z := by
  unfold zig unzig
  split <;> split <;> omega

/-- what Int gives -/
def getInt (l : List UInt8) (a : Int) : AV :=
  if a < 0 ∨ (l.length : Int) < a then .tup [.int .i64 0, .int .i64 0, .int .i64 2] else
  match dec 9 (l.drop a.toNat) with
  | some (v, i, c) => if (c = 0 ∧ 0 < i) ∨ unzig v < -4611686018427387903 then .tup [.int .i64 0, .int .i64 0, .int .i64 10] else .tup [.int .i64 (unzig v), .int .i64 (a + i + 1), .int .i64 0]
  | none => .tup [.int .i64 0, .int .i64 0, .int .i64 10]

theorem orSum (k z g i : Nat) (hz : z < 2 ^ (7 * i)) (h : z + g * 2 ^ (7 * i) < 18446744073709551616) : orI .u64 (z : Int) ((g * 2 ^ (7 * i) : Nat) : Int) = (z + g * 2 ^ (7 * i) : Nat) := by
  unfold orI
  rw [show IntKind.u64.bits = 64 from rfl, BitVec.toNat_or, ofInt_nat 64 z (by omega), ofInt_nat 64 _ (by omega)]
  have : z ||| g * 2 ^ (7 * i) = z + g * 2 ^ (7 * i) := by
    rw [← Nat.shiftLeft_eq, Nat.or_comm, Nat.add_comm]
    exact (Nat.shiftLeft_add_eq_or_of_lt hz g).symm
  rw [this, wrapU64 (by omega)]
set_option maxRecDepth 100000 in
theorem and127b (b : UInt8) : andI .u8 (b.toNat : Int) 127 = (b.toNat % 128 : Nat) := by
  have : ∀ b : Fin 256, andI .u8 ((b : Nat) : Int) 127 = ((b : Nat) % 128 : Nat) := by decide
  exact this ⟨b.toNat, u8_lt b⟩
theorem and1 (z : Nat) (h : z < 18446744073709551616) : andI .u64 (z : Int) 1 = (z % 2 : Nat) := by
  unfold andI
  have h2 : (BitVec.ofInt 64 (1 : Int)).toNat = 1 := by decide
  rw [show IntKind.u64.bits = 64 from rfl, BitVec.toNat_and, ofInt_nat 64 z (by omega), h2, show (1 : Nat) = 2 ^ 1 - 1 from rfl, Nat.and_two_pow_sub_one_eq_mod]
  rw [wrapU64 (by omega)]
theorem unzigBits (z : Nat) (h : z < 9223372036854775808) : xorI .i64 ((z / 2 : Nat) : Int) (if z % 2 = 1 then -1 else 0) = unzig z := by
  unfold xorI unzig
  split
  · have h2 : (BitVec.ofInt 64 (-1 : Int)) = BitVec.allOnes 64 := by decide
    rw [show IntKind.i64.bits = 64 from rfl, h2, BitVec.xor_allOnes, BitVec.toNat_not, ofInt_nat 64 _ (by omega)]
    unfold IntKind.wrap; simp [IntKind.signed, IntKind.bits]; omega
  · have h2 : (BitVec.ofInt 64 (0 : Int)) = 0#64 := by decide
    rw [show IntKind.i64.bits = 64 from rfl, h2, BitVec.xor_zero, ofInt_nat 64 _ (by omega)]
    exact wrapI (by unfold inI; omega)
end Go.Proofs.Ytfidjdlmmcaplaa
/-
  Wire: Int.
-/
namespace Go.Proofs.Ytfidjdlmmcaplaa
open Go

def mask52 : List Nat := [2, 3, 4, 6, 7, 8, 9, 11, 12, 13, 14]

theorem pow128 (i : Nat) : 128 ^ i = 2 ^ (7 * i) := by rw [Nat.pow_mul]
theorem pow_le9 {i : Nat} (h : i ≤ 9) : 2 ^ (7 * i) ≤ 9223372036854775808 := by
  calc 2 ^ (7 * i) ≤ 2 ^ 63 := Nat.pow_le_pow_right (by omega) (by omega)
    _ = _ := by decide

theorem loop52 (E : Env) (fuel : Nat) (s : List UInt8) (a : Nat) (hs : s.length ≤ 1000000000) (ha : a ≤ s.length) (A : Arena) : ∀ (k i z : Nat), i + k = 9 → z < 128 ^ i → ∀ (m : Nat) (b2 b3 b4 b6 b7 b8 b9 b11 b12 b13 b14 : AV), k < m →
    ∃ out, iter (evC E fuel lp52x0) mask52 m [.str s, .int .i64 a, b2, b3, b4, .int .u64 z, b6, b7, b8, b9, .int .i64 i, b11, b12, b13, b14] A = some out ∧
      match dec k (s.drop (a + i)) with
      | none => ∃ σ, out = .exit 0 σ A ∧ σ.length = 15
      | some (v, j, c) => if (c = 0 ∧ 0 < i + j) ∨ unzig (z + 128 ^ i * v) < -4611686018427387903 then ∃ σ, out = .exit 0 σ A ∧ σ.length = 15
        else ∃ σ, out = .ret σ A ∧ σ[2]? = some (.int .i64 (unzig (z + 128 ^ i * v))) ∧ σ[3]? = some (.int .i64 (a + i + j + 1)) ∧ σ[4]? = some (.int .i64 0) := by
  intro k
  induction k with
  | zero =>
    intro i z hik hz m b2 b3 b4 b6 b7 b8 b9 b11 b12 b13 b14 hm
    obtain ⟨m, rfl⟩ : ∃ j, m = j + 1 := ⟨m - 1, by omega⟩
    obtain rfl : i = 9 := by omega
    refine ⟨.exit 0 [.str s, .int .i64 a, .undef, .undef, .undef, .int .u64 z, .undef, .undef, .undef, .undef, .int .i64 9, .bool false, .undef, .undef, .undef] A, ?_, _, rfl, rfl⟩
    rw [iter_succ]
    simp [lp52x0, mask52]
  | succ k ih =>
    intro i z hik hz m b2 b3 b4 b6 b7 b8 b9 b11 b12 b13 b14 hm
    obtain ⟨m, rfl⟩ : ∃ j, m = j + 1 := ⟨m - 1, by omega⟩
    have hi9 : (i : Int) < 9 := by omega
    obtain ⟨p, hp⟩ : ∃ p, p = a + i := ⟨_, rfl⟩
    have w1 : IntKind.i64.wrap ((a : Int) + i) = p := by rw [wrapI (by unfold inI; omega)]; omega
    by_cases hend : p < s.length
    · obtain ⟨b, hb⟩ : ∃ b, s[p]? = some b := ⟨s[p], by simp [hend]⟩
      have hdrop : s.drop (a + i) = b :: s.drop (a + (i + 1)) := by
        rw [← hp, List.drop_eq_getElem_cons hend, show a + (i + 1) = p + 1 by omega]
        rw [List.getElem?_eq_getElem hend] at hb
        injection hb with hb; rw [hb]
      have hge : ¬ (s.length : Int) ≤ (p : Int) := by omega
      have hbl := u8_lt b
      obtain ⟨g, hg⟩ : ∃ g, g = b.toNat % 128 := ⟨_, rfl⟩
      have e1 : andI .u8 (b.toNat : Int) 127 = g := by rw [and127b, hg]
      have e2 : IntKind.u64.wrap (g : Int) = g := wrapU64 (by omega)
      obtain ⟨s7, hs7⟩ : ∃ s7, s7 = 7 * i := ⟨_, rfl⟩
      have e3 : IntKind.i64.wrap (7 * (i : Int)) = s7 := by rw [wrapI (by unfold inI; omega)]; omega
      have h7 : ¬ (s7 : Int) < 0 := by omega
      have hp9 := pow_le9 (show i + 1 ≤ 9 by omega)
      have hp1 : 2 ^ (7 * (i + 1)) = 128 * 2 ^ (7 * i) := by rw [Nat.mul_add, Nat.pow_add]; omega
      have hz2 : z < 2 ^ (7 * i) := by rw [← pow128]; exact hz
      obtain ⟨gp, hgp⟩ : ∃ gp, gp = g * 2 ^ (7 * i) := ⟨_, rfl⟩
      have hgm : gp ≤ 127 * 2 ^ (7 * i) := by rw [hgp]; exact Nat.mul_le_mul_right _ (by omega)
      have e4 : IntKind.u64.wrap ((g : Int) * 2 ^ (min s7 64)) = gp := by
        rw [show min s7 64 = 7 * i by omega]
        have : (g : Int) * 2 ^ (7 * i) = (gp : Nat) := by rw [hgp]; push_cast; rfl
        rw [this]
        exact wrapU64 (by omega)
      obtain ⟨z2, hz3⟩ : ∃ z2, z2 = z + gp := ⟨_, rfl⟩
      have e5 : orI .u64 (z : Int) (gp : Int) = z2 := by rw [hz3, hgp]; exact orSum 64 z g i hz2 (by omega)
      have hz4 : z2 < 9223372036854775808 := by omega
      have hz5 : z2 < 128 ^ (i + 1) := by rw [pow128, hp1]; omega
      have hmask : clear mask52 [.str s, .int .i64 a, b2, b3, b4, .int .u64 z, b6, b7, b8, b9, .int .i64 i, b11, b12, b13, b14] = [.str s, .int .i64 a, .undef, .undef, .undef, .int .u64 z, .undef, .undef, .undef, .undef, .int .i64 i, .undef, .undef, .undef, .undef] := rfl
      by_cases hcont : 128 ≤ b.toNat
      · have h128 : (128 : Int) ≤ b.toNat := by omega
        have w2 : IntKind.i64.wrap ((i : Int) + 1) = ((i + 1 : Nat) : Int) := by rw [wrapI (by unfold inI; omega)]; omega
        have hbody : run E fuel [.code lp52x0] (clear mask52 [.str s, .int .i64 a, b2, b3, b4, .int .u64 z, b6, b7, b8, b9, .int .i64 i, b11, b12, b13, b14]) A =
            some (.normal [.str s, .int .i64 a, .undef, .undef, .undef, .int .u64 z2, .int .i64 i, .int .u8 b.toNat, .undef, .undef, .int .i64 ((i + 1 : Nat) : Int), .bool true, .bool false, .bool true, .undef] A) := by
          rw [hmask]
          obtain ⟨i1, hi1⟩ : ∃ i1, i1 = i + 1 := ⟨_, rfl⟩
          rw [← hi1] at w2 ⊢
          simp [lp52x0, hi9, w1, hge, hb, e1, e2, e3, h7, e4, e5, h128, w2]
        obtain ⟨out, q1, q2⟩ := ih (i + 1) z2 (by omega) hz5 m .undef .undef .undef (.int .i64 i) (.int .u8 b.toNat) .undef .undef (.bool true) (.bool false) (.bool true) .undef (by omega)
        refine ⟨out, ?_, ?_⟩
        · rw [iter_succ, hbody]; exact q1
        · rw [hdrop]
          simp only [dec, if_neg (show ¬ b.toNat < 128 by omega)]
          cases hd : dec k (s.drop (a + (i + 1))) with
          | none => rw [hd] at q2; exact q2
          | some x =>
            obtain ⟨v, j, c⟩ := x
            rw [hd] at q2
            simp only [Option.map_some]
            simp only at q2
            have ez : z + 128 ^ i * (b.toNat % 128 + 128 * v) = z2 + 128 ^ (i + 1) * v := by
              rw [hz3, hgp, hg, ← pow128, Nat.pow_succ, Nat.mul_add, Nat.mul_comm (b.toNat % 128), Nat.mul_assoc]; omega
            have ej : i + (j + 1) = i + 1 + j := by omega
            rw [ez, ej]
            have ej2 : (a : Int) + i + ((j + 1 : Nat) : Int) + 1 = a + ((i + 1 : Nat) : Int) + j + 1 := by omega
            rw [ej2]
            exact q2
      · have hnc : ¬ (128 : Int) ≤ b.toNat := by omega
        rw [hdrop]
        simp only [dec, if_pos (show b.toNat < 128 by omega)]
        have ez : z + 128 ^ i * b.toNat = z2 := by rw [hz3, hgp, hg, ← pow128, Nat.mod_eq_of_lt (by omega), Nat.mul_comm]
        rw [ez]
        obtain ⟨z', hz'⟩ : ∃ z', z' = z2 / 2 := ⟨_, rfl⟩
        obtain ⟨o, ho⟩ : ∃ o, o = z2 % 2 := ⟨_, rfl⟩
        have f1 : (z2 : Int).fdiv 2 = z' := by rw [Int.fdiv_eq_ediv_of_nonneg _ (by decide)]; omega
        have f2 : IntKind.i64.wrap (z' : Int) = z' := wrapI (by unfold inI; omega)
        have f3 : andI .u64 (z2 : Int) 1 = o := by rw [and1 z2 (by omega), ho]
        have f4 : IntKind.i64.wrap (o : Int) = o := wrapI (by unfold inI; omega)
        obtain ⟨no, hno⟩ : ∃ no : Int, no = if z2 % 2 = 1 then -1 else 0 := ⟨_, rfl⟩
        have f5 : IntKind.i64.wrap (-(o : Int)) = no := by rw [wrapI (by unfold inI; omega), hno]; split <;> omega
        obtain ⟨n, hn⟩ : ∃ n, n = unzig z2 := ⟨_, rfl⟩
        have f6 : xorI .i64 (z' : Int) no = n := by rw [hz', hno, hn]; exact unzigBits z2 hz4
        rw [← hn]
        obtain ⟨p1, hp1'⟩ : ∃ p1 : Int, p1 = a + i + 1 := ⟨_, rfl⟩
        have f7 : IntKind.i64.wrap ((p : Int) + 1) = p1 := by rw [wrapI (by unfold inI; omega)]; omega
        by_cases hz0 : b.toNat = 0 ∧ 0 < i
        · refine ⟨.exit 0 [.str s, .int .i64 a, .undef, .undef, .undef, .int .u64 z2, .int .i64 i, .int .u8 b.toNat, .int .i64 n, .undef, .int .i64 i, .bool true, .bool false, .bool false, .bool true] A, ?_, ?_⟩
          · rw [iter_succ, hmask]
            have hi0 : (0 < i) = True := eq_true hz0.2
            have hb0 : (b.toNat = 0) = True := eq_true hz0.1
            simp [lp52x0, hi9, w1, hge, hb, e1, e2, e3, h7, e4, e5, hnc, f1, f2, f3, f4, f5, f6, hb0, hi0]
          · rw [if_pos (.inl (by omega))]; exact ⟨_, rfl, rfl⟩
        · have hguard : (b.toNat = 0) = False ∨ ((b.toNat = 0) = True ∧ (0 < i) = False) := by
            by_cases h : b.toNat = 0
            · exact .inr ⟨eq_true h, eq_false fun h2 => hz0 ⟨h, h2⟩⟩
            · exact .inl (eq_false h)
          by_cases hn0 : n < -4611686018427387903
          · refine ⟨.exit 0 [.str s, .int .i64 a, .undef, .undef, .undef, .int .u64 z2, .int .i64 i, .int .u8 b.toNat, .int .i64 n, .undef, .int .i64 i, .bool true, .bool false, .bool false, .bool true] A, ?_, ?_⟩
            · rw [iter_succ, hmask]
              rcases hguard with hb0 | ⟨hb0, hi0⟩
              · simp [lp52x0, hi9, w1, hge, hb, e1, e2, e3, h7, e4, e5, hnc, f1, f2, f3, f4, f5, f6, hb0, hn0]
              · simp [lp52x0, hi9, w1, hge, hb, e1, e2, e3, h7, e4, e5, hnc, f1, f2, f3, f4, f5, f6, hb0, hi0, hn0]
            · rw [if_pos (.inr hn0)]; exact ⟨_, rfl, rfl⟩
          · refine ⟨.ret [.str s, .int .i64 a, .int .i64 n, .int .i64 p1, .int .i64 0, .int .u64 z2, .int .i64 i, .int .u8 b.toNat, .int .i64 n, .undef, .int .i64 i, .bool true, .bool false, .bool false, .bool false] A, ?_, ?_⟩
            · rw [iter_succ, hmask]
              rcases hguard with hb0 | ⟨hb0, hi0⟩
              · simp [lp52x0, hi9, w1, hge, hb, e1, e2, e3, h7, e4, e5, hnc, f1, f2, f3, f4, f5, f6, hb0, hn0, f7]
              · simp [lp52x0, hi9, w1, hge, hb, e1, e2, e3, h7, e4, e5, hnc, f1, f2, f3, f4, f5, f6, hb0, hi0, hn0, f7]
            · rw [if_neg (by rintro (h | h) <;> omega)]
              exact ⟨_, rfl, rfl, by rw [hp1']; simp, rfl⟩
    · have hge : (s.length : Int) ≤ (p : Int) := by omega
      have hdrop : s.drop (a + i) = [] := List.drop_eq_nil_of_le (by omega)
      rw [hdrop]
      refine ⟨.exit 0 [.str s, .int .i64 a, .undef, .undef, .undef, .int .u64 z, .int .i64 i, .undef, .undef, .undef, .int .i64 i, .bool true, .bool true, .undef, .undef] A, ?_, _, rfl, rfl⟩
      rw [iter_succ]
      simp [lp52x0, mask52, hi9, w1, hge]
end Go.Proofs.Ytfidjdlmmcaplaa

/-
  Wire: Int, PutString, String.
-/
namespace Go.Proofs.Ytfidjdlmmcaplaa
open Go

theorem ev52 (E : Env) (l : List UInt8) (a : Int) (hl : l.length ≤ 1000000000) : evP E 20 mf52 1 [.str l, .int .i64 a] = some (getInt l a) := by
  rw [evP_run _ _ rfl]
  unfold getInt
  by_cases h : a < 0
  · simp [mf52, h]
  · by_cases h' : (l.length : Int) < a
    · simp [mf52, h, h']
    · obtain ⟨n, rfl⟩ : ∃ n : Nat, a = n := ⟨a.toNat, by omega⟩
      obtain ⟨out, q1, q2⟩ := loop52 E 20 l n hl (by omega) [] 9 0 0 rfl (by simp) 20 (.int .i64 0) (.int .i64 0) (.int .i64 0) .undef .undef .undef (.bool false) .undef .undef .undef .undef (by omega)
      have hrun := fun k => run_loop (k := k) _ _ _ q1
      simp only [Nat.add_zero, mask52, Int.natCast_zero, Int.cast_ofNat_Int] at hrun q2
      have hif : ¬ ((n : Int) < 0 ∨ (l.length : Int) < n) := by omega
      rw [if_neg hif]
      simp only [Int.toNat_natCast]
      have hex : ∀ σ : List AV, out = .exit 0 σ [] → σ.length = 15 → (match run E 20 [.code mf52.mc] ([.str l, .int .i64 (n : Int)] ++ List.replicate (mf52.len - mf52.n) .undef) [] with
          | some (.normal σ A') => (evRes A' σ mf52.res).map fun l => frz A' 1 (pack l)
          | some (.ret σ A') => (evRes A' σ mf52.res).map fun l => frz A' 1 (pack l)
          | _ => none) = some (.tup [.int .i64 0, .int .i64 0, .int .i64 10]) := by
        rintro σ rfl hσ
        simp [mf52, h', hrun, hσ]
      cases hd : dec 9 (l.drop n) with
      | none =>
        rw [hd] at q2
        obtain ⟨σ, h1, h2⟩ := q2
        exact hex σ h1 h2
      | some x =>
        obtain ⟨v, i, c⟩ := x
        rw [hd] at q2
        simp only [Nat.pow_zero, Nat.one_mul, Nat.zero_add, Int.add_zero] at q2 ⊢
        split at q2
        · rename_i hc
          obtain ⟨σ, h1, h2⟩ := q2
          rw [if_pos hc]
          exact hex σ h1 h2
        · rename_i hc
          obtain ⟨σ, rfl, h2, h3, h4⟩ := q2
          rw [if_neg hc]
          simp [mf52, h', hrun, h2, h3, h4]

def M52 : PModel := fun args => match args with
  | [.str l, .int .i64 a] => if l.length ≤ 1000000000 then some (getInt l a) else none
  | _ => none
theorem spec52 : PureSpec Try.prog GW 52 M52 := by
  refine PureSpec.of_ev (E := envOf GW []) (envOf_sound lookM_nil) rfl at52 comp52 1 ?_
  intro args r h
  unfold M52 at h
  split at h
  · simp only [Option.ite_none_right_eq_some, Option.some.injEq] at h
    obtain ⟨h1, rfl⟩ := h
    exact ⟨20, ev52 _ _ _ h1⟩
  · cases h

/-- what PutString gives -/
def putStr (l : List UInt8) : AV := if 65536 < l.length then .tup [.str [], .int .i64 10] else .tup [.str (enc (zig l.length) ++ l), .int .i64 0]
theorem zig_nat (n : Nat) : zig (n : Int) = 2 * n := by unfold zig; split <;> omega
theorem enc_len10 {z : Nat} (h : z < 9223372036854775808) : (enc z).length ≤ 9 := enc_len 8 z (by omega)
theorem ev49 (l : List UInt8) : evP (envOf GW [(48, pureH 4 M50)]) 0 mf49 1 [.str l] = some (putStr l) := by
  rw [evP_run _ _ rfl]
  unfold putStr
  by_cases h : 65536 < l.length
  · have h' : (65536 : Int) < l.length := by omega
    simp [mf49, h, h']
  · have h' : ¬ (65536 : Int) < l.length := by omega
    have hm : M50 [.int .i64 (l.length : Int)] = some (.tup [.str (enc (zig l.length)), .int .i64 0]) := by
      simp only [M50, putInt]
      rw [if_pos (by omega), if_neg (by omega)]
    have hz : (enc (zig l.length)).length ≤ 9 := enc_len10 (by rw [zig_nat]; omega)
    have hb : (enc (zig l.length)).length + l.length ≤ 9223372036854775807 := by omega
    simp [mf49, h, h', hm, hb]
theorem ev51 (l : List UInt8) : evP (envOf GW [(50, pureH 4 M50)]) 0 mf51 1 [.str l] = some (putStr l) := by
  rw [evP_run _ _ rfl]
  unfold putStr
  by_cases h : 65536 < l.length
  · have h' : (65536 : Int) < l.length := by omega
    simp [mf51, h, h']
  · have h' : ¬ (65536 : Int) < l.length := by omega
    have hm : M50 [.int .i64 (l.length : Int)] = some (.tup [.str (enc (zig l.length)), .int .i64 0]) := by
      simp only [M50, putInt]
      rw [if_pos (by omega), if_neg (by omega)]
    have hz : (enc (zig l.length)).length ≤ 9 := enc_len10 (by rw [zig_nat]; omega)
    have hb : (enc (zig l.length)).length + l.length ≤ 9223372036854775807 := by omega
    simp [mf51, h, h', hm, hb]
def M49 : PModel := fun args => match args with
  | [.str l] => some (putStr l)
  | _ => none
theorem spec49 : PureSpec Try.prog GW 49 M49 := by
  refine PureSpec.of_ev (E := envOf GW [(48, pureH 4 M50)]) (envOf_sound (lookM_cons (FnSpecY.of_pure spec48 4) lookM_nil)) rfl at49 comp49 1 ?_
  intro args r h
  unfold M49 at h
  split at h
  · injection h with h; subst h; exact ⟨0, ev49 _⟩
  · cases h
theorem spec51 : PureSpec Try.prog GW 51 M49 := by
  refine PureSpec.of_ev (E := envOf GW [(50, pureH 4 M50)]) (envOf_sound (lookM_cons (FnSpecY.of_pure spec50 4) lookM_nil)) rfl at51 comp51 1 ?_
  intro args r h
  unfold M49 at h
  split at h
  · injection h with h; subst h; exact ⟨0, ev51 _⟩
  · cases h
end Go.Proofs.Ytfidjdlmmcaplaa
/-
  Wire: the reference's Int.
-/
namespace Go.Proofs.Ytfidjdlmmcaplaa
open Go

def mask54 : List Nat := [2, 3, 4, 7, 8, 9, 10, 11, 12, 13, 14, 15]
def E54 : Env := envOf GW [(50, pureH 4 M50)]

theorem loop54 (fuel : Nat) (s : List UInt8) (a : Nat) (hs : s.length ≤ 1000000000) (ha : a ≤ s.length) (A : Arena) : ∀ (k i z : Nat), i + k = 9 → z < 128 ^ i → ∀ (m : Nat) (b2 b3 b4 b7 b8 b9 b10 b11 b12 b13 b14 b15 : AV), k < m →
    ∃ out, iter (evC E54 fuel lp54x0) mask54 m [.str s, .int .i64 a, b2, b3, b4, .int .u64 z, .int .i64 i, b7, b8, b9, b10, b11, b12, b13, b14, b15] A = some out ∧
      match dec k (s.drop (a + i)) with
      | none => ∃ σ, out = .exit 0 σ A ∧ σ.length = 16
      | some (v, j, _) => if enc (z + 128 ^ i * v) = (s.drop a).take (i + j + 1) ∧ ¬ unzig (z + 128 ^ i * v) < -4611686018427387903
        then ∃ σ, out = .ret σ A ∧ σ[2]? = some (.int .i64 (unzig (z + 128 ^ i * v))) ∧ σ[3]? = some (.int .i64 (a + i + j + 1)) ∧ σ[4]? = some (.int .i64 0)
        else ∃ σ, out = .ret σ A ∧ σ[2]? = some (.int .i64 0) ∧ σ[3]? = some (.int .i64 0) ∧ σ[4]? = some (.int .i64 10) := by
  intro k
  induction k with
  | zero =>
    intro i z hik hz m b2 b3 b4 b7 b8 b9 b10 b11 b12 b13 b14 b15 hm
    obtain ⟨m, rfl⟩ : ∃ j, m = j + 1 := ⟨m - 1, by omega⟩
    obtain rfl : i = 9 := by omega
    refine ⟨.exit 0 [.str s, .int .i64 a, .undef, .undef, .undef, .int .u64 z, .int .i64 9, .undef, .undef, .undef, .undef, .undef, .bool false, .undef, .undef, .undef] A, ?_, _, rfl, rfl⟩
    rw [iter_succ]
    simp [lp54x0, mask54]
  | succ k ih =>
    intro i z hik hz m b2 b3 b4 b7 b8 b9 b10 b11 b12 b13 b14 b15 hm
    obtain ⟨m, rfl⟩ : ∃ j, m = j + 1 := ⟨m - 1, by omega⟩
    have hi9 : (i : Int) < 9 := by omega
    obtain ⟨p, hp⟩ : ∃ p, p = a + i := ⟨_, rfl⟩
    have w1 : IntKind.i64.wrap ((a : Int) + i) = p := by rw [wrapI (by unfold inI; omega)]; omega
    by_cases hend : p < s.length
    · obtain ⟨b, hb⟩ : ∃ b, s[p]? = some b := ⟨s[p], by simp [hend]⟩
      have hdrop : s.drop (a + i) = b :: s.drop (a + (i + 1)) := by
        rw [← hp, List.drop_eq_getElem_cons hend, show a + (i + 1) = p + 1 by omega]
        rw [List.getElem?_eq_getElem hend] at hb
        injection hb with hb; rw [hb]
      have hge : (p : Int) < (s.length : Int) := by omega
      have hbl := u8_lt b
      obtain ⟨c, hc⟩ : ∃ c, c = b.toNat := ⟨_, rfl⟩
      have hb' : Option.map (fun b => AV.int IntKind.u8 (b.toNat : Int)) s[p]? = some (.int .u8 c) := by rw [hb, hc]; rfl
      have e0 : IntKind.u64.wrap (c : Int) = c := wrapU64 (by omega)
      obtain ⟨g, hg⟩ : ∃ g, g = b.toNat % 128 := ⟨_, rfl⟩
      have e1 : (c : Int).tmod 128 = g := by rw [Int.tmod_eq_emod_of_nonneg (by omega)]; omega
      obtain ⟨s7, hs7⟩ : ∃ s7, s7 = 7 * i := ⟨_, rfl⟩
      have e3 : IntKind.i64.wrap (7 * (i : Int)) = s7 := by rw [wrapI (by unfold inI; omega)]; omega
      have hp9 := pow_le9 (show i + 1 ≤ 9 by omega)
      have hp1 : 2 ^ (7 * (i + 1)) = 128 * 2 ^ (7 * i) := by rw [Nat.mul_add, Nat.pow_add]; omega
      have hz2 : z < 2 ^ (7 * i) := by rw [← pow128]; exact hz
      obtain ⟨gp, hgp⟩ : ∃ gp, gp = g * 2 ^ (7 * i) := ⟨_, rfl⟩
      have hgm : gp ≤ 127 * 2 ^ (7 * i) := by rw [hgp]; exact Nat.mul_le_mul_right _ (by omega)
      have e4 : IntKind.u64.wrap ((g : Int) * 2 ^ (min s7 64)) = gp := by
        rw [show min s7 64 = 7 * i by omega]
        have : (g : Int) * 2 ^ (7 * i) = (gp : Nat) := by rw [hgp]; push_cast; rfl
        rw [this]
        exact wrapU64 (by omega)
      obtain ⟨z2, hz3⟩ : ∃ z2, z2 = z + gp := ⟨_, rfl⟩
      have e5 : IntKind.u64.wrap ((z : Int) + gp) = z2 := by rw [wrapU64 (by omega)]; omega
      have hz4 : z2 < 9223372036854775808 := by omega
      have hz5 : z2 < 128 ^ (i + 1) := by rw [pow128, hp1]; omega
      have hmask : clear mask54 [.str s, .int .i64 a, b2, b3, b4, .int .u64 z, .int .i64 i, b7, b8, b9, b10, b11, b12, b13, b14, b15] = [.str s, .int .i64 a, .undef, .undef, .undef, .int .u64 z, .int .i64 i, .undef, .undef, .undef, .undef, .undef, .undef, .undef, .undef, .undef] := rfl
      by_cases hcont : 128 ≤ c
      · have h128 : (128 : Int) ≤ c := by omega
        have w2 : IntKind.i64.wrap ((i : Int) + 1) = ((i + 1 : Nat) : Int) := by rw [wrapI (by unfold inI; omega)]; omega
        have hbody : run E54 fuel [.code lp54x0] (clear mask54 [.str s, .int .i64 a, b2, b3, b4, .int .u64 z, .int .i64 i, b7, b8, b9, b10, b11, b12, b13, b14, b15]) A =
            some (.normal [.str s, .int .i64 a, .undef, .undef, .undef, .int .u64 z2, .int .i64 ((i + 1 : Nat) : Int), .int .u64 c, .undef, .undef, .undef, .undef, .bool true, .bool true, .undef, .undef] A) := by
          rw [hmask]
          obtain ⟨i1, hi1⟩ : ∃ i1, i1 = i + 1 := ⟨_, rfl⟩
          rw [← hi1] at w2 ⊢
          simp [lp54x0, hi9, w1, hge, hb', e0, e1, e3, e4, e5, h128, w2]
        obtain ⟨out, q1, q2⟩ := ih (i + 1) z2 (by omega) hz5 m .undef .undef .undef (.int .u64 c) .undef .undef .undef .undef (.bool true) (.bool true) .undef .undef (by omega)
        refine ⟨out, ?_, ?_⟩
        · rw [iter_succ, hbody]; exact q1
        · rw [hdrop]
          simp only [dec, if_neg (show ¬ b.toNat < 128 by omega)]
          cases hd : dec k (s.drop (a + (i + 1))) with
          | none => rw [hd] at q2; exact q2
          | some x =>
            obtain ⟨v, j, c⟩ := x
            rw [hd] at q2
            simp only [Option.map_some]
            simp only at q2
            have ez : z + 128 ^ i * (b.toNat % 128 + 128 * v) = z2 + 128 ^ (i + 1) * v := by
              rw [hz3, hgp, hg, ← pow128, Nat.pow_succ, Nat.mul_add, Nat.mul_comm (b.toNat % 128), Nat.mul_assoc]; omega
            have ej : i + (j + 1) + 1 = i + 1 + j + 1 := by omega
            rw [ez, ej]
            have ej2 : (a : Int) + i + ((j + 1 : Nat) : Int) + 1 = a + ((i + 1 : Nat) : Int) + j + 1 := by omega
            rw [ej2]
            exact q2
      · have hnc : ¬ (128 : Int) ≤ c := by omega
        rw [hdrop]
        simp only [dec, if_pos (show b.toNat < 128 by omega)]
        have ez : z + 128 ^ i * b.toNat = z2 := by rw [hz3, hgp, hg, ← pow128, Nat.mod_eq_of_lt (by omega), Nat.mul_comm]
        rw [ez]
        obtain ⟨z', hz'⟩ : ∃ z', z' = z2 / 2 := ⟨_, rfl⟩
        obtain ⟨o, ho⟩ : ∃ o, o = z2 % 2 := ⟨_, rfl⟩
        have f1 : (z2 : Int).tdiv 2 = z' := by rw [Int.tdiv_eq_ediv_of_nonneg (by omega)]; omega
        have f1w : IntKind.u64.wrap (z' : Int) = z' := wrapU64 (by omega)
        have f2 : IntKind.i64.wrap (z' : Int) = z' := wrapI (by unfold inI; omega)
        have f3 : (z2 : Int).tmod 2 = o := by rw [Int.tmod_eq_emod_of_nonneg (by omega)]; omega
        obtain ⟨n, hn⟩ : ∃ n, n = unzig z2 := ⟨_, rfl⟩
        rw [← hn]
        obtain ⟨p1, hp1'⟩ : ∃ p1 : Int, p1 = a + i + 1 := ⟨_, rfl⟩
        obtain ⟨q1, hq1⟩ : ∃ q1, q1 = p + 1 := ⟨_, rfl⟩
        have f7 : IntKind.i64.wrap ((p : Int) + 1) = q1 := by rw [wrapI (by unfold inI; omega)]; omega
        have hqp : p1 = q1 := by omega
        have hzn : zig n = z2 := by rw [hn]; exact zig_unzig z2
        have hnu : n ≤ 4611686018427387903 := by rw [hn]; unfold unzig; split <;> omega
        have hnl : -4611686018427387904 ≤ n := by rw [hn]; unfold unzig; split <;> omega
        have hM : M50 [.int .i64 n] = some (putInt n) := by simp only [M50]; rw [if_pos (by omega)]
        have hsl : (s.drop a).take (q1 - a) = (s.drop a).take (i + 0 + 1) := by congr 1; omega
        obtain ⟨ta, hta⟩ : ∃ ta, ta = (s.drop a).take (i + 0 + 1) := ⟨_, rfl⟩
        rw [← hta] at hsl ⊢
        have hq2 : q1 ≤ s.length := by omega
        have hq3 : a ≤ q1 := by omega
        by_cases hodd : z2 % 2 = 1
        · have f3' : (z2 : Int).tmod 2 = 1 := by rw [f3]; omega
          have g1 : IntKind.i64.wrap (-(z' : Int)) = -(z' : Int) := wrapI (by unfold inI; omega)
          have g2 : IntKind.i64.wrap (-(z' : Int) - 1) = n := by rw [wrapI (by unfold inI; omega), hn]; unfold unzig; rw [if_pos hodd]; omega
          by_cases hbad : n < -4611686018427387903
          · have hP : putInt n = .tup [.str [], .int .i64 10] := by unfold putInt; rw [if_pos (.inl hbad)]
            rw [hP] at hM
            refine ⟨.ret [.str s, .int .i64 a, .int .i64 0, .int .i64 0, .int .i64 10, .int .u64 z2, .int .i64 i, .int .u64 c, .int .i64 n, .str [], .int .i64 10, .undef, .bool true, .bool false, .bool true, .bool true] A, ?_, ?_⟩
            · rw [iter_succ, hmask]
              simp [lp54x0, E54, hi9, w1, hge, hb', e0, e1, e3, e4, e5, hnc, f1, f1w, f2, f3', g1, g2, hM]
            · rw [if_neg (fun h => h.2 hbad)]; exact ⟨_, rfl, rfl, rfl, rfl⟩
          · have hP : putInt n = .tup [.str (enc z2), .int .i64 0] := by unfold putInt; rw [if_neg (by omega), hzn]
            rw [hP] at hM
            by_cases heq : enc z2 = ta
            · have hbeq : (enc z2 == ta) = true := by simp [heq]
              refine ⟨.ret [.str s, .int .i64 a, .int .i64 n, .int .i64 q1, .int .i64 0, .int .u64 z2, .int .i64 i, .int .u64 c, .int .i64 n, .str (enc z2), .int .i64 0, .undef, .bool true, .bool false, .bool true, .bool false] A, ?_, ?_⟩
              · rw [iter_succ, hmask]
                simp [lp54x0, E54, hi9, w1, hge, hb', e0, e1, e3, e4, e5, hnc, f1, f1w, f2, f3', g1, g2, hM, f7, hq2, hq3, hsl, hbeq]
              · rw [if_pos ⟨heq, hbad⟩]; exact ⟨_, rfl, rfl, by rw [← hqp, hp1']; simp, rfl⟩
            · have hbeq : (enc z2 == ta) = false := by simp [heq]
              refine ⟨.ret [.str s, .int .i64 a, .int .i64 0, .int .i64 0, .int .i64 10, .int .u64 z2, .int .i64 i, .int .u64 c, .int .i64 n, .str (enc z2), .int .i64 0, .undef, .bool true, .bool false, .bool true, .bool true] A, ?_, ?_⟩
              · rw [iter_succ, hmask]
                simp [lp54x0, E54, hi9, w1, hge, hb', e0, e1, e3, e4, e5, hnc, f1, f1w, f2, f3', g1, g2, hM, f7, hq2, hq3, hsl, hbeq]
              · rw [if_neg (fun h => heq h.1)]; exact ⟨_, rfl, rfl, rfl, rfl⟩
        · have f3' : (z2 : Int).tmod 2 = 0 := by rw [f3]; omega
          have hnz : n = z' := by rw [hn]; unfold unzig; rw [if_neg hodd, hz']
          have hP : putInt n = .tup [.str (enc z2), .int .i64 0] := by unfold putInt; rw [if_neg (by omega), hzn]
          rw [hP, hnz] at hM
          by_cases heq : enc z2 = ta
          · have hbeq : (enc z2 == ta) = true := by simp [heq]
            refine ⟨.ret [.str s, .int .i64 a, .int .i64 z', .int .i64 q1, .int .i64 0, .int .u64 z2, .int .i64 i, .int .u64 c, .int .i64 z', .str (enc z2), .int .i64 0, .undef, .bool true, .bool false, .bool false, .bool false] A, ?_, ?_⟩
            · rw [iter_succ, hmask]
              simp [lp54x0, E54, hi9, w1, hge, hb', e0, e1, e3, e4, e5, hnc, f1, f1w, f2, f3', hM, f7, hq2, hq3, hsl, hbeq]
            · rw [if_pos ⟨heq, by omega⟩, hnz]; exact ⟨_, rfl, rfl, by rw [← hqp, hp1']; simp, rfl⟩
          · have hbeq : (enc z2 == ta) = false := by simp [heq]
            refine ⟨.ret [.str s, .int .i64 a, .int .i64 0, .int .i64 0, .int .i64 10, .int .u64 z2, .int .i64 i, .int .u64 c, .int .i64 z', .str (enc z2), .int .i64 0, .undef, .bool true, .bool false, .bool false, .bool true] A, ?_, ?_⟩
            · rw [iter_succ, hmask]
              simp [lp54x0, E54, hi9, w1, hge, hb', e0, e1, e3, e4, e5, hnc, f1, f1w, f2, f3', hM, f7, hq2, hq3, hsl, hbeq]
            · rw [if_neg (fun h => heq h.1)]; exact ⟨_, rfl, rfl, rfl, rfl⟩
    · have hge : ¬ (p : Int) < (s.length : Int) := by omega
      have hdrop : s.drop (a + i) = [] := List.drop_eq_nil_of_le (by omega)
      rw [hdrop]
      refine ⟨.exit 0 [.str s, .int .i64 a, .undef, .undef, .undef, .int .u64 z, .int .i64 i, .undef, .undef, .undef, .undef, .undef, .bool false, .undef, .undef, .undef] A, ?_, _, rfl, rfl⟩
      rw [iter_succ]
      simp [lp54x0, mask54, hi9, w1, hge]
end Go.Proofs.Ytfidjdlmmcaplaa
/-
  Wire: the reference's Int; String.
-/
namespace Go.Proofs.Ytfidjdlmmcaplaa
open Go

theorem ev54 (l : List UInt8) (a : Int) (hl : l.length ≤ 1000000000) : evP E54 20 mf54 1 [.str l, .int .i64 a] = some (getInt l a) := by
  rw [evP_run _ _ rfl]
  unfold getInt
  by_cases h : a < 0
  · simp [mf54, h]
  · by_cases h' : (l.length : Int) < a
    · simp [mf54, h, h']
    · obtain ⟨n, rfl⟩ : ∃ n : Nat, a = n := ⟨a.toNat, by omega⟩
      obtain ⟨out, q1, q2⟩ := loop54 20 l n hl (by omega) [] 9 0 0 rfl (by simp) 20 (.int .i64 0) (.int .i64 0) (.int .i64 0) .undef .undef .undef .undef (.bool false) .undef .undef .undef .undef (by omega)
      have hrun := fun k => run_loop (k := k) _ _ _ q1
      simp only [Nat.add_zero, mask54, Int.natCast_zero, Int.cast_ofNat_Int] at hrun q2
      have hif : ¬ ((n : Int) < 0 ∨ (l.length : Int) < n) := by omega
      rw [if_neg hif]
      simp only [Int.toNat_natCast]
      cases hd : dec 9 (l.drop n) with
      | none =>
        rw [hd] at q2
        obtain ⟨σ, rfl, hσ⟩ := q2
        simp [mf54, h', hrun, hσ]
      | some x =>
        obtain ⟨v, i, c⟩ := x
        have henc := dec_enc 9 _ v i c hd
        rw [hd] at q2
        simp only [Nat.pow_zero, Nat.one_mul, Nat.zero_add, Int.add_zero] at q2 ⊢
        split at q2
        · rename_i hc
          obtain ⟨σ, rfl, h2, h3, h4⟩ := q2
          rw [if_neg (by rintro (h5 | h5); exact henc.1 hc.1 h5; exact hc.2 h5)]
          simp [mf54, h', hrun, h2, h3, h4]
        · rename_i hc
          obtain ⟨σ, rfl, h2, h3, h4⟩ := q2
          have : (c = 0 ∧ 0 < i) ∨ unzig v < -4611686018427387903 := by
            by_cases h5 : unzig v < -4611686018427387903
            · exact .inr h5
            · by_cases h6 : c = 0 ∧ 0 < i
              · exact .inl h6
              · exact absurd ⟨henc.2 h6, h5⟩ hc
          rw [if_pos this]
          simp [mf54, h', hrun, h2, h3, h4]
theorem spec54 : PureSpec Try.prog GW 54 M52 := by
  refine PureSpec.of_ev (E := E54) (envOf_sound (lookM_cons (FnSpecY.of_pure spec50 4) lookM_nil)) rfl at54 comp54 1 ?_
  intro args r h
  unfold M52 at h
  split at h
  · simp only [Option.ite_none_right_eq_some, Option.some.injEq] at h
    obtain ⟨h1, rfl⟩ := h
    exact ⟨20, ev54 _ _ h1⟩
  · cases h

/-- what Int gives, read -/
theorem getInt_cases (l : List UInt8) (a : Int) (hl : l.length ≤ 1000000000) : (∃ e : Int, (e = 2 ∨ e = 10) ∧ getInt l a = .tup [.int .i64 0, .int .i64 0, .int .i64 e]) ∨
    ∃ n x : Int, -4611686018427387903 ≤ n ∧ n ≤ 4611686018427387903 ∧ a < x ∧ 0 ≤ a ∧ x ≤ l.length ∧ getInt l a = .tup [.int .i64 n, .int .i64 x, .int .i64 0] := by
  unfold getInt
  split
  · exact .inl ⟨2, .inl rfl, rfl⟩
  · rename_i h
    cases hd : dec 9 (l.drop a.toNat) with
    | none => exact .inl ⟨10, .inr rfl, rfl⟩
    | some x =>
      obtain ⟨v, i, c⟩ := x
      obtain ⟨b1, b2, b3, b4⟩ := dec_bound _ _ _ _ _ hd
      simp only
      split
      · exact .inl ⟨10, .inr rfl, rfl⟩
      · rename_i h2
        have hv : v < 9223372036854775808 := by
          have : 128 ^ (i + 1) ≤ 9223372036854775808 := by rw [pow128]; exact pow_le9 (by omega)
          omega
        simp at b3
        refine .inr ⟨unzig v, a + i + 1, by omega, ?_, by omega, by omega, by omega, rfl⟩
        unfold unzig; split <;> omega

/-- what String gives -/
def getStr (l : List UInt8) (a : Int) : AV :=
  match getInt l a with
  | .tup [.int _ n, .int _ x, .int _ e] =>
    if e ≠ 0 then .tup [.str [], .int .i64 0, .int .i64 e]
    else if n < 0 ∨ 65536 < n ∨ l.length - x < n then .tup [.str [], .int .i64 0, .int .i64 10]
    else .tup [.str ((l.drop x.toNat).take n.toNat), .int .i64 (x + n), .int .i64 0]
  | _ => .undef

theorem ev53 (l : List UInt8) (a : Int) (hl : l.length ≤ 1000000000) : evP (envOf GW [(52, pureH 4 M52)]) 0 mf53 1 [.str l, .int .i64 a] = some (getStr l a) := by
  rw [evP_run _ _ rfl]
  have hM : M52 [.str l, .int .i64 a] = some (getInt l a) := by simp only [M52]; rw [if_pos hl]
  rcases getInt_cases l a hl with ⟨e, he, hg⟩ | ⟨n, x, h1, h2, h3, h4, h5, hg⟩
  · have he0 : e ≠ 0 := by omega
    rw [hg] at hM
    unfold getStr
    rw [hg]
    simp [mf53, hM, he0]
  · rw [hg] at hM
    unfold getStr
    rw [hg]
    have w1 : IntKind.i64.wrap ((l.length : Int) - x) = l.length - x := wrapI (by unfold inI; omega)
    by_cases c1 : n < 0
    · simp [mf53, hM, c1]
    · by_cases c2 : 65536 < n
      · simp [mf53, hM, c1, c2]
      · by_cases c3 : (l.length : Int) - x < n
        · simp [mf53, hM, c1, c2, w1, c3]
        · have w2 : IntKind.i64.wrap (x + n) = x + n := wrapI (by unfold inI; omega)
          have b1 : 0 ≤ x := by omega
          have b2 : 0 ≤ x + n ∧ x + n ≤ l.length := by omega
          have b3 : x.toNat ≤ (x + n).toNat := by omega
          have b4 : (x + n).toNat - x.toNat = n.toNat := by omega
          simp [mf53, hM, c1, c2, w1, c3, w2, b1, b2, b3, b4]
theorem ev55 (l : List UInt8) (a : Int) (hl : l.length ≤ 1000000000) : evP (envOf GW [(54, pureH 4 M52)]) 0 mf55 1 [.str l, .int .i64 a] = some (getStr l a) := by
  rw [evP_run _ _ rfl]
  have hM : M52 [.str l, .int .i64 a] = some (getInt l a) := by simp only [M52]; rw [if_pos hl]
  rcases getInt_cases l a hl with ⟨e, he, hg⟩ | ⟨n, x, h1, h2, h3, h4, h5, hg⟩
  · have he0 : e ≠ 0 := by omega
    rw [hg] at hM
    unfold getStr
    rw [hg]
    simp [mf55, hM, he0]
  · rw [hg] at hM
    unfold getStr
    rw [hg]
    have w1 : IntKind.i64.wrap ((l.length : Int) - x) = l.length - x := wrapI (by unfold inI; omega)
    by_cases c1 : n < 0
    · simp [mf55, hM, c1]
    · by_cases c2 : 65536 < n
      · simp [mf55, hM, c1, c2]
      · by_cases c3 : (l.length : Int) - x < n
        · simp [mf55, hM, c1, c2, w1, c3]
        · have w2 : IntKind.i64.wrap (x + n) = x + n := wrapI (by unfold inI; omega)
          have b1 : 0 ≤ x := by omega
          have b2 : 0 ≤ x + n ∧ x + n ≤ l.length := by omega
          have b3 : x.toNat ≤ (x + n).toNat := by omega
          have b4 : (x + n).toNat - x.toNat = n.toNat := by omega
          simp [mf55, hM, c1, c2, w1, c3, w2, b1, b2, b3, b4]
def M53 : PModel := fun args => match args with
  | [.str l, .int .i64 a] => if l.length ≤ 1000000000 then some (getStr l a) else none
  | _ => none
theorem spec53 : PureSpec Try.prog GW 53 M53 := by
  refine PureSpec.of_ev (E := envOf GW [(52, pureH 4 M52)]) (envOf_sound (lookM_cons (FnSpecY.of_pure spec52 4) lookM_nil)) rfl at53 comp53 1 ?_
  intro args r h
  unfold M53 at h
  split at h
  · simp only [Option.ite_none_right_eq_some, Option.some.injEq] at h
    obtain ⟨h1, rfl⟩ := h
    exact ⟨0, ev53 _ _ h1⟩
  · cases h
theorem spec55 : PureSpec Try.prog GW 55 M53 := by
  refine PureSpec.of_ev (E := envOf GW [(54, pureH 4 M52)]) (envOf_sound (lookM_cons (FnSpecY.of_pure spec54 4) lookM_nil)) rfl at55 comp55 1 ?_
  intro args r h
  unfold M53 at h
  split at h
  · simp only [Option.ite_none_right_eq_some, Option.some.injEq] at h
    obtain ⟨h1, rfl⟩ := h
    exact ⟨0, ev55 _ _ h1⟩
  · cases h
end Go.Proofs.Ytfidjdlmmcaplaa
/-
  Link: the functions' contracts, each evaluated in its caller's arena; the fixed examples.
-/
namespace Go.Proofs.Ytfidjdlmmcaplaa
open Go

noncomputable def fs42 : List (FuncId × HModel) := []
theorem sound42 : ∀ f M, lookM fs42 f = some M → FnSpecY Try.prog GW f M := lookM_nil
noncomputable def M42 : PModel := fun args => evP (envOf GW fs42) 300 mf42 5 args
theorem spec42 : PureSpec Try.prog GW 42 M42 := PureSpec.of_ev (E := envOf GW fs42) (envOf_sound sound42) rfl at42 comp42 5 fun _ _ h => ⟨300, h⟩
noncomputable def fs34 : List (FuncId × HModel) := [(42, pureH 4 M42)]
@[simp] theorem fs34_42 : lookM fs34 42 = some (pureH 4 M42) := rfl
theorem sound34 : ∀ f M, lookM fs34 f = some M → FnSpecY Try.prog GW f M := lookM_cons (FnSpecY.of_pure spec42 4) lookM_nil
noncomputable def M34 : PModel := fun args => evP (envOf GW fs34) 300 mf34 5 args
theorem spec34 : PureSpec Try.prog GW 34 M34 := PureSpec.of_ev (E := envOf GW fs34) (envOf_sound sound34) rfl at34 comp34 5 fun _ _ h => ⟨300, h⟩
noncomputable def fs45 : List (FuncId × HModel) := []
theorem sound45 : ∀ f M, lookM fs45 f = some M → FnSpecY Try.prog GW f M := lookM_nil
noncomputable def H45 : HModel := fun _ => evFun (envOf GW fs45) 300 mf45
theorem spec45 : FnSpecY Try.prog GW 45 H45 := (evFun_sound (envOf_sound sound45) rfl at45 comp45 (by first | exact PureIn.nil | (repeat (first | exact PureIn.nil | refine PureIn.cons (M := _) rfl ?_)))).y
noncomputable def fs58 : List (FuncId × HModel) := []
theorem sound58 : ∀ f M, lookM fs58 f = some M → FnSpecY Try.prog GW f M := lookM_nil
noncomputable def H58 : HModel := fun _ => evFun (envOf GW fs58) 300 mf58
theorem spec58 : FnSpecY Try.prog GW 58 H58 := (evFun_sound (envOf_sound sound58) rfl at58 comp58 (by first | exact PureIn.nil | (repeat (first | exact PureIn.nil | refine PureIn.cons (M := _) rfl ?_)))).y
noncomputable def fs60 : List (FuncId × HModel) := []
theorem sound60 : ∀ f M, lookM fs60 f = some M → FnSpecY Try.prog GW f M := lookM_nil
noncomputable def H60 : HModel := fun _ => evFun (envOf GW fs60) 300 mf60
theorem spec60 : FnSpecY Try.prog GW 60 H60 := (evFun_sound (envOf_sound sound60) rfl at60 comp60 (by first | exact PureIn.nil | (repeat (first | exact PureIn.nil | refine PureIn.cons (M := _) rfl ?_)))).y
noncomputable def fs63 : List (FuncId × HModel) := [(60, H60)]
@[simp] theorem fs63_60 : lookM fs63 60 = some (H60) := rfl
theorem sound63 : ∀ f M, lookM fs63 f = some M → FnSpecY Try.prog GW f M := lookM_cons spec60 lookM_nil
noncomputable def H63 : HModel := fun _ => evFun (envOf GW fs63) 300 mf63
theorem spec63 : FnSpecY Try.prog GW 63 H63 := (evFun_sound (envOf_sound sound63) rfl at63 comp63 (by first | exact PureIn.nil | (repeat (first | exact PureIn.nil | refine PureIn.cons (M := _) rfl ?_)))).y
noncomputable def fs59 : List (FuncId × HModel) := [(60, H60), (63, H63)]
@[simp] theorem fs59_60 : lookM fs59 60 = some (H60) := rfl
@[simp] theorem fs59_63 : lookM fs59 63 = some (H63) := rfl
theorem sound59 : ∀ f M, lookM fs59 f = some M → FnSpecY Try.prog GW f M := lookM_cons spec60 (lookM_cons spec63 lookM_nil)
noncomputable def H59 : HModel := fun _ => evFun (envOf GW fs59) 300 mf59
theorem spec59 : FnSpecY Try.prog GW 59 H59 := (evFun_sound (envOf_sound sound59) rfl at59 comp59 (by first | exact PureIn.nil | (repeat (first | exact PureIn.nil | refine PureIn.cons (M := _) rfl ?_)))).y
noncomputable def fs47 : List (FuncId × HModel) := [(59, H59), (60, H60)]
@[simp] theorem fs47_59 : lookM fs47 59 = some (H59) := rfl
@[simp] theorem fs47_60 : lookM fs47 60 = some (H60) := rfl
theorem sound47 : ∀ f M, lookM fs47 f = some M → FnSpecY Try.prog GW f M := lookM_cons spec59 (lookM_cons spec60 lookM_nil)
noncomputable def H47 : HModel := fun _ => evFun (envOf GW fs47) 300 mf47
theorem spec47 : FnSpecY Try.prog GW 47 H47 := (evFun_sound (envOf_sound sound47) rfl at47 comp47 (by first | exact PureIn.nil | (repeat (first | exact PureIn.nil | refine PureIn.cons (M := _) rfl ?_)))).y
noncomputable def fs46 : List (FuncId × HModel) := []
theorem sound46 : ∀ f M, lookM fs46 f = some M → FnSpecY Try.prog GW f M := lookM_nil
noncomputable def H46 : HModel := fun _ => evFun (envOf GW fs46) 300 mf46
theorem spec46 : FnSpecY Try.prog GW 46 H46 := (evFun_sound (envOf_sound sound46) rfl at46 comp46 (by first | exact PureIn.nil | (repeat (first | exact PureIn.nil | refine PureIn.cons (M := _) rfl ?_)))).y
noncomputable def fs44 : List (FuncId × HModel) := [(45, H45), (58, H58)]
@[simp] theorem fs44_45 : lookM fs44 45 = some (H45) := rfl
@[simp] theorem fs44_58 : lookM fs44 58 = some (H58) := rfl
theorem sound44 : ∀ f M, lookM fs44 f = some M → FnSpecY Try.prog GW f M := lookM_cons spec45 (lookM_cons spec58 lookM_nil)
noncomputable def H44 : HModel := fun _ => evFun (envOf GW fs44) 300 mf44
theorem spec44 : FnSpecY Try.prog GW 44 H44 := (evFun_sound (envOf_sound sound44) rfl at44 comp44 (by first | exact PureIn.nil | (repeat (first | exact PureIn.nil | refine PureIn.cons (M := _) rfl ?_)))).y
noncomputable def fs13 : List (FuncId × HModel) := [(42, pureH 4 M42)]
@[simp] theorem fs13_42 : lookM fs13 42 = some (pureH 4 M42) := rfl
theorem sound13 : ∀ f M, lookM fs13 f = some M → FnSpecY Try.prog GW f M := lookM_cons (FnSpecY.of_pure spec42 4) lookM_nil
noncomputable def H13 : HModel := fun _ => evFun (envOf GW fs13) 300 mf13
theorem spec13 : FnSpecY Try.prog GW 13 H13 := (evFun_sound (envOf_sound sound13) rfl at13 comp13 (by first | exact PureIn.nil | (repeat (first | exact PureIn.nil | refine PureIn.cons (M := _) rfl ?_)))).y
noncomputable def fs16 : List (FuncId × HModel) := []
theorem sound16 : ∀ f M, lookM fs16 f = some M → FnSpecY Try.prog GW f M := lookM_nil
noncomputable def H16 : HModel := fun _ => evFun (envOf GW fs16) 300 mf16
theorem spec16 : FnSpecY Try.prog GW 16 H16 := (evFun_sound (envOf_sound sound16) rfl at16 comp16 (by first | exact PureIn.nil | (repeat (first | exact PureIn.nil | refine PureIn.cons (M := _) rfl ?_)))).y
noncomputable def fs19 : List (FuncId × HModel) := [(44, H44), (45, H45)]
@[simp] theorem fs19_44 : lookM fs19 44 = some (H44) := rfl
@[simp] theorem fs19_45 : lookM fs19 45 = some (H45) := rfl
theorem sound19 : ∀ f M, lookM fs19 f = some M → FnSpecY Try.prog GW f M := lookM_cons spec44 (lookM_cons spec45 lookM_nil)
noncomputable def H19 : HModel := fun _ => evFun (envOf GW fs19) 300 mf19
theorem spec19 : FnSpecY Try.prog GW 19 H19 := (evFun_sound (envOf_sound sound19) rfl at19 comp19 (by first | exact PureIn.nil | (repeat (first | exact PureIn.nil | refine PureIn.cons (M := _) rfl ?_)))).y
noncomputable def fs23 : List (FuncId × HModel) := [(34, pureH 4 M34), (46, H46), (47, H47)]
@[simp] theorem fs23_34 : lookM fs23 34 = some (pureH 4 M34) := rfl
@[simp] theorem fs23_46 : lookM fs23 46 = some (H46) := rfl
@[simp] theorem fs23_47 : lookM fs23 47 = some (H47) := rfl
theorem sound23 : ∀ f M, lookM fs23 f = some M → FnSpecY Try.prog GW f M := lookM_cons (FnSpecY.of_pure spec34 4) (lookM_cons spec46 (lookM_cons spec47 lookM_nil))
noncomputable def H23 : HModel := fun _ => evFun (envOf GW fs23) 300 mf23
theorem spec23 : FnSpecY Try.prog GW 23 H23 := (evFun_sound (envOf_sound sound23) rfl at23 comp23 (by first | exact PureIn.nil | (repeat (first | exact PureIn.nil | refine PureIn.cons (M := _) rfl ?_)))).y
noncomputable def fs25 : List (FuncId × HModel) := []
theorem sound25 : ∀ f M, lookM fs25 f = some M → FnSpecY Try.prog GW f M := lookM_nil
noncomputable def M25 : PModel := fun args => evP (envOf GW fs25) 300 mf25 5 args
theorem spec25 : PureSpec Try.prog GW 25 M25 := PureSpec.of_ev (E := envOf GW fs25) (envOf_sound sound25) rfl at25 comp25 5 fun _ _ h => ⟨300, h⟩
noncomputable def fs26 : List (FuncId × HModel) := []
theorem sound26 : ∀ f M, lookM fs26 f = some M → FnSpecY Try.prog GW f M := lookM_nil
noncomputable def M26 : PModel := fun args => evP (envOf GW fs26) 300 mf26 5 args
theorem spec26 : PureSpec Try.prog GW 26 M26 := PureSpec.of_ev (E := envOf GW fs26) (envOf_sound sound26) rfl at26 comp26 5 fun _ _ h => ⟨300, h⟩
noncomputable def fs27 : List (FuncId × HModel) := []
theorem sound27 : ∀ f M, lookM fs27 f = some M → FnSpecY Try.prog GW f M := lookM_nil
noncomputable def H27 : HModel := fun _ => evFun (envOf GW fs27) 300 mf27
theorem spec27 : FnSpecY Try.prog GW 27 H27 := (evFun_sound (envOf_sound sound27) rfl at27 comp27 (by first | exact PureIn.nil | (repeat (first | exact PureIn.nil | refine PureIn.cons (M := _) rfl ?_)))).y
noncomputable def fs28 : List (FuncId × HModel) := []
theorem sound28 : ∀ f M, lookM fs28 f = some M → FnSpecY Try.prog GW f M := lookM_nil
noncomputable def H28 : HModel := fun _ => evFun (envOf GW fs28) 300 mf28
theorem spec28 : FnSpecY Try.prog GW 28 H28 := (evFun_sound (envOf_sound sound28) rfl at28 comp28 (by first | exact PureIn.nil | (repeat (first | exact PureIn.nil | refine PureIn.cons (M := _) rfl ?_)))).y
noncomputable def fs30 : List (FuncId × HModel) := [(34, pureH 4 M34), (48, pureH 4 M50), (49, pureH 4 M49)]
@[simp] theorem fs30_34 : lookM fs30 34 = some (pureH 4 M34) := rfl
@[simp] theorem fs30_48 : lookM fs30 48 = some (pureH 4 M50) := rfl
@[simp] theorem fs30_49 : lookM fs30 49 = some (pureH 4 M49) := rfl
theorem sound30 : ∀ f M, lookM fs30 f = some M → FnSpecY Try.prog GW f M := lookM_cons (FnSpecY.of_pure spec34 4) (lookM_cons (FnSpecY.of_pure spec48 4) (lookM_cons (FnSpecY.of_pure spec49 4) lookM_nil))
noncomputable def H30 : HModel := fun _ => evFun (envOf GW fs30) 300 mf30
theorem spec30 : FnSpecY Try.prog GW 30 H30 := (evFun_sound (envOf_sound sound30) rfl at30 comp30 (by first | exact PureIn.nil | (repeat (first | exact PureIn.nil | refine PureIn.cons (M := _) rfl ?_)))).y
noncomputable def fs32 : List (FuncId × HModel) := [(34, pureH 4 M34), (52, pureH 4 M52), (53, pureH 4 M53)]
@[simp] theorem fs32_34 : lookM fs32 34 = some (pureH 4 M34) := rfl
@[simp] theorem fs32_52 : lookM fs32 52 = some (pureH 4 M52) := rfl
@[simp] theorem fs32_53 : lookM fs32 53 = some (pureH 4 M53) := rfl
theorem sound32 : ∀ f M, lookM fs32 f = some M → FnSpecY Try.prog GW f M := lookM_cons (FnSpecY.of_pure spec34 4) (lookM_cons (FnSpecY.of_pure spec52 4) (lookM_cons (FnSpecY.of_pure spec53 4) lookM_nil))
noncomputable def H32 : HModel := fun _ => evFun (envOf GW fs32) 300 mf32
theorem spec32 : FnSpecY Try.prog GW 32 H32 := (evFun_sound (envOf_sound sound32) rfl at32 comp32 (by first | exact PureIn.nil | (repeat (first | exact PureIn.nil | refine PureIn.cons (M := _) rfl ?_)))).y
noncomputable def fs41 : List (FuncId × HModel) := [(13, H13), (19, H19), (23, H23), (25, pureH 4 M25)]
@[simp] theorem fs41_13 : lookM fs41 13 = some (H13) := rfl
@[simp] theorem fs41_19 : lookM fs41 19 = some (H19) := rfl
@[simp] theorem fs41_23 : lookM fs41 23 = some (H23) := rfl
@[simp] theorem fs41_25 : lookM fs41 25 = some (pureH 4 M25) := rfl
theorem sound41 : ∀ f M, lookM fs41 f = some M → FnSpecY Try.prog GW f M := lookM_cons spec13 (lookM_cons spec19 (lookM_cons spec23 (lookM_cons (FnSpecY.of_pure spec25 4) lookM_nil)))
noncomputable def H41 : HModel := fun _ => evFun (envOf GW fs41) 300 mf41
theorem spec41 : FnSpecY Try.prog GW 41 H41 := (evFun_sound (envOf_sound sound41) rfl at41 comp41 (by first | exact PureIn.nil | (repeat (first | exact PureIn.nil | refine PureIn.cons (M := _) rfl ?_)))).y
noncomputable def fs12 : List (FuncId × HModel) := [(16, H16), (19, H19), (23, H23), (25, pureH 4 M25), (26, pureH 4 M26), (27, H27), (28, H28), (30, H30), (32, H32), (34, pureH 4 M34), (41, H41)]
theorem sound12 : ∀ f M, lookM fs12 f = some M → FnSpecY Try.prog GW f M := lookM_cons spec16 (lookM_cons spec19 (lookM_cons spec23 (lookM_cons (FnSpecY.of_pure spec25 4) (lookM_cons (FnSpecY.of_pure spec26 4) (lookM_cons spec27 (lookM_cons spec28 (lookM_cons spec30 (lookM_cons spec32 (lookM_cons (FnSpecY.of_pure spec34 4) (lookM_cons spec41 lookM_nil))))))))))
set_option maxRecDepth 100000 in
theorem sane12 : evP (envOf GW fs12) 300 mf12 5 [] = some (.bool true) := by kernel_rfl
noncomputable def M12 : PModel := fun args => evP (envOf GW fs12) 300 mf12 5 args
theorem spec12 : PureSpec Try.prog GW 12 M12 := PureSpec.of_ev (E := envOf GW fs12) (envOf_sound sound12) rfl at12 comp12 5 fun _ _ h => ⟨300, h⟩
@[simp] theorem M12_nil : M12 [] = some (.bool true) := sane12
end Go.Proofs.Ytfidjdlmmcaplaa
