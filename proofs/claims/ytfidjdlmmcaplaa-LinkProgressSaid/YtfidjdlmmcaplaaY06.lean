/-
  What the proof is built on (L0c to L54).
-/
import Derived.Test.YtfidjdlmmcaplaaY04
import Derived.Test.YtfidjdlmmcaplaaChecked
import Derived.KernelRfl
import Derived.Test.YtfidjdlmmcaplaaY05
/-
  The functions, compiled; written by wip/gen.
-/
namespace Go.Proofs.Ytfidjdlmmcaplaa
open Go
def lp3x0 : MC := .seq (.seq (.region [⟨none, .mv (.var 6), none⟩, ⟨some 25, .bin .lss (.tmp 0) (.cst (.int .i64 2)), none⟩]) (.cond (.var 25) .skip (.exit 0))) (.seq (.seq (.block 1 (.seq (.region [⟨none, .call (.fn 13) [.cst (.int .i64 1)], none⟩, ⟨none, .mv (.tmp 0), none⟩, ⟨none, .extract (.tmp 1) 0, none⟩, ⟨none, .extract (.tmp 1) 1, none⟩, ⟨some 7, .mv (.tmp 2), none⟩, ⟨some 8, .mv (.tmp 3), none⟩]) (.seq (.region [⟨none, .call (.fn 14) [.cst (.int .i64 1)], none⟩, ⟨none, .mv (.tmp 0), none⟩, ⟨none, .extract (.tmp 1) 0, none⟩, ⟨none, .extract (.tmp 1) 1, none⟩, ⟨some 9, .mv (.tmp 2), none⟩, ⟨some 10, .mv (.tmp 3), none⟩]) (.seq (.seq (.region [⟨none, .mv (.var 8), none⟩, ⟨none, .bin .neq (.tmp 0) (.cst (.int .i64 0)), none⟩, ⟨none, .mv (.tmp 1), none⟩, ⟨none, .mv (.var 10), some (.tmp 2, false)⟩, ⟨none, .bin .neq (.tmp 3) (.cst (.int .i64 0)), some (.tmp 2, false)⟩, ⟨some 26, .pick (.tmp 2) (.cst (.bool true)) (.tmp 4), none⟩]) (.cond (.var 26) (.seq (.region [⟨some 2, .mv (.cst (.bool false)), none⟩]) .ret) .skip)) (.seq (.region [⟨none, .mv (.var 6), none⟩, ⟨none, .mv (.var 7), none⟩, ⟨none, .indexArr 2 1 (.var 4) (.tmp 0), none⟩, ⟨none, .store 1 (.tmp 2) (.tmp 1), none⟩]) (.region [⟨none, .mv (.var 6), none⟩, ⟨none, .mv (.var 9), none⟩, ⟨none, .indexArr 2 1 (.var 5) (.tmp 0), none⟩, ⟨none, .store 1 (.tmp 2) (.tmp 1), none⟩])))))) (.kill [2, 7, 8, 9, 10, 11, 12, 13, 14, 15, 16, 17, 18, 19, 20, 21, 22, 23, 24, 25, 26, 27, 28, 29, 30, 31, 32, 33, 34, 35, 36, 37, 38, 39, 40])) (.region [⟨none, .mv (.var 6), none⟩, ⟨none, .bin .add (.tmp 0) (.cst (.int .i64 1)), none⟩, ⟨some 6, .mv (.tmp 1), none⟩]))
def lp3x1 : MC := .seq (.seq (.region [⟨none, .mv (.var 17), none⟩, ⟨none, .mv (.var 16), none⟩, ⟨none, .lenSl (.tmp 1), none⟩, ⟨some 36, .bin .lss (.tmp 0) (.tmp 2), none⟩]) (.cond (.var 36) .skip (.exit 5))) (.seq (.seq (.block 6 (.region [⟨none, .mv (.var 11), none⟩, ⟨none, .mv (.var 14), none⟩, ⟨none, .bin .sub (.cst (.int .i64 1)) (.tmp 1), none⟩, ⟨none, .mv (.var 16), none⟩, ⟨none, .mv (.var 17), none⟩, ⟨none, .indexSl 5 (.tmp 3) (.tmp 4), none⟩, ⟨none, .load true 5 (.tmp 5), none⟩, ⟨none, .build [.int .i64 0, .int .i64 0, .int .i64 0, .int .i64 0, .int .i64 0, .str []] [(0, (1, .tmp 2)), (1, (5, .tmp 6))], none⟩, ⟨none, .buildF 6 [.tmp 7], none⟩, ⟨none, .appendN 6 56 (.tmp 0) (.tmp 8), none⟩, ⟨some 11, .mv (.tmp 9), none⟩])) (.kill [2, 6, 7, 8, 9, 10, 15, 18, 19, 20, 21, 22, 23, 24, 25, 26, 27, 28, 29, 30, 31, 32, 33, 34, 35, 36, 37, 38, 39, 40])) (.region [⟨none, .mv (.var 17), none⟩, ⟨none, .bin .add (.tmp 0) (.cst (.int .i64 1)), none⟩, ⟨some 17, .mv (.tmp 1), none⟩]))
def lp3x2 : MC := .seq (.seq (.region [⟨none, .mv (.var 24), none⟩, ⟨some 39, .bin .lss (.tmp 0) (.cst (.int .i64 2)), none⟩]) (.cond (.var 39) .skip (.exit 7))) (.seq (.seq (.block 8 (.seq (.regionD [17, 15, 22, 25, 26] [⟨none, .mv (.var 24), none⟩, ⟨none, .indexArr 2 1 (.var 4) (.tmp 0), none⟩, ⟨none, .load false 1 (.tmp 1), none⟩, ⟨none, .call (.fn 25) [.tmp 2], none⟩, ⟨none, .mv (.var 24), none⟩, ⟨none, .indexArr 2 1 (.var 5) (.tmp 4), none⟩, ⟨none, .load false 1 (.tmp 5), none⟩, ⟨none, .nilCheck (.tmp 6), none⟩, ⟨none, .fieldAddr 1 (.tmp 7), none⟩, ⟨none, .load false 1 (.tmp 8), none⟩, ⟨none, .bin .neq (.tmp 3) (.tmp 9), none⟩, ⟨none, .mv (.tmp 10), none⟩, ⟨none, .mv (.var 24), some (.tmp 11, false)⟩, ⟨none, .indexArr 2 1 (.var 4) (.tmp 12), some (.tmp 11, false)⟩, ⟨none, .load false 1 (.tmp 13), some (.tmp 11, false)⟩, ⟨none, .call (.fn 26) [.tmp 14], some (.tmp 11, false)⟩, ⟨none, .mv (.var 24), some (.tmp 11, false)⟩, ⟨none, .indexArr 2 1 (.var 5) (.tmp 16), some (.tmp 11, false)⟩, ⟨none, .load false 1 (.tmp 17), some (.tmp 11, false)⟩, ⟨none, .nilCheck (.tmp 18), some (.tmp 11, false)⟩, ⟨none, .fieldAddr 0 (.tmp 19), some (.tmp 11, false)⟩, ⟨none, .load false 1 (.tmp 20), some (.tmp 11, false)⟩, ⟨none, .bin .neq (.tmp 15) (.tmp 21), some (.tmp 11, false)⟩, ⟨none, .pick (.tmp 11) (.cst (.bool true)) (.tmp 22), none⟩, ⟨none, .mv (.tmp 23), none⟩, ⟨none, .mv (.var 24), some (.tmp 24, false)⟩, ⟨none, .indexArr 2 1 (.var 4) (.tmp 25), some (.tmp 24, false)⟩, ⟨none, .load false 1 (.tmp 26), some (.tmp 24, false)⟩, ⟨none, .call (.fn 27) [.tmp 27], some (.tmp 24, false)⟩, ⟨none, .mv (.var 24), some (.tmp 24, false)⟩, ⟨none, .indexArr 2 1 (.var 5) (.tmp 29), some (.tmp 24, false)⟩, ⟨none, .load false 1 (.tmp 30), some (.tmp 24, false)⟩, ⟨none, .nilCheck (.tmp 31), some (.tmp 24, false)⟩, ⟨none, .fieldAddr 2 (.tmp 32), some (.tmp 24, false)⟩, ⟨none, .load false 1 (.tmp 33), some (.tmp 24, false)⟩, ⟨none, .lenSl (.tmp 34), some (.tmp 24, false)⟩, ⟨none, .bin .neq (.tmp 28) (.tmp 35), some (.tmp 24, false)⟩, ⟨none, .pick (.tmp 24) (.cst (.bool true)) (.tmp 36), none⟩, ⟨none, .mv (.tmp 37), none⟩, ⟨none, .indexArr 3 1 (.var 13) (.cst (.int .i64 2)), some (.tmp 38, false)⟩, ⟨none, .load false 1 (.tmp 39), some (.tmp 38, false)⟩, ⟨none, .call (.fn 15) [.tmp 40, .cst (.int .i64 3)], some (.tmp 38, false)⟩, ⟨none, .bin .eql (.tmp 41) (.cst (.int .i64 0)), some (.tmp 38, false)⟩, ⟨none, .mv (.tmp 42), some (.tmp 38, false)⟩, ⟨none, .mv (.var 24), some (.tmp 43, true)⟩, ⟨none, .indexArr 2 1 (.var 4) (.tmp 44), some (.tmp 43, true)⟩, ⟨none, .load false 1 (.tmp 45), some (.tmp 43, true)⟩, ⟨none, .call (.fn 28) [.tmp 46], some (.tmp 43, true)⟩, ⟨none, .mv (.var 24), some (.tmp 43, true)⟩, ⟨none, .indexArr 2 1 (.var 5) (.tmp 48), some (.tmp 43, true)⟩, ⟨none, .load false 1 (.tmp 49), some (.tmp 43, true)⟩, ⟨none, .call (.fn 29) [.tmp 50], some (.tmp 43, true)⟩, ⟨none, .call (.fn 22) [.tmp 47, .tmp 51], some (.tmp 43, true)⟩, ⟨none, .un .not (.tmp 52), some (.tmp 43, true)⟩, ⟨none, .pick (.tmp 43) (.tmp 53) (.cst (.bool false)), some (.tmp 38, false)⟩, ⟨some 40, .pick (.tmp 38) (.cst (.bool true)) (.tmp 54), none⟩] [(28, 30), (28, 31), (28, 33), (28, 34), (47, 49), (47, 50)]) (.cond (.var 40) (.seq (.region [⟨some 2, .mv (.cst (.bool false)), none⟩]) .ret) .skip))) (.kill [2, 6, 7, 8, 9, 10, 14, 15, 16, 17, 18, 19, 20, 21, 22, 23, 25, 26, 27, 28, 29, 30, 31, 32, 33, 34, 35, 36, 37, 38, 39, 40])) (.region [⟨none, .mv (.var 24), none⟩, ⟨none, .bin .add (.tmp 0) (.cst (.int .i64 1)), none⟩, ⟨some 24, .mv (.tmp 1), none⟩]))
def lp3x3 : MC := .seq (.seq (.region [⟨none, .mv (.var 12), none⟩, ⟨none, .mv (.var 0), none⟩, ⟨none, .lenSl (.tmp 1), none⟩, ⟨none, .bin .lss (.tmp 0) (.tmp 2), none⟩, ⟨none, .mv (.tmp 3), none⟩, ⟨none, .mv (.var 12), some (.tmp 4, true)⟩, ⟨none, .bin .lss (.tmp 5) (.cst (.int .i64 60)), some (.tmp 4, true)⟩, ⟨some 27, .pick (.tmp 4) (.tmp 6) (.cst (.bool false)), none⟩]) (.cond (.var 27) .skip (.exit 2))) (.seq (.seq (.block 3 (.seq (.region [⟨none, .mv (.var 0), none⟩, ⟨none, .mv (.var 12), none⟩, ⟨none, .indexSl 3 (.tmp 0) (.tmp 1), none⟩, ⟨none, .load true 3 (.tmp 2), none⟩, ⟨some 13, .alloc 3 (.agg [.int .i64 0, .int .i64 0, .int .i64 0]), none⟩, ⟨none, .store 3 (.var 13) (.tmp 3), none⟩]) (.seq (.region [⟨none, .indexArr 3 1 (.var 13) (.cst (.int .i64 1)), none⟩, ⟨none, .load false 1 (.tmp 0), none⟩, ⟨none, .call (.fn 15) [.tmp 1, .cst (.int .i64 2)], none⟩, ⟨some 14, .mv (.tmp 2), none⟩]) (.seq (.seq (.region [⟨none, .indexArr 3 1 (.var 13) (.cst (.int .i64 0)), none⟩, ⟨none, .load false 1 (.tmp 0), none⟩, ⟨some 28, .call (.fn 15) [.tmp 1, .cst (.int .i64 10)], none⟩]) (.seq (.block 4 (.seq (.seq (.region [⟨none, .bin .eql (.var 28) (.cst (.int .i64 0)), none⟩, ⟨some 32, .mv (.tmp 0), none⟩]) (.cond (.var 32) .skip (.seq (.region [⟨none, .bin .eql (.var 28) (.cst (.int .i64 1)), none⟩, ⟨some 32, .mv (.tmp 0), none⟩]) (.cond (.var 32) .skip (.region [⟨none, .bin .eql (.var 28) (.cst (.int .i64 2)), none⟩, ⟨some 32, .mv (.tmp 0), none⟩]))))) (.cond (.var 32) (.seq (.regionD [17, 15, 22, 25, 26] [⟨none, .mv (.var 14), none⟩, ⟨none, .indexArr 2 1 (.var 4) (.tmp 0), none⟩, ⟨none, .load false 1 (.tmp 1), none⟩, ⟨none, .mv (.var 12), none⟩, ⟨none, .call (.fn 17) [.tmp 3], none⟩, ⟨none, .call (.fn 16) [.tmp 2, .tmp 4], none⟩, ⟨none, .mv (.var 14), none⟩, ⟨none, .indexArr 2 1 (.var 5) (.tmp 6), none⟩, ⟨none, .load false 1 (.tmp 7), none⟩, ⟨none, .mv (.var 12), none⟩, ⟨none, .call (.fn 17) [.tmp 9], none⟩, ⟨none, .call (.fn 18) [.tmp 8, .tmp 10], none⟩, ⟨some 33, .bin .neq (.tmp 5) (.tmp 11), none⟩] [(5, 7), (5, 8)]) (.cond (.var 33) (.seq (.region [⟨some 2, .mv (.cst (.bool false)), none⟩]) .ret) .skip)) (.seq (.seq (.region [⟨none, .bin .eql (.var 28) (.cst (.int .i64 3)), none⟩, ⟨some 34, .mv (.tmp 0), none⟩]) (.cond (.var 34) .skip (.seq (.region [⟨none, .bin .eql (.var 28) (.cst (.int .i64 4)), none⟩, ⟨some 34, .mv (.tmp 0), none⟩]) (.cond (.var 34) .skip (.region [⟨none, .bin .eql (.var 28) (.cst (.int .i64 5)), none⟩, ⟨some 34, .mv (.tmp 0), none⟩]))))) (.cond (.var 34) (.seq (.region [⟨none, .mv (.var 14), none⟩, ⟨none, .indexArr 2 1 (.var 4) (.tmp 0), none⟩, ⟨none, .load false 1 (.tmp 1), none⟩, ⟨none, .call (.fn 19) [.tmp 2], none⟩, ⟨some 15, .mv (.tmp 3), none⟩]) (.seq (.region [⟨none, .mv (.var 14), none⟩, ⟨none, .indexArr 2 1 (.var 5) (.tmp 0), none⟩, ⟨none, .load false 1 (.tmp 1), none⟩, ⟨none, .call (.fn 20) [.tmp 2], none⟩, ⟨some 16, .mv (.tmp 3), none⟩]) (.seq (.seq (.region [⟨none, .mv (.var 15), none⟩, ⟨none, .mv (.var 16), none⟩, ⟨none, .call (.fn 21) [.tmp 0, .tmp 1], none⟩, ⟨some 35, .un .not (.tmp 2), none⟩]) (.cond (.var 35) (.seq (.region [⟨some 2, .mv (.cst (.bool false)), none⟩]) .ret) .skip)) (.seq (.region [⟨some 17, .mv (.cst (.int .i64 0)), none⟩]) (.seq (.block 5 (.loop [2, 6, 7, 8, 9, 10, 15, 18, 19, 20, 21, 22, 23, 24, 25, 26, 27, 28, 29, 30, 31, 32, 33, 34, 35, 36, 37, 38, 39, 40] lp3x1)) (.kill [2, 6, 7, 8, 9, 10, 14, 15, 16, 17, 18, 19, 20, 21, 22, 23, 24, 25, 26, 27, 28, 29, 30, 31, 32, 33, 34, 35, 36, 37, 38, 39, 40])))))) (.seq (.region [⟨none, .bin .eql (.var 28) (.cst (.int .i64 9)), none⟩, ⟨some 37, .mv (.tmp 0), none⟩]) (.cond (.var 37) (.seq (.region [⟨none, .mv (.var 14), none⟩, ⟨none, .indexArr 2 1 (.var 5) (.tmp 0), none⟩, ⟨none, .load false 1 (.tmp 1), none⟩, ⟨none, .nilCheck (.tmp 2), none⟩, ⟨none, .fieldAddr 0 (.tmp 3), none⟩, ⟨none, .load false 1 (.tmp 4), none⟩, ⟨none, .indexArr 3 1 (.var 13) (.cst (.int .i64 2)), none⟩, ⟨none, .load false 1 (.tmp 6), none⟩, ⟨none, .call (.fn 15) [.tmp 7, .cst (.int .i64 4)], none⟩, ⟨none, .bin .add (.tmp 5) (.tmp 8), none⟩, ⟨some 18, .mv (.tmp 9), none⟩]) (.seq (.region [⟨none, .mv (.var 18), none⟩, ⟨none, .call (.fn 13) [.tmp 0], none⟩, ⟨none, .mv (.tmp 1), none⟩, ⟨none, .extract (.tmp 2) 0, none⟩, ⟨none, .extract (.tmp 2) 1, none⟩, ⟨some 19, .mv (.tmp 3), none⟩, ⟨some 20, .mv (.tmp 4), none⟩]) (.seq (.region [⟨none, .mv (.var 18), none⟩, ⟨none, .call (.fn 14) [.tmp 0], none⟩, ⟨none, .mv (.tmp 1), none⟩, ⟨none, .extract (.tmp 2) 0, none⟩, ⟨none, .extract (.tmp 2) 1, none⟩, ⟨some 21, .mv (.tmp 3), none⟩, ⟨some 22, .mv (.tmp 4), none⟩]) (.seq (.seq (.region [⟨none, .mv (.var 20), none⟩, ⟨none, .mv (.var 22), none⟩, ⟨some 38, .bin .neq (.tmp 0) (.tmp 1), none⟩]) (.cond (.var 38) (.seq (.region [⟨some 2, .mv (.cst (.bool false)), none⟩]) .ret) .skip)) (.seq (.region [⟨none, .mv (.var 14), none⟩, ⟨none, .mv (.var 19), none⟩, ⟨none, .indexArr 2 1 (.var 4) (.tmp 0), none⟩, ⟨none, .store 1 (.tmp 2) (.tmp 1), none⟩]) (.region [⟨none, .mv (.var 14), none⟩, ⟨none, .mv (.var 21), none⟩, ⟨none, .indexArr 2 1 (.var 5) (.tmp 0), none⟩, ⟨none, .store 1 (.tmp 2) (.tmp 1), none⟩])))))) (.seq (.region [⟨none, .mv (.var 14), none⟩, ⟨none, .build [.int .i64 0, .int .i64 0, .int .i64 0, .int .i64 0, .int .i64 0, .str []] [(0, (1, .tmp 0))], none⟩, ⟨some 23, .alloc 6 (.agg [.int .i64 0, .int .i64 0, .int .i64 0, .int .i64 0, .int .i64 0, .str []]), none⟩, ⟨none, .store 6 (.var 23) (.tmp 1), none⟩]) (.seq (.seq (.region [⟨none, .indexArr 3 1 (.var 13) (.cst (.int .i64 0)), none⟩, ⟨none, .load false 1 (.tmp 0), none⟩, ⟨none, .call (.fn 15) [.tmp 1, .cst (.int .i64 10)], none⟩, ⟨none, .bin .eql (.tmp 2) (.cst (.int .i64 8)), none⟩, ⟨none, .mv (.tmp 3), none⟩, ⟨none, .mv (.var 1), some (.tmp 4, true)⟩, ⟨none, .lenSl (.tmp 5), some (.tmp 4, true)⟩, ⟨none, .bin .gtr (.tmp 6) (.cst (.int .i64 0)), some (.tmp 4, true)⟩, ⟨some 29, .pick (.tmp 4) (.tmp 7) (.cst (.bool false)), none⟩]) (.cond (.var 29) (.region [⟨none, .mv (.var 1), none⟩, ⟨none, .indexArr 3 1 (.var 13) (.cst (.int .i64 2)), none⟩, ⟨none, .load false 1 (.tmp 1), none⟩, ⟨none, .mv (.var 1), none⟩, ⟨none, .lenSl (.tmp 3), none⟩, ⟨none, .call (.fn 15) [.tmp 2, .tmp 4], none⟩, ⟨none, .indexSl 5 (.tmp 0) (.tmp 5), none⟩, ⟨none, .load true 5 (.tmp 6), none⟩, ⟨none, .fieldAddr 1 (.var 23), none⟩, ⟨none, .store 5 (.tmp 8) (.tmp 7), none⟩]) (.seq (.region [⟨none, .mv (.var 11), none⟩, ⟨none, .lenSl (.tmp 0), none⟩, ⟨some 30, .bin .gtr (.tmp 1) (.cst (.int .i64 0)), none⟩]) (.cond (.var 30) (.region [⟨none, .mv (.var 11), none⟩, ⟨none, .indexArr 3 1 (.var 13) (.cst (.int .i64 2)), none⟩, ⟨none, .load false 1 (.tmp 1), none⟩, ⟨none, .mv (.var 11), none⟩, ⟨none, .lenSl (.tmp 3), none⟩, ⟨none, .call (.fn 15) [.tmp 2, .tmp 4], none⟩, ⟨none, .indexSl 6 (.tmp 0) (.tmp 5), none⟩, ⟨none, .load true 6 (.tmp 6), none⟩, ⟨none, .store 6 (.var 23) (.tmp 7), none⟩]) .skip)))) (.seq (.regionD [17, 15, 22, 25, 26] [⟨none, .fieldAddr 0 (.var 23), none⟩, ⟨none, .load false 1 (.tmp 0), none⟩, ⟨none, .indexArr 2 1 (.var 4) (.tmp 1), none⟩, ⟨none, .load false 1 (.tmp 2), none⟩, ⟨none, .fieldAddr 1 (.var 23), none⟩, ⟨none, .load true 5 (.tmp 4), none⟩, ⟨none, .call (.fn 23) [.tmp 3, .tmp 5], none⟩, ⟨none, .fieldAddr 0 (.var 23), none⟩, ⟨none, .load false 1 (.tmp 7), none⟩, ⟨none, .indexArr 2 1 (.var 5) (.tmp 8), none⟩, ⟨none, .load false 1 (.tmp 9), none⟩, ⟨none, .fieldAddr 1 (.var 23), none⟩, ⟨none, .load true 5 (.tmp 11), none⟩, ⟨none, .call (.fn 24) [.tmp 10, .tmp 12], none⟩, ⟨none, .call (.fn 22) [.tmp 6, .tmp 13], none⟩, ⟨some 31, .un .not (.tmp 14), none⟩] [(6, 7), (6, 8), (6, 9), (6, 10), (6, 11), (6, 12)]) (.cond (.var 31) (.seq (.region [⟨some 2, .mv (.cst (.bool false)), none⟩]) .ret) .skip))))))))))) (.kill [2, 6, 7, 8, 9, 10, 14, 15, 16, 17, 18, 19, 20, 21, 22, 23, 24, 25, 26, 27, 28, 29, 30, 31, 32, 33, 34, 35, 36, 37, 38, 39, 40]))) (.seq (.region [⟨some 24, .mv (.cst (.int .i64 0)), none⟩]) (.seq (.block 7 (.loop [2, 6, 7, 8, 9, 10, 14, 15, 16, 17, 18, 19, 20, 21, 22, 23, 25, 26, 27, 28, 29, 30, 31, 32, 33, 34, 35, 36, 37, 38, 39, 40] lp3x2)) (.kill [2, 6, 7, 8, 9, 10, 13, 14, 15, 16, 17, 18, 19, 20, 21, 22, 23, 24, 25, 26, 27, 28, 29, 30, 31, 32, 33, 34, 35, 36, 37, 38, 39, 40]))))))) (.kill [2, 6, 7, 8, 9, 10, 13, 14, 15, 16, 17, 18, 19, 20, 21, 22, 23, 24, 25, 26, 27, 28, 29, 30, 31, 32, 33, 34, 35, 36, 37, 38, 39, 40])) (.region [⟨none, .mv (.var 12), none⟩, ⟨none, .bin .add (.tmp 0) (.cst (.int .i64 1)), none⟩, ⟨some 12, .mv (.tmp 1), none⟩]))
def mf3 : MFun := ⟨2, 41, .seq (.region [⟨some 2, .mv (.cst (.bool false)), none⟩]) (.seq (.region [⟨none, .call (.fn 12) [], none⟩, ⟨some 3, .mv (.tmp 0), none⟩]) (.seq (.region [⟨some 4, .alloc 2 (.agg [.nilP, .nilP]), none⟩]) (.seq (.region [⟨some 5, .alloc 2 (.agg [.nilP, .nilP]), none⟩]) (.seq (.seq (.region [⟨some 6, .mv (.cst (.int .i64 0)), none⟩]) (.seq (.block 0 (.loop [2, 7, 8, 9, 10, 11, 12, 13, 14, 15, 16, 17, 18, 19, 20, 21, 22, 23, 24, 25, 26, 27, 28, 29, 30, 31, 32, 33, 34, 35, 36, 37, 38, 39, 40] lp3x0)) (.kill [2, 6, 7, 8, 9, 10, 11, 12, 13, 14, 15, 16, 17, 18, 19, 20, 21, 22, 23, 24, 25, 26, 27, 28, 29, 30, 31, 32, 33, 34, 35, 36, 37, 38, 39, 40]))) (.seq (.region [⟨some 11, .mv (.cst .nilS), none⟩]) (.seq (.seq (.region [⟨some 12, .mv (.cst (.int .i64 0)), none⟩]) (.seq (.block 2 (.loop [2, 6, 7, 8, 9, 10, 13, 14, 15, 16, 17, 18, 19, 20, 21, 22, 23, 24, 25, 26, 27, 28, 29, 30, 31, 32, 33, 34, 35, 36, 37, 38, 39, 40] lp3x3)) (.kill [0, 1, 2, 4, 5, 6, 7, 8, 9, 10, 11, 12, 13, 14, 15, 16, 17, 18, 19, 20, 21, 22, 23, 24, 25, 26, 27, 28, 29, 30, 31, 32, 33, 34, 35, 36, 37, 38, 39, 40]))) (.seq (.region [⟨none, .mv (.var 3), none⟩, ⟨some 2, .mv (.tmp 0), none⟩]) .ret))))))), [.tmp 2]⟩
def mask3x1 : List Nat := [2, 6, 7, 8, 9, 10, 15, 18, 19, 20, 21, 22, 23, 24, 25, 26, 27, 28, 29, 30, 31, 32, 33, 34, 35, 36, 37, 38, 39, 40]
abbrev st3x1 (v0 v1 v3 v4 v5 v11 v12 v13 v14 v16 v17 : AV) : List AV := [v0, v1, .undef, v3, v4, v5, .undef, .undef, .undef, .undef, .undef, v11, v12, v13, v14, .undef, v16, v17, .undef, .undef, .undef, .undef, .undef, .undef, .undef, .undef, .undef, .undef, .undef, .undef, .undef, .undef, .undef, .undef, .undef, .undef, .undef, .undef, .undef, .undef, .undef]
theorem cl3x1 {v0 v1 d2 v3 v4 v5 d6 d7 d8 d9 d10 v11 v12 v13 v14 d15 v16 v17 d18 d19 d20 d21 d22 d23 d24 d25 d26 d27 d28 d29 d30 d31 d32 d33 d34 d35 d36 d37 d38 d39 d40 : AV} : clear mask3x1 [v0, v1, d2, v3, v4, v5, d6, d7, d8, d9, d10, v11, v12, v13, v14, d15, v16, v17, d18, d19, d20, d21, d22, d23, d24, d25, d26, d27, d28, d29, d30, d31, d32, d33, d34, d35, d36, d37, d38, d39, d40] = st3x1 v0 v1 v3 v4 v5 v11 v12 v13 v14 v16 v17 := by simp only [mask3x1, clear, List.foldl_cons, List.foldl_nil, List.set_cons_zero, List.set_cons_succ]
theorem go3x1 {E : Env} {fuel : Nat} {A : Arena} {o : Out} {k : List KC} {v0 v1 d2 v3 v4 v5 d6 d7 d8 d9 d10 v11 v12 v13 v14 d15 v16 v17 d18 d19 d20 d21 d22 d23 d24 d25 d26 d27 d28 d29 d30 d31 d32 d33 d34 d35 d36 d37 d38 d39 d40 : AV} (h : iter (evC E fuel lp3x1) mask3x1 fuel (st3x1 v0 v1 v3 v4 v5 v11 v12 v13 v14 v16 v17) A = some o) :
    run E fuel (.code (.loop [2, 6, 7, 8, 9, 10, 15, 18, 19, 20, 21, 22, 23, 24, 25, 26, 27, 28, 29, 30, 31, 32, 33, 34, 35, 36, 37, 38, 39, 40] lp3x1) :: k) [v0, v1, d2, v3, v4, v5, d6, d7, d8, d9, d10, v11, v12, v13, v14, d15, v16, v17, d18, d19, d20, d21, d22, d23, d24, d25, d26, d27, d28, d29, d30, d31, d32, d33, d34, d35, d36, d37, d38, d39, d40] A = after E fuel k o := run_loopC mask3x1 _ _ (by rw [cl3x1]; exact h)
def mask3x2 : List Nat := [2, 6, 7, 8, 9, 10, 14, 15, 16, 17, 18, 19, 20, 21, 22, 23, 25, 26, 27, 28, 29, 30, 31, 32, 33, 34, 35, 36, 37, 38, 39, 40]
abbrev st3x2 (v0 v1 v3 v4 v5 v11 v12 v13 v24 : AV) : List AV := [v0, v1, .undef, v3, v4, v5, .undef, .undef, .undef, .undef, .undef, v11, v12, v13, .undef, .undef, .undef, .undef, .undef, .undef, .undef, .undef, .undef, .undef, v24, .undef, .undef, .undef, .undef, .undef, .undef, .undef, .undef, .undef, .undef, .undef, .undef, .undef, .undef, .undef, .undef]
theorem cl3x2 {v0 v1 d2 v3 v4 v5 d6 d7 d8 d9 d10 v11 v12 v13 d14 d15 d16 d17 d18 d19 d20 d21 d22 d23 v24 d25 d26 d27 d28 d29 d30 d31 d32 d33 d34 d35 d36 d37 d38 d39 d40 : AV} : clear mask3x2 [v0, v1, d2, v3, v4, v5, d6, d7, d8, d9, d10, v11, v12, v13, d14, d15, d16, d17, d18, d19, d20, d21, d22, d23, v24, d25, d26, d27, d28, d29, d30, d31, d32, d33, d34, d35, d36, d37, d38, d39, d40] = st3x2 v0 v1 v3 v4 v5 v11 v12 v13 v24 := by simp only [mask3x2, clear, List.foldl_cons, List.foldl_nil, List.set_cons_zero, List.set_cons_succ]
theorem go3x2 {E : Env} {fuel : Nat} {A : Arena} {o : Out} {k : List KC} {v0 v1 d2 v3 v4 v5 d6 d7 d8 d9 d10 v11 v12 v13 d14 d15 d16 d17 d18 d19 d20 d21 d22 d23 v24 d25 d26 d27 d28 d29 d30 d31 d32 d33 d34 d35 d36 d37 d38 d39 d40 : AV} (h : iter (evC E fuel lp3x2) mask3x2 fuel (st3x2 v0 v1 v3 v4 v5 v11 v12 v13 v24) A = some o) :
    run E fuel (.code (.loop [2, 6, 7, 8, 9, 10, 14, 15, 16, 17, 18, 19, 20, 21, 22, 23, 25, 26, 27, 28, 29, 30, 31, 32, 33, 34, 35, 36, 37, 38, 39, 40] lp3x2) :: k) [v0, v1, d2, v3, v4, v5, d6, d7, d8, d9, d10, v11, v12, v13, d14, d15, d16, d17, d18, d19, d20, d21, d22, d23, v24, d25, d26, d27, d28, d29, d30, d31, d32, d33, d34, d35, d36, d37, d38, d39, d40] A = after E fuel k o := run_loopC mask3x2 _ _ (by rw [cl3x2]; exact h)
def mask3x0 : List Nat := [2, 7, 8, 9, 10, 11, 12, 13, 14, 15, 16, 17, 18, 19, 20, 21, 22, 23, 24, 25, 26, 27, 28, 29, 30, 31, 32, 33, 34, 35, 36, 37, 38, 39, 40]
abbrev st3x0 (v0 v1 v3 v4 v5 v6 : AV) : List AV := [v0, v1, .undef, v3, v4, v5, v6, .undef, .undef, .undef, .undef, .undef, .undef, .undef, .undef, .undef, .undef, .undef, .undef, .undef, .undef, .undef, .undef, .undef, .undef, .undef, .undef, .undef, .undef, .undef, .undef, .undef, .undef, .undef, .undef, .undef, .undef, .undef, .undef, .undef, .undef]
theorem cl3x0 {v0 v1 d2 v3 v4 v5 v6 d7 d8 d9 d10 d11 d12 d13 d14 d15 d16 d17 d18 d19 d20 d21 d22 d23 d24 d25 d26 d27 d28 d29 d30 d31 d32 d33 d34 d35 d36 d37 d38 d39 d40 : AV} : clear mask3x0 [v0, v1, d2, v3, v4, v5, v6, d7, d8, d9, d10, d11, d12, d13, d14, d15, d16, d17, d18, d19, d20, d21, d22, d23, d24, d25, d26, d27, d28, d29, d30, d31, d32, d33, d34, d35, d36, d37, d38, d39, d40] = st3x0 v0 v1 v3 v4 v5 v6 := by simp only [mask3x0, clear, List.foldl_cons, List.foldl_nil, List.set_cons_zero, List.set_cons_succ]
theorem go3x0 {E : Env} {fuel : Nat} {A : Arena} {o : Out} {k : List KC} {v0 v1 d2 v3 v4 v5 v6 d7 d8 d9 d10 d11 d12 d13 d14 d15 d16 d17 d18 d19 d20 d21 d22 d23 d24 d25 d26 d27 d28 d29 d30 d31 d32 d33 d34 d35 d36 d37 d38 d39 d40 : AV} (h : iter (evC E fuel lp3x0) mask3x0 fuel (st3x0 v0 v1 v3 v4 v5 v6) A = some o) :
    run E fuel (.code (.loop [2, 7, 8, 9, 10, 11, 12, 13, 14, 15, 16, 17, 18, 19, 20, 21, 22, 23, 24, 25, 26, 27, 28, 29, 30, 31, 32, 33, 34, 35, 36, 37, 38, 39, 40] lp3x0) :: k) [v0, v1, d2, v3, v4, v5, v6, d7, d8, d9, d10, d11, d12, d13, d14, d15, d16, d17, d18, d19, d20, d21, d22, d23, d24, d25, d26, d27, d28, d29, d30, d31, d32, d33, d34, d35, d36, d37, d38, d39, d40] A = after E fuel k o := run_loopC mask3x0 _ _ (by rw [cl3x0]; exact h)
def mask3x3 : List Nat := [2, 6, 7, 8, 9, 10, 13, 14, 15, 16, 17, 18, 19, 20, 21, 22, 23, 24, 25, 26, 27, 28, 29, 30, 31, 32, 33, 34, 35, 36, 37, 38, 39, 40]
abbrev st3x3 (v0 v1 v3 v4 v5 v11 v12 : AV) : List AV := [v0, v1, .undef, v3, v4, v5, .undef, .undef, .undef, .undef, .undef, v11, v12, .undef, .undef, .undef, .undef, .undef, .undef, .undef, .undef, .undef, .undef, .undef, .undef, .undef, .undef, .undef, .undef, .undef, .undef, .undef, .undef, .undef, .undef, .undef, .undef, .undef, .undef, .undef, .undef]
theorem cl3x3 {v0 v1 d2 v3 v4 v5 d6 d7 d8 d9 d10 v11 v12 d13 d14 d15 d16 d17 d18 d19 d20 d21 d22 d23 d24 d25 d26 d27 d28 d29 d30 d31 d32 d33 d34 d35 d36 d37 d38 d39 d40 : AV} : clear mask3x3 [v0, v1, d2, v3, v4, v5, d6, d7, d8, d9, d10, v11, v12, d13, d14, d15, d16, d17, d18, d19, d20, d21, d22, d23, d24, d25, d26, d27, d28, d29, d30, d31, d32, d33, d34, d35, d36, d37, d38, d39, d40] = st3x3 v0 v1 v3 v4 v5 v11 v12 := by simp only [mask3x3, clear, List.foldl_cons, List.foldl_nil, List.set_cons_zero, List.set_cons_succ]
theorem go3x3 {E : Env} {fuel : Nat} {A : Arena} {o : Out} {k : List KC} {v0 v1 d2 v3 v4 v5 d6 d7 d8 d9 d10 v11 v12 d13 d14 d15 d16 d17 d18 d19 d20 d21 d22 d23 d24 d25 d26 d27 d28 d29 d30 d31 d32 d33 d34 d35 d36 d37 d38 d39 d40 : AV} (h : iter (evC E fuel lp3x3) mask3x3 fuel (st3x3 v0 v1 v3 v4 v5 v11 v12) A = some o) :
    run E fuel (.code (.loop [2, 6, 7, 8, 9, 10, 13, 14, 15, 16, 17, 18, 19, 20, 21, 22, 23, 24, 25, 26, 27, 28, 29, 30, 31, 32, 33, 34, 35, 36, 37, 38, 39, 40] lp3x3) :: k) [v0, v1, d2, v3, v4, v5, d6, d7, d8, d9, d10, v11, v12, d13, d14, d15, d16, d17, d18, d19, d20, d21, d22, d23, d24, d25, d26, d27, d28, d29, d30, d31, d32, d33, d34, d35, d36, d37, d38, d39, d40] A = after E fuel k o := run_loopC mask3x3 _ _ (by rw [cl3x3]; exact h)
set_option maxHeartbeats 4000000 in
theorem comp3 : compFun Try.prog Try.f3 2 [0, 1, 4, 5, 6, 7, 8, 9, 10, 11, 12, 13, 14, 15, 16, 17, 18, 19, 20, 21, 22, 23, 24, 25, 26, 29, 45, 59, 71, 82, 94, 118, 119, 135, 136, 151, 155, 168, 192, 200, 258] [17, 15, 22, 25, 26] true ([[2, 7, 8, 9, 10, 11, 12, 13, 14, 15, 16, 17, 18, 19, 20, 21, 22, 23, 24, 25, 26, 27, 28, 29, 30, 31, 32, 33, 34, 35, 36, 37, 38, 39, 40], [2, 6, 7, 8, 9, 10, 13, 14, 15, 16, 17, 18, 19, 20, 21, 22, 23, 24, 25, 26, 27, 28, 29, 30, 31, 32, 33, 34, 35, 36, 37, 38, 39, 40], [2, 6, 7, 8, 9, 10, 15, 18, 19, 20, 21, 22, 23, 24, 25, 26, 27, 28, 29, 30, 31, 32, 33, 34, 35, 36, 37, 38, 39, 40], [2, 6, 7, 8, 9, 10, 14, 15, 16, 17, 18, 19, 20, 21, 22, 23, 25, 26, 27, 28, 29, 30, 31, 32, 33, 34, 35, 36, 37, 38, 39, 40]], [[2, 7, 8, 9, 10, 11, 12, 13, 14, 15, 16, 17, 18, 19, 20, 21, 22, 23, 24, 25, 26, 27, 28, 29, 30, 31, 32, 33, 34, 35, 36, 37, 38, 39, 40], [2, 6, 7, 8, 9, 10, 11, 12, 13, 14, 15, 16, 17, 18, 19, 20, 21, 22, 23, 24, 25, 26, 27, 28, 29, 30, 31, 32, 33, 34, 35, 36, 37, 38, 39, 40], [2, 6, 7, 8, 9, 10, 15, 18, 19, 20, 21, 22, 23, 24, 25, 26, 27, 28, 29, 30, 31, 32, 33, 34, 35, 36, 37, 38, 39, 40], [2, 6, 7, 8, 9, 10, 14, 15, 16, 17, 18, 19, 20, 21, 22, 23, 24, 25, 26, 27, 28, 29, 30, 31, 32, 33, 34, 35, 36, 37, 38, 39, 40], [2, 6, 7, 8, 9, 10, 14, 15, 16, 17, 18, 19, 20, 21, 22, 23, 24, 25, 26, 27, 28, 29, 30, 31, 32, 33, 34, 35, 36, 37, 38, 39, 40], [2, 6, 7, 8, 9, 10, 14, 15, 16, 17, 18, 19, 20, 21, 22, 23, 25, 26, 27, 28, 29, 30, 31, 32, 33, 34, 35, 36, 37, 38, 39, 40], [2, 6, 7, 8, 9, 10, 13, 14, 15, 16, 17, 18, 19, 20, 21, 22, 23, 24, 25, 26, 27, 28, 29, 30, 31, 32, 33, 34, 35, 36, 37, 38, 39, 40], [2, 6, 7, 8, 9, 10, 13, 14, 15, 16, 17, 18, 19, 20, 21, 22, 23, 24, 25, 26, 27, 28, 29, 30, 31, 32, 33, 34, 35, 36, 37, 38, 39, 40], [0, 1, 2, 4, 5, 6, 7, 8, 9, 10, 11, 12, 13, 14, 15, 16, 17, 18, 19, 20, 21, 22, 23, 24, 25, 26, 27, 28, 29, 30, 31, 32, 33, 34, 35, 36, 37, 38, 39, 40]]) = some mf3 := by kernel_rfl
theorem at3 : Try.prog.funcs[3]? = some Try.f3 := by kernel_rfl
def lp7x0 : MC := .seq (.seq (.region [⟨none, .mv (.var 4), none⟩, ⟨none, .mv (.var 0), none⟩, ⟨none, .lenSl (.tmp 1), none⟩, ⟨none, .bin .lss (.tmp 0) (.tmp 2), none⟩, ⟨none, .mv (.tmp 3), none⟩, ⟨none, .mv (.var 4), some (.tmp 4, true)⟩, ⟨none, .bin .lss (.tmp 5) (.cst (.int .i64 120)), some (.tmp 4, true)⟩, ⟨none, .pick (.tmp 4) (.tmp 6) (.cst (.bool false)), none⟩, ⟨none, .mv (.tmp 7), none⟩, ⟨none, .mv (.var 3), some (.tmp 8, true)⟩, ⟨none, .nilCheck (.tmp 9), some (.tmp 8, true)⟩, ⟨none, .fieldAddr 10 (.tmp 10), some (.tmp 8, true)⟩, ⟨none, .load false 1 (.tmp 11), some (.tmp 8, true)⟩, ⟨some 9, .pick (.tmp 8) (.tmp 12) (.cst (.bool false)), none⟩]) (.cond (.var 9) .skip (.exit 0))) (.seq (.seq (.block 1 (.region [⟨none, .mv (.var 3), none⟩, ⟨none, .mv (.var 0), none⟩, ⟨none, .mv (.var 4), none⟩, ⟨none, .indexSl 3 (.tmp 1) (.tmp 2), none⟩, ⟨none, .load true 3 (.tmp 3), none⟩, ⟨none, .call (.fn 37) [.tmp 0, .tmp 4], none⟩])) (.kill [1, 5, 6, 7, 8, 9, 10, 11, 12, 13, 14, 15])) (.region [⟨none, .mv (.var 4), none⟩, ⟨none, .bin .add (.tmp 0) (.cst (.int .i64 1)), none⟩, ⟨some 4, .mv (.tmp 1), none⟩]))
def lp7x1 : MC := .seq (.seq (.region [⟨none, .mv (.var 3), none⟩, ⟨none, .nilCheck (.tmp 0), none⟩, ⟨none, .fieldAddr 2 (.tmp 1), none⟩, ⟨none, .load false 1 (.tmp 2), none⟩, ⟨none, .lenSl (.tmp 3), none⟩, ⟨some 12, .bin .gtr (.tmp 4) (.cst (.int .i64 0)), none⟩]) (.cond (.var 12) .skip (.exit 4))) (.seq (.block 5 (.seq (.region [⟨none, .mv (.var 3), none⟩, ⟨none, .nilCheck (.tmp 0), none⟩, ⟨none, .fieldAddr 2 (.tmp 1), none⟩, ⟨none, .load false 1 (.tmp 2), none⟩, ⟨none, .indexSl 6 (.tmp 3) (.cst (.int .i64 0)), none⟩, ⟨none, .load true 6 (.tmp 4), none⟩, ⟨some 7, .alloc 6 (.agg [.int .i64 0, .int .i64 0, .int .i64 0, .int .i64 0, .int .i64 0, .str []]), none⟩, ⟨none, .store 6 (.var 7) (.tmp 5), none⟩]) (.seq (.region [⟨none, .mv (.var 3), none⟩, ⟨none, .call (.fn 38) [.tmp 0, .cst (.int .i64 0)], none⟩]) (.region [⟨none, .mv (.var 3), none⟩, ⟨none, .load true 6 (.var 7), none⟩, ⟨none, .call (.fn 39) [.tmp 0, .tmp 1], none⟩])))) (.kill [0, 1, 4, 7, 8, 9, 10, 11, 12, 13, 14, 15]))
def lp7x2 : MC := .seq (.seq (.region [⟨none, .mv (.var 6), none⟩, ⟨none, .mv (.var 5), none⟩, ⟨some 11, .bin .lss (.tmp 0) (.tmp 1), none⟩]) (.cond (.var 11) .skip (.exit 2))) (.seq (.seq (.block 3 (.seq (.seq (.block 4 (.loop [0, 1, 4, 7, 8, 9, 10, 11, 12, 13, 14, 15] lp7x1)) (.kill [0, 1, 4, 7, 8, 9, 10, 11, 12, 13, 14, 15])) (.seq (.region [⟨none, .mv (.var 3), none⟩, ⟨none, .call (.fn 40) [.tmp 0, .cst (.int .i64 0)], none⟩]) (.region [⟨none, .mv (.var 3), none⟩, ⟨none, .call (.fn 40) [.tmp 0, .cst (.int .i64 1)], none⟩])))) (.kill [0, 1, 4, 7, 8, 9, 10, 11, 12, 13, 14, 15])) (.region [⟨none, .mv (.var 6), none⟩, ⟨none, .bin .add (.tmp 0) (.cst (.int .i64 1)), none⟩, ⟨some 6, .mv (.tmp 1), none⟩]))
def lp7x3 : MC := .seq (.seq (.region [⟨none, .mv (.var 8), none⟩, ⟨none, .mv (.var 3), none⟩, ⟨none, .nilCheck (.tmp 1), none⟩, ⟨none, .fieldAddr 3 (.tmp 2), none⟩, ⟨none, .load false 1 (.tmp 3), none⟩, ⟨none, .lenSl (.tmp 4), none⟩, ⟨some 14, .bin .lss (.tmp 0) (.tmp 5), none⟩]) (.cond (.var 14) .skip (.exit 6))) (.seq (.seq (.block 7 (.seq (.region [⟨none, .mv (.var 3), none⟩, ⟨none, .nilCheck (.tmp 0), none⟩, ⟨none, .fieldAddr 4 (.tmp 1), none⟩, ⟨none, .load false 1 (.tmp 2), none⟩, ⟨none, .mv (.var 8), none⟩, ⟨none, .indexSl 1 (.tmp 3) (.tmp 4), none⟩, ⟨none, .load false 1 (.tmp 5), none⟩, ⟨none, .mv (.var 3), none⟩, ⟨none, .mv (.var 3), none⟩, ⟨none, .nilCheck (.tmp 8), none⟩, ⟨none, .fieldAddr 3 (.tmp 9), none⟩, ⟨none, .load false 1 (.tmp 10), none⟩, ⟨none, .mv (.var 8), none⟩, ⟨none, .indexSl 1 (.tmp 11) (.tmp 12), none⟩, ⟨none, .load false 1 (.tmp 13), none⟩, ⟨none, .nilCheck (.tmp 7), none⟩, ⟨none, .fieldAddr 0 (.tmp 15), none⟩, ⟨none, .indexArr 2 1 (.tmp 16) (.tmp 14), none⟩, ⟨none, .load false 1 (.tmp 17), none⟩, ⟨none, .call (.fn 26) [.tmp 18], none⟩, ⟨none, .bin .eql (.tmp 6) (.tmp 19), none⟩, ⟨none, .mv (.tmp 20), none⟩, ⟨none, .mv (.var 3), some (.tmp 21, true)⟩, ⟨none, .nilCheck (.tmp 22), some (.tmp 21, true)⟩, ⟨none, .fieldAddr 6 (.tmp 23), some (.tmp 21, true)⟩, ⟨none, .load false 1 (.tmp 24), some (.tmp 21, true)⟩, ⟨none, .mv (.var 8), some (.tmp 21, true)⟩, ⟨none, .indexSl 1 (.tmp 25) (.tmp 26), some (.tmp 21, true)⟩, ⟨none, .load false 1 (.tmp 27), some (.tmp 21, true)⟩, ⟨none, .bin .eql (.tmp 28) (.cst (.int .i64 0)), some (.tmp 21, true)⟩, ⟨none, .pick (.tmp 21) (.tmp 29) (.cst (.bool false)), none⟩, ⟨none, .mv (.tmp 30), none⟩, ⟨none, .mv (.var 3), some (.tmp 31, true)⟩, ⟨none, .nilCheck (.tmp 32), some (.tmp 31, true)⟩, ⟨none, .fieldAddr 7 (.tmp 33), some (.tmp 31, true)⟩, ⟨none, .load false 1 (.tmp 34), some (.tmp 31, true)⟩, ⟨none, .mv (.var 8), some (.tmp 31, true)⟩, ⟨none, .indexSl 1 (.tmp 35) (.tmp 36), some (.tmp 31, true)⟩, ⟨none, .load false 1 (.tmp 37), some (.tmp 31, true)⟩, ⟨none, .un .not (.tmp 38), some (.tmp 31, true)⟩, ⟨some 15, .pick (.tmp 31) (.tmp 39) (.cst (.bool false)), none⟩]) (.cond (.var 15) (.seq (.region [⟨some 1, .mv (.cst (.bool false)), none⟩]) .ret) .skip))) (.kill [0, 1, 4, 5, 6, 7, 9, 10, 11, 12, 13, 14, 15])) (.region [⟨none, .mv (.var 8), none⟩, ⟨none, .bin .add (.tmp 0) (.cst (.int .i64 1)), none⟩, ⟨some 8, .mv (.tmp 1), none⟩]))
def mf7 : MFun := ⟨1, 16, .seq (.region [⟨some 1, .mv (.cst (.bool false)), none⟩]) (.seq (.region [⟨none, .call (.fn 12) [], none⟩, ⟨some 2, .mv (.tmp 0), none⟩]) (.seq (.region [⟨none, .call (.fn 36) [], none⟩, ⟨some 3, .mv (.tmp 0), none⟩]) (.seq (.seq (.region [⟨some 4, .mv (.cst (.int .i64 0)), none⟩]) (.seq (.block 0 (.loop [1, 5, 6, 7, 8, 9, 10, 11, 12, 13, 14, 15] lp7x0)) (.kill [0, 1, 4, 5, 6, 7, 8, 9, 10, 11, 12, 13, 14, 15]))) (.seq (.seq (.region [⟨none, .mv (.var 3), none⟩, ⟨none, .nilCheck (.tmp 0), none⟩, ⟨none, .fieldAddr 10 (.tmp 1), none⟩, ⟨none, .load false 1 (.tmp 2), none⟩, ⟨some 10, .un .not (.tmp 3), none⟩]) (.cond (.var 10) (.seq (.region [⟨some 1, .mv (.cst (.bool false)), none⟩]) .ret) .skip)) (.seq (.regionD [26, 25] [⟨none, .mv (.var 3), none⟩, ⟨none, .nilCheck (.tmp 0), none⟩, ⟨none, .fieldAddr 0 (.tmp 1), none⟩, ⟨none, .indexArr 2 1 (.tmp 2) (.cst (.int .i64 0)), none⟩, ⟨none, .load false 1 (.tmp 3), none⟩, ⟨none, .call (.fn 27) [.tmp 4], none⟩, ⟨none, .mv (.var 3), none⟩, ⟨none, .nilCheck (.tmp 6), none⟩, ⟨none, .fieldAddr 0 (.tmp 7), none⟩, ⟨none, .indexArr 2 1 (.tmp 8) (.cst (.int .i64 1)), none⟩, ⟨none, .load false 1 (.tmp 9), none⟩, ⟨none, .call (.fn 27) [.tmp 10], none⟩, ⟨none, .minmax true (.tmp 5) [.tmp 11], none⟩, ⟨none, .bin .mul (.cst (.int .i64 3)) (.tmp 12), none⟩, ⟨none, .bin .add (.cst (.int .i64 12)) (.tmp 13), none⟩, ⟨some 5, .mv (.tmp 14), none⟩] [(5, 8), (5, 9), (5, 10)]) (.seq (.seq (.region [⟨some 6, .mv (.cst (.int .i64 0)), none⟩]) (.seq (.block 2 (.loop [0, 1, 4, 7, 8, 9, 10, 11, 12, 13, 14, 15] lp7x2)) (.kill [0, 1, 4, 5, 6, 7, 8, 9, 10, 11, 12, 13, 14, 15]))) (.seq (.seq (.region [⟨none, .mv (.var 3), none⟩, ⟨none, .nilCheck (.tmp 0), none⟩, ⟨none, .fieldAddr 10 (.tmp 1), none⟩, ⟨none, .load false 1 (.tmp 2), none⟩, ⟨none, .un .not (.tmp 3), none⟩, ⟨none, .mv (.tmp 4), none⟩, ⟨none, .mv (.var 3), some (.tmp 5, false)⟩, ⟨none, .nilCheck (.tmp 6), some (.tmp 5, false)⟩, ⟨none, .fieldAddr 0 (.tmp 7), some (.tmp 5, false)⟩, ⟨none, .indexArr 2 1 (.tmp 8) (.cst (.int .i64 0)), some (.tmp 5, false)⟩, ⟨none, .load false 1 (.tmp 9), some (.tmp 5, false)⟩, ⟨none, .call (.fn 27) [.tmp 10], some (.tmp 5, false)⟩, ⟨none, .bin .neq (.tmp 11) (.cst (.int .i64 0)), some (.tmp 5, false)⟩, ⟨none, .pick (.tmp 5) (.cst (.bool true)) (.tmp 12), none⟩, ⟨none, .mv (.tmp 13), none⟩, ⟨none, .mv (.var 3), some (.tmp 14, false)⟩, ⟨none, .nilCheck (.tmp 15), some (.tmp 14, false)⟩, ⟨none, .fieldAddr 0 (.tmp 16), some (.tmp 14, false)⟩, ⟨none, .indexArr 2 1 (.tmp 17) (.cst (.int .i64 1)), some (.tmp 14, false)⟩, ⟨none, .load false 1 (.tmp 18), some (.tmp 14, false)⟩, ⟨none, .call (.fn 27) [.tmp 19], some (.tmp 14, false)⟩, ⟨none, .bin .neq (.tmp 20) (.cst (.int .i64 0)), some (.tmp 14, false)⟩, ⟨some 13, .pick (.tmp 14) (.cst (.bool true)) (.tmp 21), none⟩]) (.cond (.var 13) (.seq (.region [⟨some 1, .mv (.cst (.bool false)), none⟩]) .ret) .skip)) (.seq (.seq (.region [⟨some 8, .mv (.cst (.int .i64 1)), none⟩]) (.seq (.block 6 (.loop [0, 1, 4, 5, 6, 7, 9, 10, 11, 12, 13, 14, 15] lp7x3)) (.kill [0, 1, 4, 5, 6, 7, 8, 9, 10, 11, 12, 13, 14, 15]))) (.seq (.region [⟨none, .mv (.var 2), none⟩, ⟨none, .mv (.tmp 0), none⟩, ⟨none, .mv (.var 3), some (.tmp 1, true)⟩, ⟨none, .nilCheck (.tmp 2), some (.tmp 1, true)⟩, ⟨none, .fieldAddr 0 (.tmp 3), some (.tmp 1, true)⟩, ⟨none, .indexArr 2 1 (.tmp 4) (.cst (.int .i64 0)), some (.tmp 1, true)⟩, ⟨none, .load false 1 (.tmp 5), some (.tmp 1, true)⟩, ⟨none, .call (.fn 25) [.tmp 6], some (.tmp 1, true)⟩, ⟨none, .mv (.var 3), some (.tmp 1, true)⟩, ⟨none, .nilCheck (.tmp 8), some (.tmp 1, true)⟩, ⟨none, .fieldAddr 0 (.tmp 9), some (.tmp 1, true)⟩, ⟨none, .indexArr 2 1 (.tmp 10) (.cst (.int .i64 1)), some (.tmp 1, true)⟩, ⟨none, .load false 1 (.tmp 11), some (.tmp 1, true)⟩, ⟨none, .call (.fn 26) [.tmp 12], some (.tmp 1, true)⟩, ⟨none, .bin .eql (.tmp 7) (.tmp 13), some (.tmp 1, true)⟩, ⟨none, .pick (.tmp 1) (.tmp 14) (.cst (.bool false)), none⟩, ⟨none, .mv (.tmp 15), none⟩, ⟨none, .mv (.var 3), some (.tmp 16, true)⟩, ⟨none, .nilCheck (.tmp 17), some (.tmp 16, true)⟩, ⟨none, .fieldAddr 0 (.tmp 18), some (.tmp 16, true)⟩, ⟨none, .indexArr 2 1 (.tmp 19) (.cst (.int .i64 1)), some (.tmp 16, true)⟩, ⟨none, .load false 1 (.tmp 20), some (.tmp 16, true)⟩, ⟨none, .call (.fn 25) [.tmp 21], some (.tmp 16, true)⟩, ⟨none, .mv (.var 3), some (.tmp 16, true)⟩, ⟨none, .nilCheck (.tmp 23), some (.tmp 16, true)⟩, ⟨none, .fieldAddr 0 (.tmp 24), some (.tmp 16, true)⟩, ⟨none, .indexArr 2 1 (.tmp 25) (.cst (.int .i64 0)), some (.tmp 16, true)⟩, ⟨none, .load false 1 (.tmp 26), some (.tmp 16, true)⟩, ⟨none, .call (.fn 26) [.tmp 27], some (.tmp 16, true)⟩, ⟨none, .bin .eql (.tmp 22) (.tmp 28), some (.tmp 16, true)⟩, ⟨none, .pick (.tmp 16) (.tmp 29) (.cst (.bool false)), none⟩, ⟨some 1, .mv (.tmp 30), none⟩]) .ret))))))))), [.tmp 1]⟩
def mask7x1 : List Nat := [0, 1, 4, 7, 8, 9, 10, 11, 12, 13, 14, 15]
abbrev st7x1 (v2 v3 v5 v6 : AV) : List AV := [.undef, .undef, v2, v3, .undef, v5, v6, .undef, .undef, .undef, .undef, .undef, .undef, .undef, .undef, .undef]
theorem cl7x1 {d0 d1 v2 v3 d4 v5 v6 d7 d8 d9 d10 d11 d12 d13 d14 d15 : AV} : clear mask7x1 [d0, d1, v2, v3, d4, v5, v6, d7, d8, d9, d10, d11, d12, d13, d14, d15] = st7x1 v2 v3 v5 v6 := by simp only [mask7x1, clear, List.foldl_cons, List.foldl_nil, List.set_cons_zero, List.set_cons_succ]
theorem go7x1 {E : Env} {fuel : Nat} {A : Arena} {o : Out} {k : List KC} {d0 d1 v2 v3 d4 v5 v6 d7 d8 d9 d10 d11 d12 d13 d14 d15 : AV} (h : iter (evC E fuel lp7x1) mask7x1 fuel (st7x1 v2 v3 v5 v6) A = some o) :
    run E fuel (.code (.loop [0, 1, 4, 7, 8, 9, 10, 11, 12, 13, 14, 15] lp7x1) :: k) [d0, d1, v2, v3, d4, v5, v6, d7, d8, d9, d10, d11, d12, d13, d14, d15] A = after E fuel k o := run_loopC mask7x1 _ _ (by rw [cl7x1]; exact h)
def mask7x0 : List Nat := [1, 5, 6, 7, 8, 9, 10, 11, 12, 13, 14, 15]
abbrev st7x0 (v0 v2 v3 v4 : AV) : List AV := [v0, .undef, v2, v3, v4, .undef, .undef, .undef, .undef, .undef, .undef, .undef, .undef, .undef, .undef, .undef]
theorem cl7x0 {v0 d1 v2 v3 v4 d5 d6 d7 d8 d9 d10 d11 d12 d13 d14 d15 : AV} : clear mask7x0 [v0, d1, v2, v3, v4, d5, d6, d7, d8, d9, d10, d11, d12, d13, d14, d15] = st7x0 v0 v2 v3 v4 := by simp only [mask7x0, clear, List.foldl_cons, List.foldl_nil, List.set_cons_zero, List.set_cons_succ]
theorem go7x0 {E : Env} {fuel : Nat} {A : Arena} {o : Out} {k : List KC} {v0 d1 v2 v3 v4 d5 d6 d7 d8 d9 d10 d11 d12 d13 d14 d15 : AV} (h : iter (evC E fuel lp7x0) mask7x0 fuel (st7x0 v0 v2 v3 v4) A = some o) :
    run E fuel (.code (.loop [1, 5, 6, 7, 8, 9, 10, 11, 12, 13, 14, 15] lp7x0) :: k) [v0, d1, v2, v3, v4, d5, d6, d7, d8, d9, d10, d11, d12, d13, d14, d15] A = after E fuel k o := run_loopC mask7x0 _ _ (by rw [cl7x0]; exact h)
def mask7x2 : List Nat := [0, 1, 4, 7, 8, 9, 10, 11, 12, 13, 14, 15]
abbrev st7x2 (v2 v3 v5 v6 : AV) : List AV := [.undef, .undef, v2, v3, .undef, v5, v6, .undef, .undef, .undef, .undef, .undef, .undef, .undef, .undef, .undef]
theorem cl7x2 {d0 d1 v2 v3 d4 v5 v6 d7 d8 d9 d10 d11 d12 d13 d14 d15 : AV} : clear mask7x2 [d0, d1, v2, v3, d4, v5, v6, d7, d8, d9, d10, d11, d12, d13, d14, d15] = st7x2 v2 v3 v5 v6 := by simp only [mask7x2, clear, List.foldl_cons, List.foldl_nil, List.set_cons_zero, List.set_cons_succ]
theorem go7x2 {E : Env} {fuel : Nat} {A : Arena} {o : Out} {k : List KC} {d0 d1 v2 v3 d4 v5 v6 d7 d8 d9 d10 d11 d12 d13 d14 d15 : AV} (h : iter (evC E fuel lp7x2) mask7x2 fuel (st7x2 v2 v3 v5 v6) A = some o) :
    run E fuel (.code (.loop [0, 1, 4, 7, 8, 9, 10, 11, 12, 13, 14, 15] lp7x2) :: k) [d0, d1, v2, v3, d4, v5, v6, d7, d8, d9, d10, d11, d12, d13, d14, d15] A = after E fuel k o := run_loopC mask7x2 _ _ (by rw [cl7x2]; exact h)
def mask7x3 : List Nat := [0, 1, 4, 5, 6, 7, 9, 10, 11, 12, 13, 14, 15]
abbrev st7x3 (v2 v3 v8 : AV) : List AV := [.undef, .undef, v2, v3, .undef, .undef, .undef, .undef, v8, .undef, .undef, .undef, .undef, .undef, .undef, .undef]
theorem cl7x3 {d0 d1 v2 v3 d4 d5 d6 d7 v8 d9 d10 d11 d12 d13 d14 d15 : AV} : clear mask7x3 [d0, d1, v2, v3, d4, d5, d6, d7, v8, d9, d10, d11, d12, d13, d14, d15] = st7x3 v2 v3 v8 := by simp only [mask7x3, clear, List.foldl_cons, List.foldl_nil, List.set_cons_zero, List.set_cons_succ]
theorem go7x3 {E : Env} {fuel : Nat} {A : Arena} {o : Out} {k : List KC} {d0 d1 v2 v3 d4 d5 d6 d7 v8 d9 d10 d11 d12 d13 d14 d15 : AV} (h : iter (evC E fuel lp7x3) mask7x3 fuel (st7x3 v2 v3 v8) A = some o) :
    run E fuel (.code (.loop [0, 1, 4, 5, 6, 7, 9, 10, 11, 12, 13, 14, 15] lp7x3) :: k) [d0, d1, v2, v3, d4, d5, d6, d7, v8, d9, d10, d11, d12, d13, d14, d15] A = after E fuel k o := run_loopC mask7x3 _ _ (by rw [cl7x3]; exact h)
set_option maxHeartbeats 4000000 in
theorem comp7 : compFun Try.prog Try.f7 1 [0, 2, 3, 4, 5, 6, 7, 8, 9, 25, 38, 56, 64, 102, 109, 152] [26, 25] true ([[1, 5, 6, 7, 8, 9, 10, 11, 12, 13, 14, 15], [0, 1, 4, 7, 8, 9, 10, 11, 12, 13, 14, 15], [0, 1, 4, 7, 8, 9, 10, 11, 12, 13, 14, 15], [0, 1, 4, 5, 6, 7, 9, 10, 11, 12, 13, 14, 15]], [[1, 5, 6, 7, 8, 9, 10, 11, 12, 13, 14, 15], [0, 1, 4, 5, 6, 7, 8, 9, 10, 11, 12, 13, 14, 15], [0, 1, 4, 7, 8, 9, 10, 11, 12, 13, 14, 15], [0, 1, 4, 7, 8, 9, 10, 11, 12, 13, 14, 15], [0, 1, 4, 7, 8, 9, 10, 11, 12, 13, 14, 15], [0, 1, 4, 5, 6, 7, 8, 9, 10, 11, 12, 13, 14, 15], [0, 1, 4, 5, 6, 7, 9, 10, 11, 12, 13, 14, 15], [0, 1, 4, 5, 6, 7, 8, 9, 10, 11, 12, 13, 14, 15]]) = some mf7 := by kernel_rfl
theorem at7 : Try.prog.funcs[7]? = some Try.f7 := by kernel_rfl
def mf37 : MFun := ⟨2, 17, .seq (.region [⟨some 2, .box (.var 1), none⟩]) (.seq (.region [⟨none, .indexArr 3 1 (.var 2) (.cst (.int .i64 1)), none⟩, ⟨none, .load false 1 (.tmp 0), none⟩, ⟨none, .call (.fn 15) [.tmp 1, .cst (.int .i64 2)], none⟩, ⟨some 3, .mv (.tmp 2), none⟩]) (.seq (.region [⟨none, .indexArr 3 1 (.var 2) (.cst (.int .i64 0)), none⟩, ⟨none, .load false 1 (.tmp 0), none⟩, ⟨some 8, .call (.fn 15) [.tmp 1, .cst (.int .i64 12)], none⟩]) (.seq (.block 0 (.seq (.seq (.region [⟨none, .bin .eql (.var 8) (.cst (.int .i64 0)), none⟩, ⟨some 12, .mv (.tmp 0), none⟩]) (.cond (.var 12) .skip (.seq (.region [⟨none, .bin .eql (.var 8) (.cst (.int .i64 1)), none⟩, ⟨some 12, .mv (.tmp 0), none⟩]) (.cond (.var 12) .skip (.region [⟨none, .bin .eql (.var 8) (.cst (.int .i64 2)), none⟩, ⟨some 12, .mv (.tmp 0), none⟩]))))) (.cond (.var 12) (.seq (.region [⟨none, .mv (.var 0), none⟩, ⟨none, .mv (.var 3), none⟩, ⟨none, .nilCheck (.tmp 0), none⟩, ⟨none, .fieldAddr 0 (.tmp 2), none⟩, ⟨none, .indexArr 2 1 (.tmp 3) (.tmp 1), none⟩, ⟨none, .load false 1 (.tmp 4), none⟩, ⟨none, .mv (.var 0), none⟩, ⟨none, .nilCheck (.tmp 6), none⟩, ⟨none, .fieldAddr 3 (.tmp 7), none⟩, ⟨none, .load false 1 (.tmp 8), none⟩, ⟨none, .lenSl (.tmp 9), none⟩, ⟨none, .call (.fn 17) [.tmp 10], none⟩, ⟨none, .call (.fn 16) [.tmp 5, .tmp 11], none⟩, ⟨some 13, .bin .eql (.tmp 12) (.cst (.int .i64 0)), none⟩]) (.cond (.var 13) (.seq (.region [⟨none, .mv (.var 0), none⟩, ⟨none, .mv (.var 0), none⟩, ⟨none, .nilCheck (.tmp 1), none⟩, ⟨none, .fieldAddr 3 (.tmp 2), none⟩, ⟨none, .load false 1 (.tmp 3), none⟩, ⟨none, .mv (.var 3), none⟩, ⟨none, .buildF 1 [.tmp 5], none⟩, ⟨none, .appendN 1 8 (.tmp 4) (.tmp 6), none⟩, ⟨none, .nilCheck (.tmp 0), none⟩, ⟨none, .fieldAddr 3 (.tmp 8), none⟩, ⟨none, .store 1 (.tmp 9) (.tmp 7), none⟩]) (.seq (.region [⟨none, .mv (.var 0), none⟩, ⟨none, .mv (.var 0), none⟩, ⟨none, .nilCheck (.tmp 1), none⟩, ⟨none, .fieldAddr 4 (.tmp 2), none⟩, ⟨none, .load false 1 (.tmp 3), none⟩, ⟨none, .mv (.var 0), none⟩, ⟨none, .mv (.var 3), none⟩, ⟨none, .nilCheck (.tmp 5), none⟩, ⟨none, .fieldAddr 0 (.tmp 7), none⟩, ⟨none, .indexArr 2 1 (.tmp 8) (.tmp 6), none⟩, ⟨none, .load false 1 (.tmp 9), none⟩, ⟨none, .call (.fn 26) [.tmp 10], none⟩, ⟨none, .buildF 1 [.tmp 11], none⟩, ⟨none, .appendN 1 8 (.tmp 4) (.tmp 12), none⟩, ⟨none, .nilCheck (.tmp 0), none⟩, ⟨none, .fieldAddr 4 (.tmp 14), none⟩, ⟨none, .store 1 (.tmp 15) (.tmp 13), none⟩]) (.seq (.region [⟨none, .mv (.var 0), none⟩, ⟨none, .mv (.var 0), none⟩, ⟨none, .nilCheck (.tmp 1), none⟩, ⟨none, .fieldAddr 5 (.tmp 2), none⟩, ⟨none, .load false 1 (.tmp 3), none⟩, ⟨none, .buildF 1 [.cst (.int .i64 0)], none⟩, ⟨none, .appendN 1 8 (.tmp 4) (.tmp 5), none⟩, ⟨none, .nilCheck (.tmp 0), none⟩, ⟨none, .fieldAddr 5 (.tmp 7), none⟩, ⟨none, .store 1 (.tmp 8) (.tmp 6), none⟩]) (.seq (.region [⟨none, .mv (.var 0), none⟩, ⟨none, .mv (.var 0), none⟩, ⟨none, .nilCheck (.tmp 1), none⟩, ⟨none, .fieldAddr 6 (.tmp 2), none⟩, ⟨none, .load false 1 (.tmp 3), none⟩, ⟨none, .buildF 1 [.cst (.int .i64 0)], none⟩, ⟨none, .appendN 1 8 (.tmp 4) (.tmp 5), none⟩, ⟨none, .nilCheck (.tmp 0), none⟩, ⟨none, .fieldAddr 6 (.tmp 7), none⟩, ⟨none, .store 1 (.tmp 8) (.tmp 6), none⟩]) (.region [⟨none, .mv (.var 0), none⟩, ⟨none, .mv (.var 0), none⟩, ⟨none, .nilCheck (.tmp 1), none⟩, ⟨none, .fieldAddr 7 (.tmp 2), none⟩, ⟨none, .load false 1 (.tmp 3), none⟩, ⟨none, .buildF 1 [.cst (.bool false)], none⟩, ⟨none, .appendN 1 1 (.tmp 4) (.tmp 5), none⟩, ⟨none, .nilCheck (.tmp 0), none⟩, ⟨none, .fieldAddr 7 (.tmp 7), none⟩, ⟨none, .store 1 (.tmp 8) (.tmp 6), none⟩]))))) .skip)) (.seq (.seq (.region [⟨none, .bin .eql (.var 8) (.cst (.int .i64 3)), none⟩, ⟨some 14, .mv (.tmp 0), none⟩]) (.cond (.var 14) .skip (.seq (.region [⟨none, .bin .eql (.var 8) (.cst (.int .i64 4)), none⟩, ⟨some 14, .mv (.tmp 0), none⟩]) (.cond (.var 14) .skip (.region [⟨none, .bin .eql (.var 8) (.cst (.int .i64 5)), none⟩, ⟨some 14, .mv (.tmp 0), none⟩]))))) (.cond (.var 14) (.region [⟨none, .mv (.var 0), none⟩, ⟨none, .mv (.var 3), none⟩, ⟨none, .call (.fn 40) [.tmp 0, .tmp 1], none⟩]) (.seq (.region [⟨none, .bin .eql (.var 8) (.cst (.int .i64 11)), none⟩, ⟨some 15, .mv (.tmp 0), none⟩]) (.cond (.var 15) (.seq (.region [⟨none, .mv (.var 0), none⟩, ⟨none, .mv (.var 3), none⟩, ⟨none, .nilCheck (.tmp 0), none⟩, ⟨none, .fieldAddr 0 (.tmp 2), none⟩, ⟨none, .indexArr 2 1 (.tmp 3) (.tmp 1), none⟩, ⟨none, .load false 1 (.tmp 4), none⟩, ⟨none, .call (.fn 26) [.tmp 5], none⟩, ⟨none, .bin .add (.tmp 6) (.cst (.int .i64 1)), none⟩, ⟨none, .indexArr 3 1 (.var 2) (.cst (.int .i64 2)), none⟩, ⟨none, .load false 1 (.tmp 8), none⟩, ⟨none, .call (.fn 15) [.tmp 9, .cst (.int .i64 3)], none⟩, ⟨none, .bin .add (.tmp 7) (.tmp 10), none⟩, ⟨none, .call (.fn 13) [.tmp 11], none⟩, ⟨none, .mv (.tmp 12), none⟩, ⟨none, .extract (.tmp 13) 0, none⟩, ⟨none, .extract (.tmp 13) 1, none⟩, ⟨some 4, .mv (.tmp 14), none⟩, ⟨some 5, .mv (.tmp 15), none⟩]) (.seq (.seq (.region [⟨none, .mv (.var 5), none⟩, ⟨none, .bin .neq (.tmp 0) (.cst (.int .i64 0)), none⟩, ⟨none, .mv (.tmp 1), none⟩, ⟨none, .mv (.var 4), some (.tmp 2, false)⟩, ⟨none, .eqNil 0 false (.tmp 3), some (.tmp 2, false)⟩, ⟨some 16, .pick (.tmp 2) (.cst (.bool true)) (.tmp 4), none⟩]) (.cond (.var 16) (.seq (.region [⟨none, .mv (.var 0), none⟩, ⟨none, .nilCheck (.tmp 0), none⟩, ⟨none, .fieldAddr 10 (.tmp 1), none⟩, ⟨none, .store 1 (.tmp 2) (.cst (.bool false)), none⟩]) .ret) .skip)) (.region [⟨none, .mv (.var 0), none⟩, ⟨none, .mv (.var 3), none⟩, ⟨none, .mv (.var 4), none⟩, ⟨none, .nilCheck (.tmp 0), none⟩, ⟨none, .fieldAddr 0 (.tmp 3), none⟩, ⟨none, .indexArr 2 1 (.tmp 4) (.tmp 1), none⟩, ⟨none, .store 1 (.tmp 5) (.tmp 2), none⟩]))) (.seq (.seq (.region [⟨none, .mv (.var 0), none⟩, ⟨none, .nilCheck (.tmp 0), none⟩, ⟨none, .fieldAddr 2 (.tmp 1), none⟩, ⟨none, .load false 1 (.tmp 2), none⟩, ⟨none, .lenSl (.tmp 3), none⟩, ⟨some 9, .bin .eql (.tmp 4) (.cst (.int .i64 0)), none⟩]) (.cond (.var 9) .ret .skip)) (.seq (.region [⟨none, .indexArr 3 1 (.var 2) (.cst (.int .i64 2)), none⟩, ⟨none, .load false 1 (.tmp 0), none⟩, ⟨none, .mv (.var 0), none⟩, ⟨none, .nilCheck (.tmp 2), none⟩, ⟨none, .fieldAddr 2 (.tmp 3), none⟩, ⟨none, .load false 1 (.tmp 4), none⟩, ⟨none, .lenSl (.tmp 5), none⟩, ⟨none, .call (.fn 15) [.tmp 1, .tmp 6], none⟩, ⟨some 6, .mv (.tmp 7), none⟩]) (.seq (.region [⟨none, .mv (.var 0), none⟩, ⟨none, .nilCheck (.tmp 0), none⟩, ⟨none, .fieldAddr 2 (.tmp 1), none⟩, ⟨none, .load false 1 (.tmp 2), none⟩, ⟨none, .mv (.var 6), none⟩, ⟨none, .indexSl 6 (.tmp 3) (.tmp 4), none⟩, ⟨none, .load true 6 (.tmp 5), none⟩, ⟨some 7, .alloc 6 (.agg [.int .i64 0, .int .i64 0, .int .i64 0, .int .i64 0, .int .i64 0, .str []]), none⟩, ⟨none, .store 6 (.var 7) (.tmp 6), none⟩]) (.seq (.seq (.region [⟨none, .indexArr 3 1 (.var 2) (.cst (.int .i64 0)), none⟩, ⟨none, .load false 1 (.tmp 0), none⟩, ⟨none, .call (.fn 15) [.tmp 1, .cst (.int .i64 12)], none⟩, ⟨some 10, .bin .neq (.tmp 2) (.cst (.int .i64 9)), none⟩]) (.cond (.var 10) (.region [⟨none, .mv (.var 0), none⟩, ⟨none, .mv (.var 6), none⟩, ⟨none, .call (.fn 38) [.tmp 0, .tmp 1], none⟩]) .skip)) (.seq (.region [⟨none, .indexArr 3 1 (.var 2) (.cst (.int .i64 0)), none⟩, ⟨none, .load false 1 (.tmp 0), none⟩, ⟨none, .call (.fn 15) [.tmp 1, .cst (.int .i64 12)], none⟩, ⟨some 11, .bin .neq (.tmp 2) (.cst (.int .i64 10)), none⟩]) (.cond (.var 11) (.region [⟨none, .mv (.var 0), none⟩, ⟨none, .load true 6 (.var 7), none⟩, ⟨none, .call (.fn 39) [.tmp 0, .tmp 1], none⟩]) .skip))))))))))))) (.kill [0, 1, 2, 3, 4, 5, 6, 7, 8, 9, 10, 11, 12, 13, 14, 15, 16])))), []⟩
set_option maxHeartbeats 4000000 in
theorem comp37 : compFun Try.prog Try.f37 2 [0, 1, 3, 4, 5, 6, 7, 8, 14, 20, 39, 46, 50, 67, 121, 128, 151] [17, 26, 15] true ([], [[0, 1, 2, 3, 4, 5, 6, 7, 8, 9, 10, 11, 12, 13, 14, 15, 16]]) = some mf37 := by kernel_rfl
theorem at37 : Try.prog.funcs[37]? = some Try.f37 := by kernel_rfl
def lp39x0 : MC := .seq (.seq (.region [⟨none, .mv (.var 4), none⟩, ⟨none, .mv (.var 3), none⟩, ⟨none, .lenSl (.tmp 1), none⟩, ⟨some 6, .bin .lss (.tmp 0) (.tmp 2), none⟩]) (.cond (.var 6) .skip (.exit 0))) (.seq (.seq (.block 1 (.seq (.region [⟨none, .mv (.var 3), none⟩, ⟨none, .mv (.var 4), none⟩, ⟨none, .indexSl 1 (.tmp 0) (.tmp 1), none⟩, ⟨none, .load false 1 (.tmp 2), none⟩, ⟨none, .call (.fn 56) [.tmp 3], none⟩, ⟨some 5, .mv (.tmp 4), none⟩]) (.seq (.seq (.region [⟨none, .mv (.var 5), none⟩, ⟨none, .bin .lss (.tmp 0) (.cst (.int .i64 1)), none⟩, ⟨none, .mv (.tmp 1), none⟩, ⟨none, .mv (.var 5), some (.tmp 2, false)⟩, ⟨none, .mv (.var 0), some (.tmp 2, false)⟩, ⟨none, .nilCheck (.tmp 4), some (.tmp 2, false)⟩, ⟨none, .fieldAddr 6 (.tmp 5), some (.tmp 2, false)⟩, ⟨none, .load false 1 (.tmp 6), some (.tmp 2, false)⟩, ⟨none, .lenSl (.tmp 7), some (.tmp 2, false)⟩, ⟨none, .bin .geq (.tmp 3) (.tmp 8), some (.tmp 2, false)⟩, ⟨none, .pick (.tmp 2) (.cst (.bool true)) (.tmp 9), none⟩, ⟨none, .mv (.tmp 10), none⟩, ⟨none, .mv (.var 0), some (.tmp 11, false)⟩, ⟨none, .nilCheck (.tmp 12), some (.tmp 11, false)⟩, ⟨none, .fieldAddr 6 (.tmp 13), some (.tmp 11, false)⟩, ⟨none, .load false 1 (.tmp 14), some (.tmp 11, false)⟩, ⟨none, .mv (.var 5), some (.tmp 11, false)⟩, ⟨none, .indexSl 1 (.tmp 15) (.tmp 16), some (.tmp 11, false)⟩, ⟨none, .load false 1 (.tmp 17), some (.tmp 11, false)⟩, ⟨none, .bin .neq (.tmp 18) (.cst (.int .i64 0)), some (.tmp 11, false)⟩, ⟨none, .pick (.tmp 11) (.cst (.bool true)) (.tmp 19), none⟩, ⟨none, .mv (.tmp 20), none⟩, ⟨none, .mv (.var 0), some (.tmp 21, false)⟩, ⟨none, .nilCheck (.tmp 22), some (.tmp 21, false)⟩, ⟨none, .fieldAddr 3 (.tmp 23), some (.tmp 21, false)⟩, ⟨none, .load false 1 (.tmp 24), some (.tmp 21, false)⟩, ⟨none, .mv (.var 5), some (.tmp 21, false)⟩, ⟨none, .indexSl 1 (.tmp 25) (.tmp 26), some (.tmp 21, false)⟩, ⟨none, .load false 1 (.tmp 27), some (.tmp 21, false)⟩, ⟨none, .fieldAddr 0 (.var 2), some (.tmp 21, false)⟩, ⟨none, .load false 1 (.tmp 29), some (.tmp 21, false)⟩, ⟨none, .bin .eql (.tmp 28) (.tmp 30), some (.tmp 21, false)⟩, ⟨none, .pick (.tmp 21) (.cst (.bool true)) (.tmp 31), none⟩, ⟨none, .mv (.tmp 32), none⟩, ⟨none, .mv (.var 5), some (.tmp 33, false)⟩, ⟨none, .mv (.var 0), some (.tmp 33, false)⟩, ⟨none, .fieldAddr 0 (.var 2), some (.tmp 33, false)⟩, ⟨none, .load false 1 (.tmp 36), some (.tmp 33, false)⟩, ⟨none, .nilCheck (.tmp 35), some (.tmp 33, false)⟩, ⟨none, .fieldAddr 8 (.tmp 38), some (.tmp 33, false)⟩, ⟨none, .indexArr 2 1 (.tmp 39) (.tmp 37), some (.tmp 33, false)⟩, ⟨none, .load false 1 (.tmp 40), some (.tmp 33, false)⟩, ⟨none, .bin .leq (.tmp 34) (.tmp 41), some (.tmp 33, false)⟩, ⟨none, .pick (.tmp 33) (.cst (.bool true)) (.tmp 42), none⟩, ⟨none, .mv (.tmp 43), none⟩, ⟨none, .mv (.var 0), some (.tmp 44, false)⟩, ⟨none, .nilCheck (.tmp 45), some (.tmp 44, false)⟩, ⟨none, .fieldAddr 5 (.tmp 46), some (.tmp 44, false)⟩, ⟨none, .load false 1 (.tmp 47), some (.tmp 44, false)⟩, ⟨none, .mv (.var 5), some (.tmp 44, false)⟩, ⟨none, .indexSl 1 (.tmp 48) (.tmp 49), some (.tmp 44, false)⟩, ⟨none, .load false 1 (.tmp 50), some (.tmp 44, false)⟩, ⟨none, .mv (.var 0), some (.tmp 44, false)⟩, ⟨none, .fieldAddr 0 (.var 2), some (.tmp 44, false)⟩, ⟨none, .load false 1 (.tmp 53), some (.tmp 44, false)⟩, ⟨none, .nilCheck (.tmp 52), some (.tmp 44, false)⟩, ⟨none, .fieldAddr 0 (.tmp 55), some (.tmp 44, false)⟩, ⟨none, .indexArr 2 1 (.tmp 56) (.tmp 54), some (.tmp 44, false)⟩, ⟨none, .load false 1 (.tmp 57), some (.tmp 44, false)⟩, ⟨none, .call (.fn 26) [.tmp 58], some (.tmp 44, false)⟩, ⟨none, .bin .neq (.tmp 51) (.tmp 59), some (.tmp 44, false)⟩, ⟨some 7, .pick (.tmp 44) (.cst (.bool true)) (.tmp 60), none⟩]) (.cond (.var 7) (.seq (.region [⟨none, .mv (.var 0), none⟩, ⟨none, .nilCheck (.tmp 0), none⟩, ⟨none, .fieldAddr 10 (.tmp 1), none⟩, ⟨none, .store 1 (.tmp 2) (.cst (.bool false)), none⟩]) .ret) .skip)) (.seq (.region [⟨none, .mv (.var 0), none⟩, ⟨none, .nilCheck (.tmp 0), none⟩, ⟨none, .fieldAddr 6 (.tmp 1), none⟩, ⟨none, .load false 1 (.tmp 2), none⟩, ⟨none, .mv (.var 5), none⟩, ⟨none, .mv (.var 0), none⟩, ⟨none, .fieldAddr 0 (.var 2), none⟩, ⟨none, .load false 1 (.tmp 6), none⟩, ⟨none, .nilCheck (.tmp 5), none⟩, ⟨none, .fieldAddr 0 (.tmp 8), none⟩, ⟨none, .indexArr 2 1 (.tmp 9) (.tmp 7), none⟩, ⟨none, .load false 1 (.tmp 10), none⟩, ⟨none, .call (.fn 26) [.tmp 11], none⟩, ⟨none, .indexSl 1 (.tmp 3) (.tmp 4), none⟩, ⟨none, .store 1 (.tmp 13) (.tmp 12), none⟩]) (.region [⟨none, .mv (.var 0), none⟩, ⟨none, .fieldAddr 0 (.var 2), none⟩, ⟨none, .load false 1 (.tmp 1), none⟩, ⟨none, .mv (.var 5), none⟩, ⟨none, .nilCheck (.tmp 0), none⟩, ⟨none, .fieldAddr 8 (.tmp 4), none⟩, ⟨none, .indexArr 2 1 (.tmp 5) (.tmp 2), none⟩, ⟨none, .store 1 (.tmp 6) (.tmp 3), none⟩]))))) (.kill [1, 5, 6, 7])) (.region [⟨none, .mv (.var 4), none⟩, ⟨none, .bin .add (.tmp 0) (.cst (.int .i64 1)), none⟩, ⟨some 4, .mv (.tmp 1), none⟩]))
def mf39 : MFun := ⟨2, 8, .seq (.region [⟨some 2, .box (.var 1), none⟩]) (.seq (.region [⟨none, .mv (.var 0), none⟩, ⟨none, .fieldAddr 0 (.var 2), none⟩, ⟨none, .load false 1 (.tmp 1), none⟩, ⟨none, .nilCheck (.tmp 0), none⟩, ⟨none, .fieldAddr 0 (.tmp 3), none⟩, ⟨none, .indexArr 2 1 (.tmp 4) (.tmp 2), none⟩, ⟨none, .load false 1 (.tmp 5), none⟩, ⟨none, .fieldAddr 1 (.var 2), none⟩, ⟨none, .load true 5 (.tmp 7), none⟩, ⟨none, .call (.fn 23) [.tmp 6, .tmp 8], none⟩, ⟨some 3, .mv (.tmp 9), none⟩]) (.seq (.seq (.region [⟨some 4, .mv (.cst (.int .i64 0)), none⟩]) (.seq (.block 0 (.loop [1, 5, 6, 7] lp39x0)) (.kill [1, 2, 3, 4, 5, 6, 7]))) (.region [⟨none, .mv (.var 0), none⟩, ⟨none, .call (.fn 57) [.tmp 0], none⟩]))), []⟩
def mask39x0 : List Nat := [1, 5, 6, 7]
abbrev st39x0 (v0 v2 v3 v4 : AV) : List AV := [v0, .undef, v2, v3, v4, .undef, .undef, .undef]
theorem cl39x0 {v0 d1 v2 v3 v4 d5 d6 d7 : AV} : clear mask39x0 [v0, d1, v2, v3, v4, d5, d6, d7] = st39x0 v0 v2 v3 v4 := by simp only [mask39x0, clear, List.foldl_cons, List.foldl_nil, List.set_cons_zero, List.set_cons_succ]
theorem go39x0 {E : Env} {fuel : Nat} {A : Arena} {o : Out} {k : List KC} {v0 d1 v2 v3 v4 d5 d6 d7 : AV} (h : iter (evC E fuel lp39x0) mask39x0 fuel (st39x0 v0 v2 v3 v4) A = some o) :
    run E fuel (.code (.loop [1, 5, 6, 7] lp39x0) :: k) [v0, d1, v2, v3, v4, d5, d6, d7] A = after E fuel k o := run_loopC mask39x0 _ _ (by rw [cl39x0]; exact h)
set_option maxHeartbeats 4000000 in
theorem comp39 : compFun Try.prog Try.f39 2 [0, 1, 3, 4, 5, 6, 20, 89] [26] true ([[1, 5, 6, 7]], [[1, 5, 6, 7], [1, 2, 3, 4, 5, 6, 7]]) = some mf39 := by kernel_rfl
theorem at39 : Try.prog.funcs[39]? = some Try.f39 := by kernel_rfl
end Go.Proofs.Ytfidjdlmmcaplaa
/-
  Link: functions changed at a place; frames on the line.
-/
namespace Go.Proofs.Ytfidjdlmmcaplaa
open Go

def upd {α : Type} (f : Nat → α) (s : Nat) (x : α) : Nat → α := fun t => if t = s then x else f t
theorem upd_same {α : Type} (f : Nat → α) (s : Nat) (x : α) : upd f s x s = x := if_pos rfl
theorem upd_ne {α : Type} (f : Nat → α) {s t : Nat} (x : α) (h : t ≠ s) : upd f s x t = f t := if_neg h
/-- a frame on the line, and to which end -/
def flA (x : Nat × FrS) : AV := .agg [.int .i64 (x.1 : Int), .int .i64 x.2.fr, .int .i64 x.2.to, .int .i64 x.2.seq, .int .i64 x.2.ack, .str x.2.body]
theorem own_nil0 (id : Nat) : own id .nilS .nilS = [id] := rfl
end Go.Proofs.Ytfidjdlmmcaplaa
/-
  Link: bounds.
-/
namespace Go.Proofs.Ytfidjdlmmcaplaa
open Go

/-- bounds after n calls -/
structure Wf (n : Nat) (S : EndS) : Prop where
  ticks : 0 ≤ S.ticks ∧ S.ticks ≤ n
  at_ : ∀ q ∈ S.queue, 0 ≤ q.at_ ∧ q.at_ ≤ n
  hello : 0 ≤ S.hello ∧ S.hello ≤ n
  queue : S.queue.length ≤ 64
  lost : S.lost.length + S.queue.length ≤ n
  received : 0 ≤ S.received ∧ S.received ≤ 4611686018427387903
  next : 1 ≤ S.next ∧ S.next ≤ n + 1
  heard : S.heard = true → S.peer > 0
  epoch : 1 ≤ S.epoch ∧ S.epoch ≤ 3 * n + 1
theorem Wf.mono {n m : Nat} {S : EndS} (h : Wf n S) (hnm : n ≤ m) : Wf m S := by
  obtain ⟨h1, h2, h3, h4, h5, h6, h7, h8, h9⟩ := h
  exact ⟨by omega, fun q hq => by have := h2 q hq; omega, by omega, h4, by omega, h6, by omega, h8, by omega⟩
theorem Wf.new (n : Nat) {e : Int} (he : 1 ≤ e ∧ e ≤ 3 * n + 1) : Wf n (newS e) :=
  ⟨by simp [newS], by simp [newS], by simp [newS], by simp [newS], by simp [newS], by simp [newS], by simp [newS]; omega, by simp [newS], he⟩
theorem Wf.bd {n : Nat} {S : EndS} (h : Wf n S) (hn : n ≤ 1000) : Bd S := by
  obtain ⟨h1, h2, h3, h4, h5, h6, h7, h8, h9⟩ := h
  exact ⟨by omega, fun q hq => by have := h2 q hq; omega, by omega⟩
theorem Wf.send {n : Nat} {S : EndS} (h : Wf n S) {b : Bytes} (hs : sendOk S b) : Wf (n + 1) (sendS S b) := by
  obtain ⟨h1, h2, h3, h4, h5, h6, h7, h8, h9⟩ := h
  refine ⟨by simp [sendS]; omega, fun q hq => ?_, by simp [sendS]; omega, by simp [sendS]; have := hs.2; omega, by simp [sendS]; omega, h6, by simp [sendS]; omega, h8, by simp [sendS]; omega⟩
  unfold sendS at hq
  rcases List.mem_append.1 hq with hq | hq
  · have := h2 q hq; omega
  · rw [List.mem_singleton] at hq
    subst hq
    simp
    omega
theorem p1_at {n : Nat} {S : EndS} (h2 : ∀ q ∈ S.queue, 0 ≤ q.at_ ∧ q.at_ ≤ n) (h1 : 0 ≤ S.ticks ∧ S.ticks ≤ n) : ∀ q ∈ (p1 S).1.queue, 0 ≤ q.at_ ∧ q.at_ ≤ n := by
  intro q hq
  unfold p1 at hq
  split at hq
  · simp only at hq
    rcases List.mem_append.1 hq with hq | hq
    · obtain ⟨r, hr, rfl⟩ := List.mem_map.1 hq
      unfold sentQ
      split
      · exact h1
      · exact h2 r (List.mem_of_mem_take hr)
    · exact h2 q (List.mem_of_mem_drop hq)
  · exact h2 q hq
theorem p1_len (S : EndS) : (p1 S).1.queue.length = S.queue.length := by
  unfold p1
  split
  · simp only [List.length_append, List.length_map, List.length_take, List.length_drop]
    omega
  · rfl
theorem p1_rest (S : EndS) : (p1 S).1.ticks = S.ticks ∧ (p1 S).1.hello = S.hello ∧ (p1 S).1.heard = S.heard ∧ (p1 S).1.epoch = S.epoch ∧ (p1 S).1.peer = S.peer ∧ (p1 S).1.received = S.received ∧ (p1 S).1.next = S.next ∧ (p1 S).1.lost = S.lost := by
  unfold p1
  split <;> exact ⟨rfl, rfl, rfl, rfl, rfl, rfl, rfl, rfl⟩
theorem Wf.tick {n : Nat} {S : EndS} (h : Wf n S) : Wf (n + 1) (tickS S).1 := by
  obtain ⟨h1, h2, h3, h4, h5, h6, h7, h8, h9⟩ := h
  obtain ⟨T, hT⟩ : ∃ T : EndS, T = { S with ticks := S.ticks + 1 } := ⟨_, rfl⟩
  have e : (tickS S).1 = if S.heard = false ∧ dueS (S.ticks + 1) S.hello = true then { (p1 T).1 with hello := S.ticks + 1 } else (p1 T).1 := by
    unfold tickS
    rw [tick1_eq, ← hT]
    split <;> rfl
  obtain ⟨r1, r2, r3, r4, r5, r6, r7, r8⟩ := p1_rest T
  have q1 := p1_len T
  have q2 := p1_at (n := n + 1) (S := T) (by rw [hT]; intro q hq; have := h2 q hq; omega) (by rw [hT]; simp only; omega)
  have hb : Wf (n + 1) (p1 T).1 := by
    refine ⟨by rw [r1, hT]; simp only; omega, q2, by rw [r2, hT]; simp only; omega, by rw [q1, hT]; exact h4, by rw [q1, r8, hT]; simp only; omega, by rw [r6, hT]; exact h6, by rw [r7, hT]; simp only; omega, by rw [r3, r5, hT]; exact h8, by rw [r4, hT]; simp only; omega⟩
  rw [e]
  split
  · exact ⟨hb.ticks, hb.at_, by simp only; omega, hb.queue, hb.lost, hb.received, hb.next, hb.heard, hb.epoch⟩
  · exact hb
theorem Wf.meet {n : Nat} {S : EndS} (h : Wf n S) (p : Int) (hp : 1 ≤ p) : Wf n (meetS S p) ∧ (meetS S p).peer = p := by
  obtain ⟨h1, h2, h3, h4, h5, h6, h7, h8, h9⟩ := h
  unfold meetS
  split
  · rename_i e
    exact ⟨⟨h1, h2, h3, h4, h5, h6, h7, h8, h9⟩, e.symm⟩
  · split
    · exact ⟨⟨h1, by simp, h3, by simp, by simp; omega, by simp, by simp only; omega, by simp, h9⟩, rfl⟩
    · exact ⟨⟨h1, h2, h3, h4, h5, by simp, h7, by simp, h9⟩, rfl⟩
theorem Wf.recv {n : Nat} {S : EndS} (h : Wf n S) (f : FrS) : Wf n (receiveS S f).1 := by
  unfold receiveS
  split
  rotate_left
  · exact h
  rename_i ht
  obtain ⟨h0, hp⟩ := h.meet f.fr ht.1.1.1
  have hfr := ht.1.1.1
  have hr0 : Wf n (recS0 S f) := ⟨h0.ticks, h0.at_, h0.hello, h0.queue, h0.lost, h0.received, h0.next, h0.heard, h0.epoch⟩
  have hr1 : Wf n (recS1 S f) := by
    have hl : ((meetS S f.fr).queue.filter (keepQ f.ack)).length ≤ (meetS S f.fr).queue.length := List.length_filter_le _ _
    refine ⟨h0.ticks, fun q hq => h0.at_ q (List.mem_filter.1 hq).1, h0.hello, Nat.le_trans hl h0.queue, ?_, h0.received, h0.next, fun _ => ?_, h0.epoch⟩
    · have := h0.lost
      show (meetS S f.fr).lost.length + ((meetS S f.fr).queue.filter (keepQ f.ack)).length ≤ n
      omega
    · show (meetS S f.fr).peer > 0
      rw [hp]; omega
  split
  · exact hr0
  · split
    · exact hr1
    · have := ht.1.2.2.1
      exact ⟨hr1.ticks, hr1.at_, hr1.hello, hr1.queue, hr1.lost, this, hr1.next, hr1.heard, hr1.epoch⟩
theorem Wf.lostE {n : Nat} {S : EndS} (h : Wf n S) : Wf n { S with lost := [] } :=
  ⟨h.ticks, h.at_, h.hello, h.queue, by have := h.lost; simp only [List.length_nil]; omega, h.received, h.next, h.heard, h.epoch⟩
def row3 (c0 c1 c2 : Int) : Ent := .row 3 false [.agg [.int .i64 c0, .int .i64 c1, .int .i64 c2]]
end Go.Proofs.Ytfidjdlmmcaplaa
/-
  Link, plain: the line between two ends, what holds of it, and that messages keep it.
-/
namespace Go.Proofs.Ytfidjdlmmcaplaa
open Go

/-- the line: its ends, the frames on it; of the messages 1 to N - 1 the sender, its epoch, the epoch to which it was sent, in which it arrived, and whether it was lost; the last one that arrived at each end -/
structure PS where
  e : Nat → EndS
  fl : List (Nat × FrS)
  N : Nat
  sd : Nat → Nat
  fm : Nat → Int
  to : Nat → Int
  ar : Nat → Int
  ls : Nat → Bool
  la : Nat → Nat
abbrev Logs := Nat → Int → Int → List Nat
/-- the messages of the end's session, in their order -/
def cur (X : PS) (G : Logs) (s : Nat) : List Nat := G s (X.e s).epoch (X.e s).peer
structure J (X : PS) (G : Logs) : Prop where
  ep : ∀ s, s < 2 → 1 ≤ (X.e s).epoch
  pe : ∀ s, s < 2 → 0 ≤ (X.e s).peer ∧ (X.e s).peer ≤ (X.e (1 - s)).epoch
  he : ∀ s, s < 2 → (X.e s).heard = true → (X.e s).peer > 0
  lo : ∀ s, s < 2 → (X.e s).lost = []
  nx : ∀ s, s < 2 → (X.e s).next = ((cur X G s).length : Int) + 1
  qu : ∀ s, s < 2 → ∀ q ∈ (X.e s).queue, ∃ (k n : Nat), (cur X G s)[k]? = some n ∧ q.seq = (k : Int) + 1 ∧ q.body = txt n ∧ X.ls n = false ∧ (X.to n = 0 ∨ X.to n = (X.e s).peer) ∧ 0 ≤ q.at_ ∧ ((X.e s).peer = 0 → q.at_ = 0)
  qd : ∀ s, s < 2 → (X.e s).queue.Pairwise fun a b => a.seq < b.seq
  gm : ∀ s, s < 2 → ∀ p q n, n ∈ G s p q → 1 ≤ n ∧ n < X.N ∧ X.sd n = s ∧ X.fm n = p
  gs : ∀ s, s < 2 → ∀ p q, (G s p q).Pairwise (· < ·)
  gp : ∀ s, s < 2 → ∀ p q, p > (X.e s).epoch → G s p q = []
  gq : ∀ s, s < 2 → ∀ q, q > (X.e s).peer → G s (X.e s).epoch q = []
  gr : ∀ s, s < 2 → ∀ p q, q > (X.e (1 - s)).epoch → G s p q = []
  n1 : 1 ≤ X.N
  mb : ∀ n m, 1 ≤ n → n < m → m < X.N → X.sd n = X.sd m → X.fm n ≤ X.fm m
  mf : ∀ n, 1 ≤ n → n < X.N → X.sd n < 2 ∧ X.fm n ≤ (X.e (X.sd n)).epoch
  la : ∀ s, s < 2 → X.la s < X.N
  fl : ∀ x ∈ X.fl, x.1 < 2 ∧ okF x.2 ∧ x.2.fr ≤ (X.e (1 - x.1)).epoch ∧ (x.2.seq > 0 → ∃ k n : Nat, (G (1 - x.1) x.2.fr x.2.to)[k]? = some n ∧ x.2.seq = (k : Int) + 1 ∧ x.2.body = txt n ∧ X.to n = x.2.to) ∧ (x.2.to > 0 → ∀ k : Nat, (k : Int) < x.2.ack → ∃ n, (G x.1 x.2.to x.2.fr)[k]? = some n ∧ X.ar n ≠ 0)
  re : ∀ s, s < 2 → 0 ≤ (X.e s).received ∧ (X.e s).received ≤ (G (1 - s) (X.e s).peer (X.e s).epoch).length
  ra : ∀ s, s < 2 → ∀ k n : Nat, (G (1 - s) (X.e s).peer (X.e s).epoch)[k]? = some n → ((k : Int) < (X.e s).received → X.ar n ≠ 0) ∧ ((X.e s).received ≤ (k : Int) → X.ar n = 0 ∧ X.la s < n)
  rb : ∀ s, s < 2 → ∀ p n, p > (X.e s).peer → n ∈ G (1 - s) p (X.e s).epoch → X.ar n = 0 ∧ X.la s < n
  pd : ∀ s, s < 2 → (X.e s).peer = 0 → ∀ n ∈ G s (X.e s).epoch 0, X.ar n = 0 ∧ X.la (1 - s) < n
  op : ∀ n, 1 ≤ n → n < X.N → X.fm n = (X.e (X.sd n)).epoch → X.ar n = 0 → X.ls n = false → ∃ q ∈ (X.e (X.sd n)).queue, q.body = txt n
def sendP (X : PS) (s : Nat) : PS := { X with e := upd X.e s (sendS (X.e s) (txt X.N)), N := X.N + 1, sd := upd X.sd X.N s, fm := upd X.fm X.N (X.e s).epoch, to := upd X.to X.N 0, ar := upd X.ar X.N 0, ls := upd X.ls X.N false }
def sendG (X : PS) (G : Logs) (s : Nat) : Logs := fun t p q => if t = s ∧ p = (X.e s).epoch ∧ q = (X.e s).peer then G t p q ++ [X.N] else G t p q
theorem flip {s : Nat} (hs : s < 2) : 1 - s < 2 ∧ 1 - (1 - s) = s ∧ 1 - s ≠ s := by omega
theorem get_app {α : Type} {l : List α} {x n : α} {k : Nat} (h : (l ++ [x])[k]? = some n) : l[k]? = some n ∨ (k = l.length ∧ n = x) := by
  rw [List.getElem?_append] at h
  split at h
  · exact .inl h
  · rename_i hk
    have : k - l.length = 0 ∨ 0 < k - l.length := by omega
    rcases this with h0 | h0
    · rw [h0] at h
      simp at h
      exact .inr ⟨by omega, h.symm⟩
    · rw [List.getElem?_eq_none (by simp; omega)] at h
      cases h
theorem app_get {α : Type} {l : List α} {x n : α} {k : Nat} (h : l[k]? = some n) : (l ++ [x])[k]? = some n := by
  rw [List.getElem?_append_left (List.getElem?_eq_some_iff.1 h).1]
  exact h
theorem J.send {X : PS} {G : Logs} (h : J X G) {s : Nat} (hs : s < 2) : J (sendP X s) (sendG X G s) := by
  obtain ⟨f1, f2, f3⟩ := flip hs
  -- the ends
  have eS : ∀ t, ((sendP X s).e t).epoch = (X.e t).epoch ∧ ((sendP X s).e t).peer = (X.e t).peer ∧ ((sendP X s).e t).heard = (X.e t).heard ∧ ((sendP X s).e t).lost = (X.e t).lost ∧ ((sendP X s).e t).received = (X.e t).received := by
    intro t
    show (upd X.e s (sendS (X.e s) (txt X.N)) t).epoch = _ ∧ (upd X.e s (sendS (X.e s) (txt X.N)) t).peer = _ ∧ (upd X.e s (sendS (X.e s) (txt X.N)) t).heard = _ ∧ (upd X.e s (sendS (X.e s) (txt X.N)) t).lost = _ ∧ (upd X.e s (sendS (X.e s) (txt X.N)) t).received = _
    by_cases e : t = s
    · subst e; rw [upd_same]; exact ⟨rfl, rfl, rfl, rfl, rfl⟩
    · rw [upd_ne _ _ e]; exact ⟨rfl, rfl, rfl, rfl, rfl⟩
  have eE := fun t => (eS t).1
  have eP := fun t => (eS t).2.1
  have eR := fun t => (eS t).2.2.2.2
  have qN : ∀ t, t ≠ s → (sendP X s).e t = X.e t := fun t ht => upd_ne _ _ ht
  have qS : (sendP X s).e s = sendS (X.e s) (txt X.N) := upd_same _ _ _
  have gS : ∀ t p q, sendG X G s t p q = if t = s ∧ p = (X.e s).epoch ∧ q = (X.e s).peer then G t p q ++ [X.N] else G t p q := fun _ _ _ => rfl
  have gmem : ∀ t p q n, n ∈ sendG X G s t p q → n ∈ G t p q ∨ (n = X.N ∧ t = s ∧ p = (X.e s).epoch ∧ q = (X.e s).peer) := by
    intro t p q n hn
    rw [gS] at hn
    split at hn
    · rename_i hc
      rcases List.mem_append.1 hn with h1 | h1
      · exact .inl h1
      · exact .inr ⟨by simpa using h1, hc⟩
    · exact .inl hn
  have gget : ∀ t p q (k n : Nat), (sendG X G s t p q)[k]? = some n → (G t p q)[k]? = some n ∨ (n = X.N ∧ k = (G t p q).length ∧ t = s ∧ p = (X.e s).epoch ∧ q = (X.e s).peer) := by
    intro t p q k n hn
    rw [gS] at hn
    split at hn
    · rename_i hc
      rcases get_app hn with h1 | h1
      · exact .inl h1
      · exact .inr ⟨h1.2, h1.1, hc⟩
    · exact .inl hn
  have gold : ∀ t p q (k n : Nat), (G t p q)[k]? = some n → (sendG X G s t p q)[k]? = some n := by
    intro t p q k n hn
    rw [gS]
    split
    · exact app_get hn
    · exact hn
  have old : ∀ n, n < X.N → (sendP X s).sd n = X.sd n ∧ (sendP X s).fm n = X.fm n ∧ (sendP X s).to n = X.to n ∧ (sendP X s).ar n = X.ar n ∧ (sendP X s).ls n = X.ls n := fun n hn => ⟨upd_ne _ _ (by omega), upd_ne _ _ (by omega), upd_ne _ _ (by omega), upd_ne _ _ (by omega), upd_ne _ _ (by omega)⟩
  have new : (sendP X s).sd X.N = s ∧ (sendP X s).fm X.N = (X.e s).epoch ∧ (sendP X s).to X.N = 0 ∧ (sendP X s).ar X.N = 0 ∧ (sendP X s).ls X.N = false := ⟨upd_same _ _ _, upd_same _ _ _, upd_same _ _ _, upd_same _ _ _, upd_same _ _ _⟩
  have hN : (sendP X s).N = X.N + 1 := rfl
  have hfl : (sendP X s).fl = X.fl := rfl
  have hla : (sendP X s).la = X.la := rfl
  have inlt : ∀ t, t < 2 → ∀ p q (k n : Nat), (G t p q)[k]? = some n → n < X.N := fun t ht p q k n hn => (h.gm t ht p q n (List.mem_of_getElem? hn)).2.1
  have curS : cur (sendP X s) (sendG X G s) s = cur X G s ++ [X.N] := by
    unfold cur
    rw [eE, eP, gS, if_pos ⟨rfl, rfl, rfl⟩]
  have curN : ∀ t, t ≠ s → cur (sendP X s) (sendG X G s) t = cur X G t := fun t ht => by
    unfold cur
    rw [eE, eP, gS, if_neg (fun hc => ht hc.1)]
  refine ⟨fun t ht => by rw [eE]; exact h.ep t ht, fun t ht => by rw [eP, eE]; exact h.pe t ht, fun t ht => by rw [(eS t).2.2.1, eP]; exact h.he t ht, fun t ht => by rw [(eS t).2.2.2.1]; exact h.lo t ht, fun t ht => ?_, fun t ht q hq => ?_, fun t ht => ?_, fun t ht p q n hn => ?_, fun t ht p q => ?_, fun t ht p q hp => ?_, fun t ht q hq => ?_, fun t ht p q hq => ?_, by rw [hN]; have := h.n1; omega, fun n m h1 h2 h3 h4 => ?_, fun n h1 h2 => ?_, fun t ht => by rw [hla, hN]; have := h.la t ht; omega, fun x hx => ?_, fun t ht => ?_, fun t ht k n hk => ?_, fun t ht p n hp hn => ?_, fun t ht hp n hn => ?_, fun n h1 h2 h3 h4 h5 => ?_⟩
  · by_cases e : t = s
    · subst e
      rw [curS, qS]
      show (X.e t).next + 1 = _
      rw [h.nx t ht]
      simp
    · rw [curN t e, qN t e]; exact h.nx t ht
  · by_cases e : t = s
    · subst e
      rw [qS] at hq
      rw [curS, eP]
      rcases List.mem_append.1 hq with hq | hq
      · obtain ⟨k, n, a1, a2, a3, a4, a5, a6, a7⟩ := h.qu t ht q hq
        have := old n (inlt t ht _ _ k n a1)
        exact ⟨k, n, app_get a1, a2, a3, by rw [this.2.2.2.2]; exact a4, by rw [this.2.2.1]; exact a5, a6, a7⟩
      · rw [List.mem_singleton] at hq
        subst hq
        refine ⟨(cur X G t).length, X.N, by simp, ?_, rfl, new.2.2.2.2, .inl new.2.2.1, by simp, fun _ => rfl⟩
        exact h.nx t ht
    · rw [qN t e] at hq
      rw [curN t e, eP]
      obtain ⟨k, n, a1, a2, a3, a4, a5, a6, a7⟩ := h.qu t ht q hq
      have := old n (inlt t ht _ _ k n a1)
      exact ⟨k, n, a1, a2, a3, by rw [this.2.2.2.2]; exact a4, by rw [this.2.2.1]; exact a5, a6, a7⟩
  · by_cases e : t = s
    · subst e
      rw [qS]
      show ((X.e t).queue ++ [_]).Pairwise _
      rw [List.pairwise_append]
      refine ⟨h.qd t ht, by simp, fun a ha b hb => ?_⟩
      rw [List.mem_singleton] at hb
      subst hb
      obtain ⟨k, n, a1, a2, _⟩ := h.qu t ht a ha
      have := (List.getElem?_eq_some_iff.1 a1).1
      show a.seq < (X.e t).next
      rw [h.nx t ht, a2]
      omega
    · rw [qN t e]; exact h.qd t ht
  · rcases gmem t p q n hn with hn | ⟨rfl, rfl, rfl, rfl⟩
    · obtain ⟨a1, a2, a3, a4⟩ := h.gm t ht p q n hn
      have := old n a2
      exact ⟨a1, by rw [hN]; omega, by rw [this.1]; exact a3, by rw [this.2.1]; exact a4⟩
    · exact ⟨h.n1, by rw [hN]; omega, new.1, new.2.1⟩
  · rw [gS]
    split
    · rename_i hc
      rw [List.pairwise_append]
      refine ⟨h.gs t ht p q, by simp, fun a ha b hb => ?_⟩
      rw [List.mem_singleton] at hb
      subst hb
      exact (h.gm t ht p q a ha).2.1
    · exact h.gs t ht p q
  · rw [eE] at hp
    rw [gS, if_neg (fun hc => by
      obtain ⟨rfl, h2, _⟩ := hc
      omega)]
    exact h.gp t ht p q hp
  · rw [eP] at hq
    rw [eE, gS, if_neg (fun hc => by
      obtain ⟨rfl, _, h2⟩ := hc
      omega)]
    exact h.gq t ht q hq
  · rw [eE] at hq
    rw [gS, if_neg (fun hc => by
      obtain ⟨rfl, _, h2⟩ := hc
      have := (h.pe t ht).2
      omega)]
    exact h.gr t ht p q hq
  · rw [hN] at h3
    rcases Nat.lt_or_ge m X.N with hm | hm
    · have a := old n (by omega)
      have b := old m hm
      rw [a.1, b.1] at h4
      rw [a.2.1, b.2.1]
      exact h.mb n m h1 h2 hm h4
    · obtain rfl : m = X.N := by omega
      have a := old n (by omega)
      rw [a.1, new.1] at h4
      rw [a.2.1, new.2.1]
      have := h.mf n h1 (by omega)
      rw [h4] at this
      exact this.2
  · rw [hN] at h2
    rcases Nat.lt_or_ge n X.N with hn | hn
    · have a := old n hn
      rw [a.1, a.2.1, eE]
      exact h.mf n h1 hn
    · obtain rfl : n = X.N := by omega
      rw [new.1, new.2.1, eE]
      exact ⟨hs, Int.le_refl _⟩
  · rw [hfl] at hx
    obtain ⟨a1, a2, a3, a4, a5⟩ := h.fl x hx
    refine ⟨a1, a2, by rw [eE]; exact a3, fun hp => ?_, fun hp k hk => ?_⟩
    · obtain ⟨k, n, b1, b2, b3, b4⟩ := a4 hp
      have := old n (inlt _ (by omega) _ _ k n b1)
      exact ⟨k, n, gold _ _ _ _ _ b1, b2, b3, by rw [this.2.2.1]; exact b4⟩
    · obtain ⟨n, b1, b2⟩ := a5 hp k hk
      have := old n (inlt _ a1 _ _ k n b1)
      exact ⟨n, gold _ _ _ _ _ b1, by rw [this.2.2.2.1]; exact b2⟩
  · rw [eR, eP, eE]
    have := h.re t ht
    refine ⟨this.1, Int.le_trans this.2 ?_⟩
    rw [gS]
    split
    · simp
      omega
    · omega
  · rw [eP, eE] at hk
    rw [eR]
    rcases gget _ _ _ k n hk with hk | ⟨rfl, k2, _⟩
    · have := old n (inlt _ (flip ht).1 _ _ k n hk)
      rw [this.2.2.2.1, hla]
      exact h.ra t ht k n hk
    · have hr := (h.re t ht).2
      exact ⟨fun hlt => by omega, fun _ => ⟨new.2.2.2.1, by rw [hla]; exact h.la t ht⟩⟩
  · rw [eP] at hp
    rw [eE] at hn
    rcases gmem _ _ _ n hn with hn | ⟨rfl, _⟩
    · have := old n (h.gm _ (flip ht).1 _ _ n hn).2.1
      rw [this.2.2.2.1, hla]
      exact h.rb t ht p n hp hn
    · exact ⟨new.2.2.2.1, by rw [hla]; exact h.la t ht⟩
  · rw [eP] at hp
    rw [eE] at hn
    rcases gmem _ _ _ n hn with hn | ⟨rfl, _⟩
    · have := old n (h.gm _ ht _ _ n hn).2.1
      rw [this.2.2.2.1, hla]
      exact h.pd t ht hp n hn
    · exact ⟨new.2.2.2.1, by rw [hla]; exact h.la _ (flip ht).1⟩
  · rw [hN] at h2
    rcases Nat.lt_or_ge n X.N with hn | hn
    · have a := old n hn
      rw [a.1, a.2.1, eE] at h3
      rw [a.2.2.2.1] at h4
      rw [a.2.2.2.2] at h5
      rw [a.1]
      obtain ⟨q, q1, q2⟩ := h.op n h1 hn h3 h4 h5
      by_cases e : X.sd n = s
      · rw [e] at q1 ⊢
        rw [qS]
        exact ⟨q, List.mem_append.2 (.inl q1), q2⟩
      · rw [qN _ e]
        exact ⟨q, q1, q2⟩
    · obtain rfl : n = X.N := by omega
      rw [new.1, qS]
      exact ⟨_, List.mem_append.2 (.inr (List.mem_singleton.2 rfl)), rfl⟩
end Go.Proofs.Ytfidjdlmmcaplaa
/-
  Link, plain: ticks and new ends keep what holds of the line.
-/
namespace Go.Proofs.Ytfidjdlmmcaplaa
open Go

/-- the number of a body -/
def numB (s : Bytes) : Nat := (s.take 9).foldl (fun a b => 10 * a + (b.toNat - 48)) 0
theorem numB_txt : ∀ n : Nat, n < 300 → numB (txt n) = n := by
  have h : ∀ n : Fin 300, numB (txt n) = n := by decide +kernel
  exact fun n hn => h ⟨n, hn⟩
theorem txt_inj {n m : Nat} (hn : n < 300) (hm : m < 300) (h : txt n = txt m) : n = m := by
  rw [← numB_txt n hn, h, numB_txt m hm]
def flOK (X : PS) (G : Logs) (x : Nat × FrS) : Prop := x.1 < 2 ∧ okF x.2 ∧ x.2.fr ≤ (X.e (1 - x.1)).epoch ∧ (x.2.seq > 0 → ∃ k n : Nat, (G (1 - x.1) x.2.fr x.2.to)[k]? = some n ∧ x.2.seq = (k : Int) + 1 ∧ x.2.body = txt n ∧ X.to n = x.2.to) ∧ (x.2.to > 0 → ∀ k : Nat, (k : Int) < x.2.ack → ∃ n, (G x.1 x.2.to x.2.fr)[k]? = some n ∧ X.ar n ≠ 0)
theorem J.less {X : PS} {G : Logs} (h : J X G) {fl' : List (Nat × FrS)} (hs : ∀ x ∈ fl', x ∈ X.fl) : J { X with fl := fl' } G :=
  ⟨h.ep, h.pe, h.he, h.lo, h.nx, h.qu, h.qd, h.gm, h.gs, h.gp, h.gq, h.gr, h.n1, h.mb, h.mf, h.la, fun x hx => h.fl x (hs x hx), h.re, h.ra, h.rb, h.pd, h.op⟩
/-- an end begins anew -/
theorem J.new {X : PS} {G : Logs} (h : J X G) {s : Nat} (hs : s < 2) {e : Int} (he : (X.e s).epoch < e) : J { X with e := upd X.e s (newS e) } G := by
  obtain ⟨f1, f2, f3⟩ := flip hs
  obtain ⟨E, hE⟩ : ∃ E, E = upd X.e s (newS e) := ⟨_, rfl⟩
  rw [← hE]
  have eS : E s = newS e := by rw [hE, upd_same]
  have eN : ∀ t, t ≠ s → E t = X.e t := fun t ht => by rw [hE, upd_ne _ _ ht]
  have mono : ∀ t, (X.e t).epoch ≤ (E t).epoch := fun t => by
    by_cases c : t = s
    · subst c; rw [eS]; show _ ≤ e; omega
    · rw [eN t c]; exact Int.le_refl _
  have G0 : ∀ p q, G s p q = [] ∨ p ≤ (X.e s).epoch := fun p q => by
    rcases Int.lt_or_le (X.e s).epoch p with h1 | h1
    · exact .inl (h.gp s hs p q h1)
    · exact .inr h1
  have Ge : ∀ q, G s e q = [] := fun q => h.gp s hs e q he
  have Go : ∀ p, G (1 - s) p e = [] := fun p => h.gr (1 - s) f1 p e (by rw [f2]; exact he)
  have two : ∀ t, t < 2 → t ≠ s → t = 1 - s := fun t ht hn => by omega
  refine ⟨fun t ht => ?_, fun t ht => ?_, fun t ht hh => ?_, fun t ht => ?_, fun t ht => ?_, fun t ht q hq => ?_, fun t ht => ?_, h.gm, h.gs, fun t ht p q hp => ?_, fun t ht q hq => ?_, fun t ht p q hq => ?_, h.n1, h.mb, fun n h1 h2 => ?_, h.la, fun x hx => ?_, fun t ht => ?_, fun t ht k n hk => ?_, fun t ht p n hp hn => ?_, fun t ht hp n hn => ?_, fun n h1 h2 h3 h4 h5 => ?_⟩
  · have := mono t; have := h.ep t ht; show 1 ≤ (E t).epoch; omega
  · show 0 ≤ (E t).peer ∧ (E t).peer ≤ (E (1 - t)).epoch
    by_cases c : t = s
    · subst c
      rw [eS]
      have := mono (1 - t)
      have := h.ep (1 - t) f1
      show 0 ≤ (0 : Int) ∧ (0 : Int) ≤ (E (1 - t)).epoch
      omega
    · rw [eN t c]
      have := h.pe t ht
      have := mono (1 - t)
      omega
  · have hh' : (E t).heard = true := hh
    show (E t).peer > 0
    by_cases c : t = s
    · subst c; rw [eS] at hh'; cases hh'
    · rw [eN t c] at hh' ⊢; exact h.he t ht hh'
  · show (E t).lost = []
    by_cases c : t = s
    · subst c; rw [eS]; rfl
    · rw [eN t c]; exact h.lo t ht
  · show (E t).next = ((G t (E t).epoch (E t).peer).length : Int) + 1
    by_cases c : t = s
    · subst c
      rw [eS]
      show (1 : Int) = ((G t e 0).length : Int) + 1
      rw [Ge]
      rfl
    · rw [eN t c]; exact h.nx t ht
  · have hq' : q ∈ (E t).queue := hq
    by_cases c : t = s
    · subst c; rw [eS] at hq'; cases hq'
    · rw [eN t c] at hq'
      obtain ⟨k, n, a1, a2⟩ := h.qu t ht q hq'
      refine ⟨k, n, ?_, ?_⟩
      · show (G t (E t).epoch (E t).peer)[k]? = some n
        rw [eN t c]; exact a1
      · show _ ∧ _ ∧ _ ∧ (_ ∨ X.to n = (E t).peer) ∧ _ ∧ ((E t).peer = 0 → _)
        rw [eN t c]; exact a2
  · show (E t).queue.Pairwise _
    by_cases c : t = s
    · subst c; rw [eS]; exact .nil
    · rw [eN t c]; exact h.qd t ht
  · have := mono t
    exact h.gp t ht p q (by have hp' : p > (E t).epoch := hp; omega)
  · show G t (E t).epoch q = []
    by_cases c : t = s
    · subst c; rw [eS]; exact Ge q
    · have hq' : q > (E t).peer := hq
      rw [eN t c] at hq' ⊢
      exact h.gq t ht q hq'
  · have := mono (1 - t)
    exact h.gr t ht p q (by have hq' : q > (E (1 - t)).epoch := hq; omega)
  · have h0 := h.mf n h1 h2
    have hm := mono (X.sd n)
    exact ⟨h0.1, Int.le_trans h0.2 hm⟩
  · have h0 := h.fl x hx
    have hm := mono (1 - x.1)
    exact ⟨h0.1, h0.2.1, Int.le_trans h0.2.2.1 hm, h0.2.2.2⟩
  · show 0 ≤ (E t).received ∧ (E t).received ≤ ((G (1 - t) (E t).peer (E t).epoch).length : Int)
    by_cases c : t = s
    · subst c
      rw [eS]
      show 0 ≤ (0 : Int) ∧ (0 : Int) ≤ _
      omega
    · rw [eN t c]; exact h.re t ht
  · have hk' : (G (1 - t) (E t).peer (E t).epoch)[k]? = some n := hk
    show ((k : Int) < (E t).received → _) ∧ ((E t).received ≤ (k : Int) → _)
    by_cases c : t = s
    · subst c
      rw [eS] at hk'
      have hk2 : (G (1 - t) 0 e)[k]? = some n := hk'
      rw [Go] at hk2
      simp at hk2
    · rw [eN t c] at hk' ⊢; exact h.ra t ht k n hk'
  · have hn' : n ∈ G (1 - t) p (E t).epoch := hn
    have hp' : p > (E t).peer := hp
    by_cases c : t = s
    · subst c
      rw [eS] at hn'
      have hn2 : n ∈ G (1 - t) p e := hn'
      rw [Go] at hn2
      cases hn2
    · rw [eN t c] at hn' hp'; exact h.rb t ht p n hp' hn'
  · have hn' : n ∈ G t (E t).epoch 0 := hn
    have hp' : (E t).peer = 0 := hp
    by_cases c : t = s
    · subst c
      rw [eS] at hn'
      have hn2 : n ∈ G t e 0 := hn'
      rw [Ge] at hn2
      cases hn2
    · rw [eN t c] at hn' hp'; exact h.pd t ht hp' n hn'
  · have h3' : X.fm n = (E (X.sd n)).epoch := h3
    show ∃ q ∈ (E (X.sd n)).queue, _
    by_cases c : X.sd n = s
    · rw [c, eS] at h3'
      have h6 : X.fm n = e := h3'
      have := (h.mf n h1 h2).2
      rw [c] at this
      omega
    · rw [eN _ c] at h3' ⊢
      exact h.op n h1 h2 h3' h4 h5
/-- what a tick sends -/
theorem tick_frames {S : EndS} {f : FrS} (hf : f ∈ (tickS S).2) : f = ⟨S.epoch, 0, 0, 0, []⟩ ∨ (S.peer > 0 ∧ (f = ⟨S.epoch, S.peer, 0, S.received, []⟩ ∨ ∃ q ∈ S.queue, f = frameS S q)) := by
  have h1 : ∀ f ∈ (tick1 S).2, S.peer > 0 ∧ (f = ⟨S.epoch, S.peer, 0, S.received, []⟩ ∨ ∃ q ∈ S.queue, f = frameS S q) := by
    intro f hf
    unfold tick1 at hf
    split at hf
    · rename_i hp
      refine ⟨hp, ?_⟩
      simp only at hf
      unfold outO at hf
      split at hf
      · exact .inl (List.mem_singleton.1 hf)
      · unfold outS at hf
        obtain ⟨q, hq, rfl⟩ := List.mem_map.1 hf
        exact .inr ⟨q, List.mem_of_mem_take (List.mem_filter.1 hq).1, rfl⟩
    · cases hf
  unfold tickS at hf
  split at hf
  · rcases List.mem_append.1 hf with hf | hf
    · exact .inr (h1 f hf)
    · exact .inl (List.mem_singleton.1 hf)
  · exact .inr (h1 f hf)
theorem tick_rest (S : EndS) : (tickS S).1.epoch = S.epoch ∧ (tickS S).1.peer = S.peer ∧ (tickS S).1.heard = S.heard ∧ (tickS S).1.lost = S.lost ∧ (tickS S).1.received = S.received ∧ (tickS S).1.next = S.next := by
  have h : ∀ T : EndS, (p1 T).1.epoch = T.epoch ∧ (p1 T).1.peer = T.peer ∧ (p1 T).1.heard = T.heard ∧ (p1 T).1.lost = T.lost ∧ (p1 T).1.received = T.received ∧ (p1 T).1.next = T.next := fun T => by
    obtain ⟨_, _, a, b, c, d, e, f⟩ := p1_rest T
    exact ⟨b, c, a, f, d, e⟩
  unfold tickS
  rw [tick1_eq]
  split <;> exact h _
theorem tick_queue (S : EndS) : (tickS S).1.queue.map (·.seq) = S.queue.map (·.seq) ∧ (tickS S).1.queue.map (·.body) = S.queue.map (·.body) ∧ ∀ q' ∈ (tickS S).1.queue, ∃ q ∈ S.queue, q'.seq = q.seq ∧ q'.body = q.body ∧ (q'.at_ = q.at_ ∨ (q'.at_ = S.ticks + 1 ∧ S.heard = true)) := by
  have sq : ∀ (t : Int) (h : Bool) (q : QE), (sentQ t h q).seq = q.seq ∧ (sentQ t h q).body = q.body ∧ ((sentQ t h q).at_ = q.at_ ∨ ((sentQ t h q).at_ = t ∧ h = true)) := by
    intro t h q
    unfold sentQ
    split
    · rename_i hc
      rw [Bool.and_eq_true] at hc
      exact ⟨rfl, rfl, .inr ⟨rfl, hc.1⟩⟩
    · exact ⟨rfl, rfl, .inl rfl⟩
  have e : (tickS S).1.queue = (tick1 S).1.queue := by
    unfold tickS
    split <;> rfl
  rw [e]
  unfold tick1
  split
  · refine ⟨?_, ?_, fun q' hq' => ?_⟩
    · simp only [List.map_append, List.map_map]
      rw [show ((fun x : QE => x.seq) ∘ sentQ (S.ticks + 1) S.heard) = fun x : QE => x.seq from funext fun q => (sq _ _ q).1, ← List.map_append, List.take_append_drop]
    · simp only [List.map_append, List.map_map]
      rw [show ((fun x : QE => x.body) ∘ sentQ (S.ticks + 1) S.heard) = fun x : QE => x.body from funext fun q => (sq _ _ q).2.1, ← List.map_append, List.take_append_drop]
    · simp only at hq'
      rcases List.mem_append.1 hq' with h1 | h1
      · obtain ⟨q, hq, rfl⟩ := List.mem_map.1 h1
        exact ⟨q, List.mem_of_mem_take hq, sq _ _ q⟩
      · exact ⟨q', List.mem_of_mem_drop h1, rfl, rfl, .inl rfl⟩
  · exact ⟨rfl, rfl, fun q' hq' => ⟨q', hq', rfl, rfl, .inl rfl⟩⟩
/-- what the frames are noted to be sent to -/
def toAll (xs : List FrS) (to : Nat → Int) : Nat → Int := xs.foldl (fun t f => if f.seq > 0 then upd t (numB f.body) f.to else t) to
theorem toAll_cons (f : FrS) (xs : List FrS) (to : Nat → Int) : toAll (f :: xs) to = toAll xs (if f.seq > 0 then upd to (numB f.body) f.to else to) := rfl
theorem toAll_cases {p : Int} : ∀ (xs : List FrS) (to : Nat → Int), (∀ f ∈ xs, f.seq > 0 → f.to = p) → ∀ n, (toAll xs to n = to n ∨ (toAll xs to n = p ∧ ∃ f ∈ xs, f.seq > 0 ∧ numB f.body = n)) ∧ ∀ f ∈ xs, f.seq > 0 → numB f.body = n → toAll xs to n = p
  | [], to, _, n => ⟨.inl rfl, fun f hf => by cases hf⟩
  | f :: xs, to, h, n => by
    rw [toAll_cons]
    obtain ⟨h1, h2⟩ := toAll_cases xs (if f.seq > 0 then upd to (numB f.body) f.to else to) (fun g hg => h g (List.mem_cons_of_mem _ hg)) n
    have hf0 : (if f.seq > 0 then upd to (numB f.body) f.to else to) n = to n ∨ ((if f.seq > 0 then upd to (numB f.body) f.to else to) n = p ∧ f.seq > 0 ∧ numB f.body = n) := by
      by_cases hs : f.seq > 0
      · rw [if_pos hs]
        by_cases c : n = numB f.body
        · subst c
          rw [upd_same]
          exact .inr ⟨h f (by simp) hs, hs, rfl⟩
        · rw [upd_ne _ _ c]; exact .inl rfl
      · rw [if_neg hs]; exact .inl rfl
    refine ⟨?_, fun g hg hs hn => ?_⟩
    · rcases h1 with h1 | ⟨h1, g, g1, g2⟩
      · rw [h1]
        rcases hf0 with h3 | ⟨h3, h4, h5⟩
        · exact .inl h3
        · exact .inr ⟨h3, f, by simp, h4, h5⟩
      · exact .inr ⟨h1, g, List.mem_cons_of_mem _ g1, g2⟩
    · rcases List.mem_cons.1 hg with rfl | hg
      · rcases h1 with h1 | ⟨h1, _⟩
        · rw [h1, if_pos hs, ← hn, upd_same]
          exact h g (by simp) hs
        · exact h1
      · exact h2 g hg hs hn
def tickP (X : PS) (s : Nat) : PS := { X with e := upd X.e s (tickS (X.e s)).1, fl := X.fl ++ (tickS (X.e s)).2.map (fun f => (1 - s, f)), to := toAll (tickS (X.e s)).2 X.to }
/-- bounds that rounds keep -/
structure Wb (S : EndS) : Prop where
  ticks : 0 ≤ S.ticks
  received : 0 ≤ S.received ∧ S.received ≤ 4611686018427387903
  next : S.next ≤ 1000000
  epoch : S.epoch ≤ 1000000
  queue : S.queue.length ≤ 64
theorem Wf.wb {n : Nat} {S : EndS} (h : Wf n S) (hn : n ≤ 2000) : Wb S :=
  ⟨h.ticks.1, h.received, by have := h.next; omega, by have := h.epoch; omega, h.queue⟩
/-- what a tick's frames are -/
theorem J.framesB {X : PS} {G : Logs} (h : J X G) {s : Nat} (hs : s < 2) (hw : ∀ t, t < 2 → Wb (X.e t)) {f : FrS} (hf : f ∈ (tickS (X.e s)).2) :
    okF f ∧ f.fr = (X.e s).epoch ∧ (f.seq > 0 → f.to = (X.e s).peer ∧ (X.e s).peer > 0 ∧ ∃ k m : Nat, (cur X G s)[k]? = some m ∧ f.seq = (k : Int) + 1 ∧ f.body = txt m ∧ (X.to m = 0 ∨ X.to m = (X.e s).peer)) ∧ (f.to > 0 → f.to = (X.e s).peer ∧ (f.ack = (X.e s).received ∨ f.ack = 0)) := by
  obtain ⟨f1, f2, f3⟩ := flip hs
  have hep := h.ep s hs
  have hpe := h.pe s hs
  have he1 := (hw s hs).epoch
  have he2 := (hw (1 - s) f1).epoch
  have hrc := (hw s hs).received
  rcases tick_frames hf with rfl | ⟨hp, rfl | ⟨q, hq, rfl⟩⟩
  · refine ⟨?_, rfl, fun h0 => by simp at h0, fun h0 => by simp at h0⟩
    unfold okF
    simp
    omega
  · refine ⟨?_, rfl, fun h0 => by simp at h0, fun _ => ⟨rfl, .inl rfl⟩⟩
    unfold okF
    simp
    omega
  · obtain ⟨k, m, a1, a2, a3, a4, a5, a6, a7⟩ := h.qu s hs q hq
    have hk := (List.getElem?_eq_some_iff.1 a1).1
    have hnx := h.nx s hs
    have hnw := (hw s hs).next
    have hl := txt_len m
    refine ⟨?_, rfl, fun _ => ⟨rfl, hp, k, m, a1, a2, a3, a5⟩, fun _ => ⟨rfl, .inl rfl⟩⟩
    unfold okF frameS
    simp only
    rw [a2, a3]
    refine ⟨by omega, by omega, by omega, by omega, by omega, .inl (by omega), .inl hp⟩
theorem J.frames {X : PS} {G : Logs} (h : J X G) {s n : Nat} (hs : s < 2) (hw : ∀ t, t < 2 → Wf n (X.e t)) (hn : n ≤ 2000) {f : FrS} (hf : f ∈ (tickS (X.e s)).2) :
    okF f ∧ f.fr = (X.e s).epoch ∧ (f.seq > 0 → f.to = (X.e s).peer ∧ (X.e s).peer > 0 ∧ ∃ k m : Nat, (cur X G s)[k]? = some m ∧ f.seq = (k : Int) + 1 ∧ f.body = txt m ∧ (X.to m = 0 ∨ X.to m = (X.e s).peer)) ∧ (f.to > 0 → f.to = (X.e s).peer ∧ (f.ack = (X.e s).received ∨ f.ack = 0)) := h.framesB hs (fun t ht => (hw t ht).wb hn) hf
theorem J.tickB {X : PS} {G : Logs} (h : J X G) {s : Nat} (hs : s < 2) (hw : ∀ t, t < 2 → Wb (X.e t)) (hN : X.N < 300) : J (tickP X s) G := by
  obtain ⟨f1, f2, f3⟩ := flip hs
  obtain ⟨r1, r2, r3, r4, r5, r6⟩ := tick_rest (X.e s)
  obtain ⟨q1, q2, q3⟩ := tick_queue (X.e s)
  have eS : (tickP X s).e s = (tickS (X.e s)).1 := upd_same _ _ _
  have eN : ∀ t, t ≠ s → (tickP X s).e t = X.e t := fun t ht => upd_ne _ _ ht
  have eA : ∀ t, ((tickP X s).e t).epoch = (X.e t).epoch ∧ ((tickP X s).e t).peer = (X.e t).peer ∧ ((tickP X s).e t).heard = (X.e t).heard ∧ ((tickP X s).e t).lost = (X.e t).lost ∧ ((tickP X s).e t).received = (X.e t).received ∧ ((tickP X s).e t).next = (X.e t).next := fun t => by
    by_cases c : t = s
    · subst c; rw [eS]; exact ⟨r1, r2, r3, r4, r5, r6⟩
    · rw [eN t c]; exact ⟨rfl, rfl, rfl, rfl, rfl, rfl⟩
  have eE := fun t => (eA t).1
  have eP := fun t => (eA t).2.1
  have eR := fun t => (eA t).2.2.2.2.1
  have hcur : ∀ t, cur (tickP X s) G t = cur X G t := fun t => by unfold cur; rw [eE, eP]
  have fr := fun f hf => h.framesB hs hw (f := f) hf
  have tc := toAll_cases (p := (X.e s).peer) (tickS (X.e s)).2 X.to (fun f hf hq => ((fr f hf).2.2.1 hq).1)
  have hto : ∀ m, (tickP X s).to m = toAll (tickS (X.e s)).2 X.to m := fun _ => rfl
  -- whose note is changed
  have chg : ∀ m, (tickP X s).to m = X.to m ∨ ((tickP X s).to m = (X.e s).peer ∧ m ∈ cur X G s ∧ (X.to m = 0 ∨ X.to m = (X.e s).peer)) := fun m => by
    rcases (tc m).1 with h1 | ⟨h1, f, g1, g2, g3⟩
    · exact .inl h1
    · refine .inr ⟨h1, ?_⟩
      obtain ⟨_, _, k, m', a1, a2, a3, a4⟩ := (fr f g1).2.2.1 g2
      have hm := List.mem_of_getElem? a1
      have hlt := (h.gm s hs _ _ m' hm).2.1
      rw [a3, numB_txt m' (by omega)] at g3
      subst g3
      exact ⟨hm, a4⟩
  have other : ∀ t, t < 2 → t ≠ s → ∀ p q m, m ∈ G t p q → (tickP X s).to m = X.to m := fun t ht hts p q m hm => by
    rcases chg m with h1 | ⟨_, h2, _⟩
    · exact h1
    · have a := (h.gm t ht p q m hm).2.2.1
      have b := (h.gm s hs _ _ m h2).2.2.1
      omega
  refine ⟨fun t ht => by rw [eE]; exact h.ep t ht, fun t ht => by rw [eP, eE]; exact h.pe t ht, fun t ht => by rw [(eA t).2.2.1, eP]; exact h.he t ht, fun t ht => by rw [(eA t).2.2.2.1]; exact h.lo t ht, fun t ht => by rw [(eA t).2.2.2.2.2, hcur]; exact h.nx t ht, fun t ht q hq => ?_, fun t ht => ?_, h.gm, h.gs, fun t ht p q hp => h.gp t ht p q (by rw [eE] at hp; exact hp), fun t ht q hq => by rw [eE]; exact h.gq t ht q (by rw [eP] at hq; exact hq), fun t ht p q hq => h.gr t ht p q (by rw [eE] at hq; exact hq), h.n1, h.mb, fun n h1 h2 => by rw [eE]; exact h.mf n h1 h2, h.la, fun x hx => ?_, fun t ht => by rw [eR, eP, eE]; exact h.re t ht, fun t ht k m hk => ?_, fun t ht p m hp hm => ?_, fun t ht hp m hm => ?_, fun m h1 h2 h3 h4 h5 => ?_⟩
  · by_cases c : t = s
    · subst c
      rw [eS] at hq
      obtain ⟨q0, g1, g2, g3, g4⟩ := q3 q hq
      obtain ⟨k, m, a1, a2, a3, a4, a5, a6, a7⟩ := h.qu t ht q0 g1
      refine ⟨k, m, by rw [hcur]; exact a1, by rw [g2]; exact a2, by rw [g3]; exact a3, a4, ?_, ?_, fun hp => ?_⟩
      · rw [eP]
        rcases chg m with e | ⟨e, _⟩
        · rw [e]; exact a5
        · exact .inr e
      · have := (hw t ht).ticks
        rcases g4 with e | ⟨e, _⟩ <;> omega
      · rw [eP] at hp
        rcases g4 with e | ⟨e, hh⟩
        · rw [e]; exact a7 hp
        · have := h.he t ht hh
          omega
    · rw [eN t c] at hq
      obtain ⟨k, m, a1, a2, a3, a4, a5, a6⟩ := h.qu t ht q hq
      refine ⟨k, m, by rw [hcur]; exact a1, a2, a3, a4, ?_, by rw [eN t c]; exact a6⟩
      rw [other t ht c _ _ m (List.mem_of_getElem? a1), eN t c]
      exact a5
  · by_cases c : t = s
    · subst c
      rw [eS]
      have := h.qd t ht
      rw [← List.pairwise_map (f := fun q : QE => q.seq) (R := fun a b : Int => a < b)] at this ⊢
      rw [q1]
      exact this
    · rw [eN t c]; exact h.qd t ht
  · rcases List.mem_append.1 hx with hx | hx
    · obtain ⟨a1, a2, a3, a4, a5⟩ := h.fl x hx
      refine ⟨a1, a2, by rw [eE]; exact a3, fun hp => ?_, a5⟩
      obtain ⟨k, m, b1, b2, b3, b4⟩ := a4 hp
      refine ⟨k, m, b1, b2, b3, ?_⟩
      rcases chg m with e | ⟨e, _, g⟩
      · rw [e]; exact b4
      · rw [e]
        have h0 : x.2.to ≠ 0 := fun h0 => by
          have := a2.2.2.2.2.2.2
          omega
        rcases g with g | g
        · rw [b4] at g; exact absurd g h0
        · rw [← g, b4]
    · obtain ⟨f, hf, rfl⟩ := List.mem_map.1 hx
      obtain ⟨b1, b2, b3, b4⟩ := fr f hf
      simp only
      refine ⟨f1, b1, by rw [f2, eE, b2]; exact Int.le_refl _, fun hq => ?_, fun hq k hk => ?_⟩
      · obtain ⟨c1, c2, k, m, c3, c4, c5, c6⟩ := b3 hq
        refine ⟨k, m, ?_, c4, c5, ?_⟩
        · rw [f2, b2, c1]; exact c3
        · rw [hto, c1]
          have hlt := (h.gm s hs _ _ m (List.mem_of_getElem? c3)).2.1
          exact (tc m).2 f hf hq (by rw [c5, numB_txt m (by omega)])
      · obtain ⟨c1, c2⟩ := b4 hq
        rw [b2, c1]
        have hre := h.re s hs
        rcases c2 with c2 | c2
        · have hkl : k < (G (1 - s) (X.e s).peer (X.e s).epoch).length := by omega
          exact ⟨_, List.getElem?_eq_getElem hkl, (h.ra s hs k _ (List.getElem?_eq_getElem hkl)).1 (by omega)⟩
        · omega
  · rw [eP, eE] at hk
    rw [eR]
    exact h.ra t ht k m hk
  · rw [eP] at hp
    rw [eE] at hm
    exact h.rb t ht p m hp hm
  · rw [eP] at hp
    rw [eE] at hm
    exact h.pd t ht hp m hm
  · rw [eE] at h3
    obtain ⟨q, g1, g2⟩ := h.op m h1 h2 h3 h4 h5
    show ∃ q ∈ ((tickP X s).e (X.sd m)).queue, _
    by_cases c : X.sd m = s
    · rw [c] at g1 ⊢
      rw [eS]
      have : q.body ∈ ((tickS (X.e s)).1.queue.map (·.body)) := by
        rw [q2]
        exact List.mem_map.2 ⟨q, g1, rfl⟩
      obtain ⟨q', g3, g4⟩ := List.mem_map.1 this
      exact ⟨q', g3, by rw [g4]; exact g2⟩
    · rw [eN _ c]
      exact ⟨q, g1, g2⟩
theorem J.tick {X : PS} {G : Logs} (h : J X G) {s n : Nat} (hs : s < 2) (hw : ∀ t, t < 2 → Wf n (X.e t)) (hn : n ≤ 2000) (hN : X.N < 300) : J (tickP X s) G := h.tickB hs (fun t ht => (hw t ht).wb hn) hN
end Go.Proofs.Ytfidjdlmmcaplaa
/-
  Link, plain: frames that arrive keep what holds of the line.
-/
namespace Go.Proofs.Ytfidjdlmmcaplaa
open Go

/-- what counts of an end is the same -/
structure SameE (S T : EndS) : Prop where
  epoch : S.epoch = T.epoch
  peer : S.peer = T.peer
  lost : S.lost = T.lost
  received : S.received = T.received
  next : S.next = T.next
  queue : S.queue = T.queue
theorem J.flags {X : PS} {G : Logs} (h : J X G) {E : Nat → EndS} (hE : ∀ t, SameE (E t) (X.e t)) (hh : ∀ t, t < 2 → (E t).heard = true → (X.e t).peer > 0) : J { X with e := E } G := by
  have a := fun t => (hE t).epoch
  have b := fun t => (hE t).peer
  have c := fun t => (hE t).lost
  have d := fun t => (hE t).received
  have e := fun t => (hE t).next
  have f := fun t => (hE t).queue
  have hcur : ∀ t, cur { X with e := E } G t = cur X G t := fun t => by
    show G t (E t).epoch (E t).peer = _
    rw [a, b]; rfl
  refine ⟨fun t ht => ?_, fun t ht => ?_, fun t ht h1 => ?_, fun t ht => ?_, fun t ht => ?_, fun t ht q hq => ?_, fun t ht => ?_, h.gm, h.gs, fun t ht p q hp => ?_, fun t ht q hq => ?_, fun t ht p q hq => ?_, h.n1, h.mb, fun n h1 h2 => ?_, h.la, fun x hx => ?_, fun t ht => ?_, fun t ht k n hk => ?_, fun t ht p n hp hn => ?_, fun t ht hp n hn => ?_, fun n h1 h2 h3 h4 h5 => ?_⟩
  · show 1 ≤ (E t).epoch
    rw [a]; exact h.ep t ht
  · show 0 ≤ (E t).peer ∧ (E t).peer ≤ (E (1 - t)).epoch
    rw [b, a]; exact h.pe t ht
  · show (E t).peer > 0
    rw [b]; exact hh t ht h1
  · show (E t).lost = []
    rw [c]; exact h.lo t ht
  · show (E t).next = _
    rw [e, hcur]; exact h.nx t ht
  · have hq' : q ∈ (E t).queue := hq
    rw [f] at hq'
    obtain ⟨k, n, g1, g2⟩ := h.qu t ht q hq'
    refine ⟨k, n, by rw [hcur]; exact g1, ?_⟩
    show _ ∧ _ ∧ _ ∧ (_ ∨ X.to n = (E t).peer) ∧ _ ∧ ((E t).peer = 0 → _)
    rw [b]; exact g2
  · show (E t).queue.Pairwise _
    rw [f]; exact h.qd t ht
  · have hp' : p > (E t).epoch := hp
    rw [a] at hp'
    exact h.gp t ht p q hp'
  · have hq' : q > (E t).peer := hq
    rw [b] at hq'
    show G t (E t).epoch q = []
    rw [a]; exact h.gq t ht q hq'
  · have hq' : q > (E (1 - t)).epoch := hq
    rw [a] at hq'
    exact h.gr t ht p q hq'
  · show X.sd n < 2 ∧ X.fm n ≤ (E (X.sd n)).epoch
    rw [a]; exact h.mf n h1 h2
  · have := h.fl x hx
    refine ⟨this.1, this.2.1, ?_, this.2.2.2⟩
    show x.2.fr ≤ (E (1 - x.1)).epoch
    rw [a]; exact this.2.2.1
  · show 0 ≤ (E t).received ∧ (E t).received ≤ ((G (1 - t) (E t).peer (E t).epoch).length : Int)
    rw [d, b, a]; exact h.re t ht
  · have hk' : (G (1 - t) (E t).peer (E t).epoch)[k]? = some n := hk
    rw [b, a] at hk'
    show ((k : Int) < (E t).received → _) ∧ ((E t).received ≤ (k : Int) → _)
    rw [d]; exact h.ra t ht k n hk'
  · have hp' : p > (E t).peer := hp
    have hn' : n ∈ G (1 - t) p (E t).epoch := hn
    rw [b] at hp'
    rw [a] at hn'
    exact h.rb t ht p n hp' hn'
  · have hp' : (E t).peer = 0 := hp
    have hn' : n ∈ G t (E t).epoch 0 := hn
    rw [b] at hp'
    rw [a] at hn'
    exact h.pd t ht hp' n hn'
  · have h3' : X.fm n = (E (X.sd n)).epoch := h3
    rw [a] at h3'
    show ∃ q ∈ (E (X.sd n)).queue, _
    rw [f]; exact h.op n h1 h2 h3' h4 h5
/-- messages that have arrived are acknowledged -/
theorem J.ack {X : PS} {G : Logs} (h : J X G) {t : Nat} (ht : t < 2) {k : Int} (hk : ∀ j : Nat, (j : Int) < k → ∃ n, (cur X G t)[j]? = some n ∧ X.ar n ≠ 0) (hN : X.N < 300) : J { X with e := upd X.e t (ackS (X.e t) k) } G := by
  obtain ⟨E, hE⟩ : ∃ E, E = upd X.e t (ackS (X.e t) k) := ⟨_, rfl⟩
  rw [← hE]
  have eT : E t = ackS (X.e t) k := by rw [hE, upd_same]
  have eN : ∀ s, s ≠ t → E s = X.e s := fun s hs => by rw [hE, upd_ne _ _ hs]
  have all : ∀ s, (E s).epoch = (X.e s).epoch ∧ (E s).peer = (X.e s).peer ∧ (E s).lost = (X.e s).lost ∧ (E s).received = (X.e s).received ∧ (E s).next = (X.e s).next ∧ (E s).heard = (X.e s).heard := fun s => by
    by_cases c : s = t
    · subst c; rw [eT]; exact ⟨rfl, rfl, rfl, rfl, rfl, rfl⟩
    · rw [eN s c]; exact ⟨rfl, rfl, rfl, rfl, rfl, rfl⟩
  have a := fun s => (all s).1
  have b := fun s => (all s).2.1
  have d := fun s => (all s).2.2.2.1
  have hcur : ∀ s, cur { X with e := E } G s = cur X G s := fun s => by
    show G s (E s).epoch (E s).peer = _
    rw [a, b]; rfl
  have sub : ∀ s, ∀ q ∈ (E s).queue, q ∈ (X.e s).queue := fun s q hq => by
    by_cases c : s = t
    · subst c
      rw [eT] at hq
      exact (List.mem_filter.1 hq).1
    · rw [eN s c] at hq; exact hq
  refine ⟨fun s hs => ?_, fun s hs => ?_, fun s hs h1 => ?_, fun s hs => ?_, fun s hs => ?_, fun s hs q hq => ?_, fun s hs => ?_, h.gm, h.gs, fun s hs p q hp => ?_, fun s hs q hq => ?_, fun s hs p q hq => ?_, h.n1, h.mb, fun n h1 h2 => ?_, h.la, fun x hx => ?_, fun s hs => ?_, fun s hs k n hk => ?_, fun s hs p n hp hn => ?_, fun s hs hp n hn => ?_, fun n h1 h2 h3 h4 h5 => ?_⟩
  · show 1 ≤ (E s).epoch
    rw [a]; exact h.ep s hs
  · show 0 ≤ (E s).peer ∧ (E s).peer ≤ (E (1 - s)).epoch
    rw [b, a]; exact h.pe s hs
  · have h1' : (E s).heard = true := h1
    rw [(all s).2.2.2.2.2] at h1'
    show (E s).peer > 0
    rw [b]; exact h.he s hs h1'
  · show (E s).lost = []
    rw [(all s).2.2.1]; exact h.lo s hs
  · show (E s).next = _
    rw [(all s).2.2.2.2.1, hcur]; exact h.nx s hs
  · obtain ⟨k, n, g1, g2⟩ := h.qu s hs q (sub s q hq)
    refine ⟨k, n, by rw [hcur]; exact g1, ?_⟩
    show _ ∧ _ ∧ _ ∧ (_ ∨ X.to n = (E s).peer) ∧ _ ∧ ((E s).peer = 0 → _)
    rw [b]; exact g2
  · show (E s).queue.Pairwise _
    by_cases c : s = t
    · subst c
      rw [eT]
      exact (h.qd s hs).filter _
    · rw [eN s c]; exact h.qd s hs
  · have hp' : p > (E s).epoch := hp
    rw [a] at hp'
    exact h.gp s hs p q hp'
  · have hq' : q > (E s).peer := hq
    rw [b] at hq'
    show G s (E s).epoch q = []
    rw [a]; exact h.gq s hs q hq'
  · have hq' : q > (E (1 - s)).epoch := hq
    rw [a] at hq'
    exact h.gr s hs p q hq'
  · show X.sd n < 2 ∧ X.fm n ≤ (E (X.sd n)).epoch
    rw [a]; exact h.mf n h1 h2
  · have := h.fl x hx
    refine ⟨this.1, this.2.1, ?_, this.2.2.2⟩
    show x.2.fr ≤ (E (1 - x.1)).epoch
    rw [a]; exact this.2.2.1
  · show 0 ≤ (E s).received ∧ (E s).received ≤ ((G (1 - s) (E s).peer (E s).epoch).length : Int)
    rw [d, b, a]; exact h.re s hs
  · have hk' : (G (1 - s) (E s).peer (E s).epoch)[k]? = some n := hk
    rw [b, a] at hk'
    show ((k : Int) < (E s).received → _) ∧ ((E s).received ≤ (k : Int) → _)
    rw [d]; exact h.ra s hs k n hk'
  · have hp' : p > (E s).peer := hp
    have hn' : n ∈ G (1 - s) p (E s).epoch := hn
    rw [b] at hp'
    rw [a] at hn'
    exact h.rb s hs p n hp' hn'
  · have hp' : (E s).peer = 0 := hp
    have hn' : n ∈ G s (E s).epoch 0 := hn
    rw [b] at hp'
    rw [a] at hn'
    exact h.pd s hs hp' n hn'
  · have h3' : X.fm n = (E (X.sd n)).epoch := h3
    rw [a] at h3'
    show ∃ q ∈ (E (X.sd n)).queue, _
    have h2' : n < X.N := h2
    obtain ⟨q, g1, g2⟩ := h.op n h1 h2 h3' h4 h5
    by_cases c : X.sd n = t
    · rw [c] at g1 ⊢
      rw [eT]
      refine ⟨q, List.mem_filter.2 ⟨g1, ?_⟩, g2⟩
      obtain ⟨j, m, a1, a2, a3, _⟩ := h.qu t ht q g1
      have hm := (h.gm t ht _ _ m (List.mem_of_getElem? a1)).2.1
      have e : n = m := txt_inj (by omega) (by omega) (by rw [← g2, a3])
      subst e
      unfold keepQ
      rw [Bool.not_eq_true', Bool.and_eq_false_iff]
      refine .inr (decide_eq_false fun hle => ?_)
      obtain ⟨n', b1, b2⟩ := hk j (by omega)
      rw [a1] at b1
      injection b1 with b1
      subst b1
      exact b2 h4
    · rw [eN _ c]
      exact ⟨q, g1, g2⟩
/-- the next message arrives -/
theorem J.deliver {X : PS} {G : Logs} (h : J X G) {t n : Nat} (ht : t < 2) {v : Int} (hv : v ≠ 0) {k : Nat} (hk : (X.e t).received = (k : Int)) (hn : (G (1 - t) (X.e t).peer (X.e t).epoch)[k]? = some n) : J { X with e := upd X.e t { X.e t with received := (k : Int) + 1 }, ar := upd X.ar n v, la := upd X.la t n } G := by
  obtain ⟨f1, f2, f3⟩ := flip ht
  obtain ⟨E, hE⟩ : ∃ E, E = upd X.e t { X.e t with received := (k : Int) + 1 } := ⟨_, rfl⟩
  obtain ⟨W, hW⟩ : ∃ W, W = upd X.ar n v := ⟨_, rfl⟩
  obtain ⟨Y, hY⟩ : ∃ Y, Y = upd X.la t n := ⟨_, rfl⟩
  rw [← hE, ← hW, ← hY]
  have eT : E t = { X.e t with received := (k : Int) + 1 } := by rw [hE, upd_same]
  have eN : ∀ s, s ≠ t → E s = X.e s := fun s hs => by rw [hE, upd_ne _ _ hs]
  have all : ∀ s, (E s).epoch = (X.e s).epoch ∧ (E s).peer = (X.e s).peer ∧ (E s).lost = (X.e s).lost ∧ (E s).next = (X.e s).next ∧ (E s).heard = (X.e s).heard ∧ (E s).queue = (X.e s).queue := fun s => by
    by_cases c : s = t
    · subst c; rw [eT]; exact ⟨rfl, rfl, rfl, rfl, rfl, rfl⟩
    · rw [eN s c]; exact ⟨rfl, rfl, rfl, rfl, rfl, rfl⟩
  have a := fun s => (all s).1
  have b := fun s => (all s).2.1
  have q := fun s => (all s).2.2.2.2.2
  have wN : W n = v := by rw [hW, upd_same]
  have wO : ∀ m, m ≠ n → W m = X.ar m := fun m hm => by rw [hW, upd_ne _ _ hm]
  have wM : ∀ m, X.ar m ≠ 0 → W m ≠ 0 := fun m hm => by
    by_cases c : m = n
    · subst c; rw [wN]; exact hv
    · rw [wO m c]; exact hm
  have yT : Y t = n := by rw [hY, upd_same]
  have yO : ∀ s, s ≠ t → Y s = X.la s := fun s hs => by rw [hY, upd_ne _ _ hs]
  have hnm := h.gm (1 - t) f1 _ _ n (List.mem_of_getElem? hn)
  have hcur : ∀ s, cur { X with e := E, ar := W, la := Y } G s = cur X G s := fun s => by
    show G s (E s).epoch (E s).peer = _
    rw [a, b]; rfl
  have two : ∀ s, s < 2 → s ≠ t → 1 - s = t := fun s hs hn => by omega
  refine ⟨fun s hs => ?_, fun s hs => ?_, fun s hs h1 => ?_, fun s hs => ?_, fun s hs => ?_, fun s hs q' hq => ?_, fun s hs => ?_, h.gm, h.gs, fun s hs p q hp => ?_, fun s hs q' hq => ?_, fun s hs p q hq => ?_, h.n1, h.mb, fun n h1 h2 => ?_, fun s hs => ?_, fun x hx => ?_, fun s hs => ?_, fun s hs j m hj => ?_, fun s hs p m hp hm => ?_, fun s hs hp m hm => ?_, fun m h1 h2 h3 h4 h5 => ?_⟩
  · show 1 ≤ (E s).epoch
    rw [a]; exact h.ep s hs
  · show 0 ≤ (E s).peer ∧ (E s).peer ≤ (E (1 - s)).epoch
    rw [b, a]; exact h.pe s hs
  · have h1' : (E s).heard = true := h1
    rw [(all s).2.2.2.2.1] at h1'
    show (E s).peer > 0
    rw [b]; exact h.he s hs h1'
  · show (E s).lost = []
    rw [(all s).2.2.1]; exact h.lo s hs
  · show (E s).next = _
    rw [(all s).2.2.2.1, hcur]; exact h.nx s hs
  · have hq' : q' ∈ (E s).queue := hq
    rw [q] at hq'
    obtain ⟨k, n, g1, g2⟩ := h.qu s hs q' hq'
    refine ⟨k, n, by rw [hcur]; exact g1, ?_⟩
    show _ ∧ _ ∧ _ ∧ (_ ∨ X.to n = (E s).peer) ∧ _ ∧ ((E s).peer = 0 → _)
    rw [b]; exact g2
  · show (E s).queue.Pairwise _
    rw [q]; exact h.qd s hs
  · have hp' : p > (E s).epoch := hp
    rw [a] at hp'
    exact h.gp s hs p q hp'
  · have hq' : q' > (E s).peer := hq
    rw [b] at hq'
    show G s (E s).epoch q' = []
    rw [a]; exact h.gq s hs q' hq'
  · have hq' : q > (E (1 - s)).epoch := hq
    rw [a] at hq'
    exact h.gr s hs p q hq'
  · show X.sd n < 2 ∧ X.fm n ≤ (E (X.sd n)).epoch
    rw [a]; exact h.mf n h1 h2
  · show Y s < X.N
    by_cases c : s = t
    · subst c; rw [yT]; exact hnm.2.1
    · rw [yO s c]; exact h.la s hs
  · have := h.fl x hx
    refine ⟨this.1, this.2.1, ?_, this.2.2.2.1, fun hp j hj => ?_⟩
    · show x.2.fr ≤ (E (1 - x.1)).epoch
      rw [a]; exact this.2.2.1
    · obtain ⟨m, g1, g2⟩ := this.2.2.2.2 hp j hj
      exact ⟨m, g1, wM m g2⟩
  · show 0 ≤ (E s).received ∧ (E s).received ≤ ((G (1 - s) (E s).peer (E s).epoch).length : Int)
    rw [b, a]
    by_cases c : s = t
    · subst c
      rw [eT]
      have := (List.getElem?_eq_some_iff.1 hn).1
      show 0 ≤ (k : Int) + 1 ∧ (k : Int) + 1 ≤ _
      omega
    · rw [eN s c]; exact h.re s hs
  · have hj' : (G (1 - s) (E s).peer (E s).epoch)[j]? = some m := hj
    rw [b, a] at hj'
    show ((j : Int) < (E s).received → W m ≠ 0) ∧ ((E s).received ≤ (j : Int) → W m = 0 ∧ Y s < m)
    have old := h.ra s hs j m hj'
    by_cases c : s = t
    · subst c
      rw [eT]
      show ((j : Int) < (k : Int) + 1 → W m ≠ 0) ∧ ((k : Int) + 1 ≤ (j : Int) → W m = 0 ∧ Y s < m)
      refine ⟨fun hlt => ?_, fun hge => ?_⟩
      · by_cases hjk : j < k
        · exact wM m (old.1 (by omega))
        · obtain rfl : j = k := by omega
          rw [hn] at hj'
          injection hj' with hj'
          rw [← hj', wN]; exact hv
      · have hlt : n < m := by
          have hs2 := h.gs (1 - s) f1 (X.e s).peer (X.e s).epoch
          rw [List.pairwise_iff_getElem] at hs2
          obtain ⟨l1, g1⟩ := List.getElem?_eq_some_iff.1 hn
          obtain ⟨l2, g2⟩ := List.getElem?_eq_some_iff.1 hj'
          have := hs2 k j l1 l2 (by omega)
          rw [g1, g2] at this
          exact this
        refine ⟨?_, by rw [yT]; exact hlt⟩
        rw [wO m (by omega)]
        exact (old.2 (by omega)).1
    · rw [eN s c, yO s c]
      have hm := h.gm (1 - s) (flip hs).1 _ _ m (List.mem_of_getElem? hj')
      have hne : m ≠ n := fun e => by
        have e1 := hm.2.2.1
        rw [e, hnm.2.2.1] at e1
        omega
      rw [wO m hne]
      exact old
  · have hp' : p > (E s).peer := hp
    have hm' : m ∈ G (1 - s) p (E s).epoch := hm
    rw [b] at hp'
    rw [a] at hm'
    have old := h.rb s hs p m hp' hm'
    have hmm := h.gm (1 - s) (flip hs).1 _ _ m hm'
    show W m = 0 ∧ Y s < m
    by_cases c : s = t
    · subst c
      have hne : m ≠ n := fun e => by
        have e1 := hmm.2.2.2
        rw [e, hnm.2.2.2] at e1
        omega
      refine ⟨by rw [wO m hne]; exact old.1, ?_⟩
      rw [yT]
      rcases Nat.lt_or_ge n m with h1 | h1
      · exact h1
      · have := h.mb m n hmm.1 (by omega) hnm.2.1 (by rw [hmm.2.2.1, hnm.2.2.1])
        rw [hmm.2.2.2, hnm.2.2.2] at this
        omega
    · have hne : m ≠ n := fun e => by
        have e1 := hmm.2.2.1
        rw [e, hnm.2.2.1] at e1
        omega
      rw [wO m hne, yO s c]
      exact old
  · have hp' : (E s).peer = 0 := hp
    have hm' : m ∈ G s (E s).epoch 0 := hm
    rw [b] at hp'
    rw [a] at hm'
    have old := h.pd s hs hp' m hm'
    have hmm := h.gm s hs _ _ m hm'
    show W m = 0 ∧ Y (1 - s) < m
    by_cases c : s = t
    · subst c
      have hne : m ≠ n := fun e => by
        have e1 := hmm.2.2.1
        rw [e, hnm.2.2.1] at e1
        omega
      rw [wO m hne, yO _ f3]
      exact old
    · have hst := two s hs c
      have hs1 : 1 - t = s := by omega
      rw [hs1] at hnm hn
      have hpt := (h.pe t ht).2
      rw [hs1] at hpt
      have hlt : (X.e t).peer < (X.e s).epoch := by
        rcases Int.lt_or_le (X.e t).peer (X.e s).epoch with h1 | h1
        · exact h1
        · have e1 : (X.e t).peer = (X.e s).epoch := by omega
          rw [e1] at hn
          have h0 := h.gq s hs (X.e t).epoch (by have := h.ep t ht; omega)
          rw [h0] at hn
          simp at hn
      have hne : m ≠ n := fun e => by
        have e1 := hmm.2.2.2
        rw [e, hnm.2.2.2] at e1
        omega
      refine ⟨by rw [wO m hne]; exact old.1, ?_⟩
      rw [hst, yT]
      rcases Nat.lt_or_ge n m with h1 | h1
      · exact h1
      · have := h.mb m n hmm.1 (by omega) hnm.2.1 (by rw [hmm.2.2.1, hnm.2.2.1])
        rw [hmm.2.2.2, hnm.2.2.2] at this
        omega
  · have h3' : X.fm m = (E (X.sd m)).epoch := h3
    have h4' : W m = 0 := h4
    rw [a] at h3'
    show ∃ q ∈ (E (X.sd m)).queue, _
    rw [q]
    have hne : m ≠ n := fun e => by
      rw [e, wN] at h4'
      exact hv h4'
    rw [wO m hne] at h4'
    exact h.op m h1 h2 h3' h4' h5
end Go.Proofs.Ytfidjdlmmcaplaa
/-
  Link, plain: an end that meets a new peer; a frame that arrives keeps what holds of the line.
-/
namespace Go.Proofs.Ytfidjdlmmcaplaa
open Go

def lsAll (xs : List Bytes) (ls : Nat → Bool) : Nat → Bool := xs.foldl (fun g b => upd g (numB b) true) ls
theorem lsAll_cons (b : Bytes) (xs : List Bytes) (ls : Nat → Bool) : lsAll (b :: xs) ls = lsAll xs (upd ls (numB b) true) := rfl
theorem lsAll_get : ∀ (xs : List Bytes) (ls : Nat → Bool) (n : Nat), lsAll xs ls n = true ↔ (ls n = true ∨ ∃ b ∈ xs, numB b = n)
  | [], ls, n => by
    show ls n = true ↔ _
    simp
  | b :: xs, ls, n => by
    rw [lsAll_cons, lsAll_get xs _ n]
    by_cases c : n = numB b
    · subst c
      rw [upd_same]
      simp
    · rw [upd_ne _ _ c]
      constructor
      · rintro (h | ⟨b', h1, h2⟩)
        · exact .inl h
        · exact .inr ⟨b', List.mem_cons_of_mem _ h1, h2⟩
      · rintro (h | ⟨b', h1, h2⟩)
        · exact .inl h
        · rcases List.mem_cons.1 h1 with rfl | h1
          · exact absurd h2.symm c
          · exact .inr ⟨b', h1, h2⟩
theorem lsAll_not {xs : List Bytes} {ls : Nat → Bool} {n : Nat} (h : ls n = false) (h2 : ∀ b ∈ xs, numB b ≠ n) : lsAll xs ls n = false := by
  rw [Bool.eq_false_iff]
  intro h3
  rcases (lsAll_get xs ls n).1 h3 with h4 | ⟨b, h4, h5⟩
  · rw [h] at h4; cases h4
  · exact h2 b h4 h5
theorem upd_id {α : Type} (f : Nat → α) (s : Nat) : upd f s (f s) = f := by
  funext t
  by_cases c : t = s
  · subst c; exact upd_same _ _ _
  · exact upd_ne _ _ c
theorem lostE_eq {S : EndS} (h : S.lost = []) : { S with lost := [] } = S := by
  obtain ⟨a, b, c, d, e, f, g, h1, i, j⟩ := S
  simp only at h
  subst h
  rfl
def meetP (X : PS) (t : Nat) (p : Int) : PS := { X with e := upd X.e t { meetS (X.e t) p with lost := [] }, ls := lsAll (meetS (X.e t) p).lost X.ls }
/-- messages of the session are not lost -/
def LC (X : PS) (G : Logs) : Prop := ∀ s, s < 2 → ∀ n, n ∈ cur X G s → X.ls n = false
/-- what the queue's entries are -/
theorem J.inqueue {X : PS} {G : Logs} (h : J X G) {t : Nat} (ht : t < 2) (hN : X.N < 300) {q : QE} (hq : q ∈ (X.e t).queue) : 1 ≤ numB q.body ∧ numB q.body < X.N ∧ X.sd (numB q.body) = t ∧ X.ls (numB q.body) = false ∧ q.body = txt (numB q.body) := by
  obtain ⟨k, n, a1, a2, a3, a4, a5⟩ := h.qu t ht q hq
  have hm := h.gm t ht _ _ n (List.mem_of_getElem? a1)
  rw [a3, numB_txt n (by omega)]
  exact ⟨hm.1, hm.2.1, hm.2.2.1, a4, rfl⟩
theorem J.meetB {X : PS} {G : Logs} (h : J X G) {t : Nat} (ht : t < 2) {p : Int} (hp : 0 < (X.e t).peer) (hp2 : (X.e t).peer < p) (hp3 : p ≤ (X.e (1 - t)).epoch) (hN : X.N < 300) : J (meetP X t p) G := by
  obtain ⟨f1, f2, f3⟩ := flip ht
  have hlo := h.lo t ht
  obtain ⟨E, hE⟩ : ∃ E, E = upd X.e t { meetS (X.e t) p with lost := [] } := ⟨_, rfl⟩
  obtain ⟨L, hL⟩ : ∃ L, L = lsAll (meetS (X.e t) p).lost X.ls := ⟨_, rfl⟩
  have hX : meetP X t p = { X with e := E, ls := L } := by rw [hE, hL]; rfl
  rw [hX]
  have hms : meetS (X.e t) p = { (X.e t) with lost := (X.e t).lost ++ (X.e t).queue.map (·.body), queue := [], next := 1, peer := p, received := 0, heard := false } := by
    unfold meetS
    rw [if_neg (by omega), if_pos hp]
  rw [hms] at hE hL
  rw [hlo, List.nil_append] at hL
  have eT : E t = { (X.e t) with lost := [], queue := [], next := 1, peer := p, received := 0, heard := false } := by rw [hE, upd_same]
  have eN : ∀ s, s ≠ t → E s = X.e s := fun s hs => by rw [hE, upd_ne _ _ hs]
  have a : ∀ s, (E s).epoch = (X.e s).epoch := fun s => by
    by_cases c : s = t
    · subst c; rw [eT]
    · rw [eN s c]
  have lO : ∀ n, X.sd n ≠ t → X.ls n = false → L n = false := fun n hn h0 => by
    rw [hL]
    refine lsAll_not h0 fun b hb => ?_
    obtain ⟨q, hq, rfl⟩ := List.mem_map.1 hb
    intro e
    have := (h.inqueue ht hN hq).2.2.1
    rw [e] at this
    exact hn this
  have lF : ∀ n, L n = false → X.ls n = false ∧ ∀ q ∈ (X.e t).queue, numB q.body ≠ n := fun n h0 => by
    constructor
    · rw [Bool.eq_false_iff]
      intro h1
      have := (lsAll_get ((X.e t).queue.map (·.body)) X.ls n).2 (.inl h1)
      rw [← hL, h0] at this
      cases this
    · intro q hq e
      have := (lsAll_get ((X.e t).queue.map (·.body)) X.ls n).2 (.inr ⟨q.body, List.mem_map.2 ⟨q, hq, rfl⟩, e⟩)
      rw [← hL, h0] at this
      cases this
  refine ⟨fun s hs => ?_, fun s hs => ?_, fun s hs h1 => ?_, fun s hs => ?_, fun s hs => ?_, fun s hs q hq => ?_, fun s hs => ?_, h.gm, h.gs, fun s hs p' q hp' => ?_, fun s hs q hq => ?_, fun s hs p' q hq => ?_, h.n1, h.mb, fun n h1 h2 => ?_, h.la, fun x hx => ?_, fun s hs => ?_, fun s hs j m hj => ?_, fun s hs p' m hp' hm => ?_, fun s hs hp' m hm => ?_, fun m h1 h2 h3 h4 h5 => ?_⟩
  · show 1 ≤ (E s).epoch
    rw [a]; exact h.ep s hs
  · show 0 ≤ (E s).peer ∧ (E s).peer ≤ (E (1 - s)).epoch
    rw [a]
    by_cases c : s = t
    · subst c; rw [eT]; simp only; omega
    · rw [eN s c]; exact h.pe s hs
  · have h1' : (E s).heard = true := h1
    show (E s).peer > 0
    by_cases c : s = t
    · subst c; rw [eT] at h1'; cases h1'
    · rw [eN s c] at h1' ⊢; exact h.he s hs h1'
  · show (E s).lost = []
    by_cases c : s = t
    · subst c; rw [eT]
    · rw [eN s c]; exact h.lo s hs
  · show (E s).next = ((G s (E s).epoch (E s).peer).length : Int) + 1
    by_cases c : s = t
    · subst c; rw [eT]
      simp only
      rw [h.gq s hs p (by omega)]
      rfl
    · rw [eN s c]; exact h.nx s hs
  · have hq' : q ∈ (E s).queue := hq
    by_cases c : s = t
    · subst c; rw [eT] at hq'; cases hq'
    · rw [eN s c] at hq'
      obtain ⟨k, n, g1, g2, g3, g4, g5, g6⟩ := h.qu s hs q hq'
      have hm := h.gm s hs _ _ n (List.mem_of_getElem? g1)
      refine ⟨k, n, ?_, g2, g3, lO n (by rw [hm.2.2.1]; exact c) g4, ?_⟩
      · show (G s (E s).epoch (E s).peer)[k]? = some n
        rw [eN s c]; exact g1
      · show (_ ∨ X.to n = (E s).peer) ∧ _ ∧ ((E s).peer = 0 → _)
        rw [eN s c]; exact ⟨g5, g6⟩
  · show (E s).queue.Pairwise _
    by_cases c : s = t
    · subst c; rw [eT]; exact .nil
    · rw [eN s c]; exact h.qd s hs
  · have hp2 : p' > (E s).epoch := hp'
    rw [a] at hp2
    exact h.gp s hs p' q hp2
  · have hq' : q > (E s).peer := hq
    show G s (E s).epoch q = []
    rw [a]
    by_cases c : s = t
    · subst c; rw [eT] at hq'
      simp only at hq'
      exact h.gq s hs q (by omega)
    · rw [eN s c] at hq'; exact h.gq s hs q hq'
  · have hq' : q > (E (1 - s)).epoch := hq
    rw [a] at hq'
    exact h.gr s hs p' q hq'
  · show X.sd n < 2 ∧ X.fm n ≤ (E (X.sd n)).epoch
    rw [a]; exact h.mf n h1 h2
  · have := h.fl x hx
    refine ⟨this.1, this.2.1, ?_, this.2.2.2⟩
    show x.2.fr ≤ (E (1 - x.1)).epoch
    rw [a]; exact this.2.2.1
  · show 0 ≤ (E s).received ∧ (E s).received ≤ ((G (1 - s) (E s).peer (E s).epoch).length : Int)
    by_cases c : s = t
    · subst c; rw [eT]; simp only; omega
    · rw [eN s c]; exact h.re s hs
  · have hj' : (G (1 - s) (E s).peer (E s).epoch)[j]? = some m := hj
    show ((j : Int) < (E s).received → X.ar m ≠ 0) ∧ ((E s).received ≤ (j : Int) → X.ar m = 0 ∧ X.la s < m)
    by_cases c : s = t
    · subst c
      rw [eT] at hj' ⊢
      simp only at hj' ⊢
      exact ⟨fun h0 => by omega, fun _ => h.rb s hs p m hp2 (List.mem_of_getElem? hj')⟩
    · rw [eN s c] at hj' ⊢; exact h.ra s hs j m hj'
  · have hp2' : p' > (E s).peer := hp'
    have hm' : m ∈ G (1 - s) p' (E s).epoch := hm
    rw [a] at hm'
    by_cases c : s = t
    · subst c
      rw [eT] at hp2'
      simp only at hp2'
      exact h.rb s hs p' m (by omega) hm'
    · rw [eN s c] at hp2'; exact h.rb s hs p' m hp2' hm'
  · have hp2' : (E s).peer = 0 := hp'
    have hm' : m ∈ G s (E s).epoch 0 := hm
    rw [a] at hm'
    by_cases c : s = t
    · subst c
      rw [eT] at hp2'
      simp only at hp2'
      omega
    · rw [eN s c] at hp2'; exact h.pd s hs hp2' m hm'
  · have h3' : X.fm m = (E (X.sd m)).epoch := h3
    have h5' : L m = false := h5
    rw [a] at h3'
    show ∃ q ∈ (E (X.sd m)).queue, _
    obtain ⟨l1, l2⟩ := lF m h5'
    obtain ⟨q, g1, g2⟩ := h.op m h1 h2 h3' h4 l1
    by_cases c : X.sd m = t
    · rw [c] at g1
      have h2' : m < X.N := h2
      exact absurd (by rw [g2, numB_txt m (by omega)]) (l2 q g1)
    · rw [eN _ c]; exact ⟨q, g1, g2⟩
def meetG (X : PS) (G : Logs) (t : Nat) (p : Int) : Logs := fun s a b => if s = t ∧ a = (X.e t).epoch then (if b = p then G t a 0 else if b = 0 then [] else G s a b) else G s a b
theorem J.meetC {X : PS} {G : Logs} (h : J X G) {t : Nat} (ht : t < 2) {p : Int} (hp : (X.e t).peer = 0) (hp2 : 0 < p) (hp3 : p ≤ (X.e (1 - t)).epoch) : J (meetP X t p) (meetG X G t p) := by
  obtain ⟨f1, f2, f3⟩ := flip ht
  have hlo := h.lo t ht
  obtain ⟨E, hE⟩ : ∃ E, E = upd X.e t { meetS (X.e t) p with lost := [] } := ⟨_, rfl⟩
  obtain ⟨F, hF⟩ : ∃ F, F = meetG X G t p := ⟨_, rfl⟩
  have hms : meetS (X.e t) p = { (X.e t) with peer := p, received := 0, heard := false } := by
    unfold meetS
    rw [if_neg (by omega), if_neg (by omega)]
  have hX : meetP X t p = { X with e := E } := by
    rw [hE]
    unfold meetP
    rw [hms, show ({ (X.e t) with peer := p, received := 0, heard := false } : EndS).lost = [] from hlo]
    rfl
  rw [hX, ← hF]
  rw [hms] at hE
  have eT : E t = { (X.e t) with lost := [], peer := p, received := 0, heard := false } := by rw [hE, upd_same]
  have eN : ∀ s, s ≠ t → E s = X.e s := fun s hs => by rw [hE, upd_ne _ _ hs]
  have a : ∀ s, (E s).epoch = (X.e s).epoch := fun s => by
    by_cases c : s = t
    · subst c; rw [eT]
    · rw [eN s c]
  have b : ∀ s, (E s).queue = (X.e s).queue := fun s => by
    by_cases c : s = t
    · subst c; rw [eT]
    · rw [eN s c]
  have hF1 : F t (X.e t).epoch p = G t (X.e t).epoch 0 := by rw [hF]; unfold meetG; rw [if_pos ⟨rfl, rfl⟩, if_pos rfl]
  have hF2 : F t (X.e t).epoch 0 = [] := by rw [hF]; unfold meetG; rw [if_pos ⟨rfl, rfl⟩, if_neg (by omega), if_pos rfl]
  have hF3 : ∀ s c d, (s = t → c = (X.e t).epoch → d ≠ p ∧ d ≠ 0) → F s c d = G s c d := fun s c d hc => by
    rw [hF]; unfold meetG
    split
    · rename_i h0
      have := hc h0.1 h0.2
      rw [if_neg this.1, if_neg this.2]
    · rfl
  have hFs : ∀ s c d, s ≠ t → F s c d = G s c d := fun s c d hs => hF3 s c d fun h0 => absurd h0 hs
  have hG0 : G t (X.e t).epoch p = [] := h.gq t ht p (by omega)
  have hF4 : ∀ s c d, ∃ d', ∀ n, n ∈ F s c d → n ∈ G s c d' := fun s c d => by
    by_cases h0 : s = t ∧ c = (X.e t).epoch
    · obtain ⟨rfl, rfl⟩ := h0
      by_cases h1 : d = p
      · subst h1; exact ⟨0, fun n hn => by rw [hF1] at hn; exact hn⟩
      · by_cases h2 : d = 0
        · subst h2; exact ⟨0, fun n hn => by rw [hF2] at hn; cases hn⟩
        · exact ⟨d, fun n hn => by rw [hF3 _ _ _ (fun _ _ => ⟨h1, h2⟩)] at hn; exact hn⟩
    · exact ⟨d, fun n hn => by rw [hF3 _ _ _ (fun h1 h2 => absurd ⟨h1, h2⟩ h0)] at hn; exact hn⟩
  have hFk : ∀ s c d (k n : Nat), (G s c d)[k]? = some n → d ≠ 0 → (F s c d)[k]? = some n := fun s c d k n hk hd => by
    rw [hF3 s c d]
    · exact hk
    · rintro rfl rfl
      refine ⟨fun h0 => ?_, hd⟩
      subst h0
      rw [hG0] at hk
      simp at hk
  -- the lists of the end in the other end's eyes
  have hFo : ∀ c d, d ≠ 0 → (F t c d = G t c d ∨ (c = (X.e t).epoch ∧ d = p ∧ F t c d = G t (X.e t).epoch 0 ∧ G t c d = [])) := fun c d hd => by
    by_cases h0 : c = (X.e t).epoch
    · subst h0
      by_cases h1 : d = p
      · subst h1; exact .inr ⟨rfl, rfl, hF1, hG0⟩
      · exact .inl (hF3 _ _ _ fun _ _ => ⟨h1, hd⟩)
    · exact .inl (hF3 _ _ _ fun _ h1 => absurd h1 h0)
  have one : ∀ s, s < 2 → s ≠ t → s = 1 - t ∧ 1 - s = t := fun s hs hn => by omega
  refine ⟨fun s hs => ?_, fun s hs => ?_, fun s hs h1 => ?_, fun s hs => ?_, fun s hs => ?_, fun s hs q hq => ?_, fun s hs => ?_, fun s hs c d n hn => ?_, fun s hs c d => ?_, fun s hs p' q hp' => ?_, fun s hs q hq => ?_, fun s hs p' q hq => ?_, h.n1, h.mb, fun n h1 h2 => ?_, h.la, fun x hx => ?_, fun s hs => ?_, fun s hs j m hj => ?_, fun s hs p' m hp' hm => ?_, fun s hs hp' m hm => ?_, fun m h1 h2 h3 h4 h5 => ?_⟩
  · show 1 ≤ (E s).epoch
    rw [a]; exact h.ep s hs
  · show 0 ≤ (E s).peer ∧ (E s).peer ≤ (E (1 - s)).epoch
    rw [a]
    by_cases c : s = t
    · subst c; rw [eT]; simp only; omega
    · rw [eN s c]; exact h.pe s hs
  · have h1' : (E s).heard = true := h1
    show (E s).peer > 0
    by_cases c : s = t
    · subst c; rw [eT] at h1'; cases h1'
    · rw [eN s c] at h1' ⊢; exact h.he s hs h1'
  · show (E s).lost = []
    by_cases c : s = t
    · subst c; rw [eT]
    · rw [eN s c]; exact h.lo s hs
  · show (E s).next = ((F s (E s).epoch (E s).peer).length : Int) + 1
    by_cases c : s = t
    · subst c; rw [eT]
      simp only
      rw [hF1]
      have := h.nx s hs
      unfold cur at this
      rw [hp] at this
      exact this
    · rw [eN s c, hFs _ _ _ c]; exact h.nx s hs
  · have hq' : q ∈ (E s).queue := hq
    rw [b] at hq'
    obtain ⟨k, n, g1, g2, g3, g4, g5, g6, g7⟩ := h.qu s hs q hq'
    refine ⟨k, n, ?_, g2, g3, g4, ?_⟩
    · show (F s (E s).epoch (E s).peer)[k]? = some n
      by_cases c : s = t
      · subst c; rw [eT]
        simp only
        rw [hF1]
        unfold cur at g1
        rw [hp] at g1
        exact g1
      · rw [eN s c, hFs _ _ _ c]; exact g1
    · show (_ ∨ X.to n = (E s).peer) ∧ _ ∧ ((E s).peer = 0 → _)
      by_cases c : s = t
      · subst c; rw [eT]
        rw [hp] at g5
        refine ⟨.inl (by rcases g5 with h | h <;> exact h), g6, fun h0 => ?_⟩
        simp only at h0
        omega
      · rw [eN s c]; exact ⟨g5, g6, g7⟩
  · show (E s).queue.Pairwise _
    rw [b]; exact h.qd s hs
  · obtain ⟨d', hd⟩ := hF4 s c d
    exact h.gm s hs c d' n (hd n hn)
  · show (F s c d).Pairwise _
    by_cases h0 : s = t ∧ c = (X.e t).epoch
    · obtain ⟨rfl, rfl⟩ := h0
      by_cases h1 : d = p
      · subst h1; rw [hF1]; exact h.gs s hs _ _
      · by_cases h2 : d = 0
        · subst h2; rw [hF2]; exact .nil
        · rw [hF3 _ _ _ (fun _ _ => ⟨h1, h2⟩)]; exact h.gs s hs _ _
    · rw [hF3 _ _ _ (fun h1 h2 => absurd ⟨h1, h2⟩ h0)]; exact h.gs s hs _ _
  · have hp2 : p' > (E s).epoch := hp'
    rw [a] at hp2
    rw [hF3 s p' q (fun h0 h1 => by subst h0; omega)]
    exact h.gp s hs p' q hp2
  · have hq' : q > (E s).peer := hq
    show F s (E s).epoch q = []
    rw [a]
    by_cases c : s = t
    · subst c; rw [eT] at hq'
      simp only at hq'
      rw [hF3 _ _ _ (fun _ _ => ⟨by omega, by omega⟩)]
      exact h.gq s hs q (by omega)
    · rw [eN s c] at hq'
      rw [hFs _ _ _ c]; exact h.gq s hs q hq'
  · have hq' : q > (E (1 - s)).epoch := hq
    rw [a] at hq'
    have := h.ep (1 - s) (flip hs).1
    rw [hF3 s p' q (fun h0 h1 => by subst h0; exact ⟨by omega, by omega⟩)]
    exact h.gr s hs p' q hq'
  · show X.sd n < 2 ∧ X.fm n ≤ (E (X.sd n)).epoch
    rw [a]; exact h.mf n h1 h2
  · obtain ⟨x1, x2, x3, x4, x5⟩ := h.fl x hx
    refine ⟨x1, x2, ?_, fun hs => ?_, fun hto k hk => ?_⟩
    · show x.2.fr ≤ (E (1 - x.1)).epoch
      rw [a]; exact x3
    · obtain ⟨k, n, y1, y2⟩ := x4 hs
      have : x.2.to ≠ 0 := fun h0 => by
        have := x2.2.2.2.2.2.2
        omega
      exact ⟨k, n, hFk _ _ _ _ _ y1 this, y2⟩
    · obtain ⟨n, y1, y2⟩ := x5 hto k hk
      have : x.2.fr ≠ 0 := fun h0 => by
        have := x2.1.1
        omega
      exact ⟨n, hFk _ _ _ _ _ y1 this, y2⟩
  · show 0 ≤ (E s).received ∧ (E s).received ≤ ((F (1 - s) (E s).peer (E s).epoch).length : Int)
    by_cases c : s = t
    · subst c; rw [eT]; simp only; omega
    · rw [eN s c]
      have hr := h.re s hs
      rw [(one s hs c).2] at hr ⊢
      have := h.ep s hs
      rcases hFo (X.e s).peer (X.e s).epoch (by omega) with h0 | ⟨_, _, h0, h1⟩
      · rw [h0]; exact hr
      · rw [h1] at hr
        simp only [List.length_nil] at hr
        omega
  · have hj' : (F (1 - s) (E s).peer (E s).epoch)[j]? = some m := hj
    show ((j : Int) < (E s).received → X.ar m ≠ 0) ∧ ((E s).received ≤ (j : Int) → X.ar m = 0 ∧ X.la s < m)
    by_cases c : s = t
    · subst c
      rw [eT] at hj' ⊢
      simp only at hj' ⊢
      rw [hFs _ _ _ f3] at hj'
      exact ⟨fun h0 => by omega, fun _ => h.rb s hs p m (by omega) (List.mem_of_getElem? hj')⟩
    · rw [eN s c] at hj' ⊢
      have o := one s hs c
      rw [o.2] at hj'
      have := h.ep s hs
      rcases hFo (X.e s).peer (X.e s).epoch (by omega) with h0 | ⟨_, _, h0, h1⟩
      · rw [h0, ← o.2] at hj'
        exact h.ra s hs j m hj'
      · have hr := h.re s hs
        rw [o.2, h1] at hr
        simp only [List.length_nil] at hr
        rw [h0] at hj'
        have hpd := h.pd t ht hp m (List.mem_of_getElem? hj')
        rw [← o.1] at hpd
        exact ⟨fun h2 => by omega, fun _ => hpd⟩
  · have hp2' : p' > (E s).peer := hp'
    have hm' : m ∈ F (1 - s) p' (E s).epoch := hm
    rw [a] at hm'
    by_cases c : s = t
    · subst c
      rw [eT] at hp2'
      simp only at hp2'
      rw [hFs _ _ _ f3] at hm'
      exact h.rb s hs p' m (by omega) hm'
    · rw [eN s c] at hp2'
      have o := one s hs c
      rw [o.2] at hm'
      have := h.ep s hs
      rcases hFo p' (X.e s).epoch (by omega) with h0 | ⟨_, _, h0, h1⟩
      · rw [h0, ← o.2] at hm'
        exact h.rb s hs p' m hp2' hm'
      · rw [h0] at hm'
        have hpd := h.pd t ht hp m hm'
        rw [← o.1] at hpd
        exact hpd
  · have hp2' : (E s).peer = 0 := hp'
    have hm' : m ∈ F s (E s).epoch 0 := hm
    by_cases c : s = t
    · subst c
      rw [eT] at hp2'
      simp only at hp2'
      omega
    · rw [eN s c] at hp2'
      rw [a, hFs _ _ _ c] at hm'
      exact h.pd s hs hp2' m hm'
  · have h3' : X.fm m = (E (X.sd m)).epoch := h3
    rw [a] at h3'
    show ∃ q ∈ (E (X.sd m)).queue, _
    rw [b]
    exact h.op m h1 h2 h3' h4 h5
theorem J.meetB_lc {X : PS} {G : Logs} (h : J X G) (hl : LC X G) {t : Nat} (ht : t < 2) {p : Int} (hp2 : (X.e t).peer < p) (hp : 0 < (X.e t).peer) (hN : X.N < 300) : LC (meetP X t p) G := by
  have hlo := h.lo t ht
  have hms : meetS (X.e t) p = { (X.e t) with lost := (X.e t).lost ++ (X.e t).queue.map (·.body), queue := [], next := 1, peer := p, received := 0, heard := false } := by
    unfold meetS
    rw [if_neg (by omega), if_pos hp]
  intro s hs n hn
  have hn' : n ∈ G s ((upd X.e t { meetS (X.e t) p with lost := [] }) s).epoch ((upd X.e t { meetS (X.e t) p with lost := [] }) s).peer := hn
  by_cases c : s = t
  · subst c
    rw [upd_same, hms] at hn'
    simp only at hn'
    rw [h.gq s hs p hp2] at hn'
    cases hn'
  · rw [upd_ne _ _ c] at hn'
    show lsAll (meetS (X.e t) p).lost X.ls n = false
    refine lsAll_not (hl s hs n hn') fun b hb e => ?_
    rw [hms] at hb
    simp only at hb
    rw [hlo, List.nil_append] at hb
    obtain ⟨q, hq, rfl⟩ := List.mem_map.1 hb
    have h1 := (h.inqueue ht hN hq).2.2.1
    have h2 := (h.gm s hs _ _ n hn').2.2.1
    rw [e, h2] at h1
    exact c h1
theorem J.meetC_lc {X : PS} {G : Logs} (h : J X G) (hl : LC X G) {t : Nat} (ht : t < 2) {p : Int} (hp : (X.e t).peer = 0) (hp2 : 0 < p) : LC (meetP X t p) (meetG X G t p) := by
  have hlo := h.lo t ht
  have hms : meetS (X.e t) p = { (X.e t) with peer := p, received := 0, heard := false } := by
    unfold meetS
    rw [if_neg (by omega), if_neg (by omega)]
  intro s hs n hn
  have hn' : n ∈ meetG X G t p s ((upd X.e t { meetS (X.e t) p with lost := [] }) s).epoch ((upd X.e t { meetS (X.e t) p with lost := [] }) s).peer := hn
  show lsAll (meetS (X.e t) p).lost X.ls n = false
  have e0 : (meetS (X.e t) p).lost = [] := by rw [hms]; exact hlo
  rw [e0]
  show X.ls n = false
  by_cases c : s = t
  · subst c
    rw [upd_same, hms] at hn'
    simp only at hn'
    unfold meetG at hn'
    rw [if_pos ⟨rfl, rfl⟩, if_pos rfl] at hn'
    refine hl s hs n ?_
    unfold cur
    rw [hp]
    exact hn'
  · rw [upd_ne _ _ c] at hn'
    unfold meetG at hn'
    rw [if_neg (fun h0 => c h0.1)] at hn'
    exact hl s hs n hn'
theorem J.meet {X : PS} {G : Logs} (h : J X G) {t : Nat} (ht : t < 2) {p : Int} (hp : (X.e t).peer ≤ p) (hp1 : 1 ≤ p) (hp3 : p ≤ (X.e (1 - t)).epoch) (hN : X.N < 300) : ∃ G', J (meetP X t p) G' ∧ (LC X G → LC (meetP X t p) G') := by
  rcases Int.lt_or_le (X.e t).peer p with h1 | h1
  · have := (h.pe t ht).1
    rcases Int.lt_or_le 0 (X.e t).peer with h2 | h2
    · exact ⟨G, h.meetB ht h2 h1 hp3 hN, fun hl => h.meetB_lc hl ht h1 h2 hN⟩
    · exact ⟨_, h.meetC ht (by omega) (by omega) hp3, fun hl => h.meetC_lc hl ht (by omega) (by omega)⟩
  · have e : (X.e t).peer = p := by omega
    subst e
    refine ⟨G, ?_⟩
    have : meetP X t (X.e t).peer = X := by
      unfold meetP
      have e1 : meetS (X.e t) (X.e t).peer = X.e t := by unfold meetS; rw [if_pos rfl]
      rw [e1, lostE_eq (h.lo t ht), upd_id, h.lo t ht]
      rfl
    rw [this]
    exact ⟨h, id⟩
def recvP (X : PS) (t : Nat) (f : FrS) : PS :=
  { X with e := upd X.e t { (receiveS (X.e t) f).1 with lost := [] }, ar := (receiveS (X.e t) f).2.foldl (fun g b => upd g (numB b) (X.e t).epoch) X.ar, la := (receiveS (X.e t) f).2.foldl (fun g b => upd g t (numB b)) X.la, ls := lsAll (receiveS (X.e t) f).1.lost X.ls }
theorem meet_lost (S : EndS) (p : Int) (h : S.lost = []) : (meetS S p).lost = [] ∨ (meetS S p).lost = S.queue.map (·.body) := by
  unfold meetS
  split
  · exact .inl h
  · split
    · refine .inr ?_
      show S.lost ++ _ = _
      rw [h]; rfl
    · exact .inl h
theorem meet_epoch (S : EndS) (p : Int) : (meetS S p).epoch = S.epoch ∧ ((meetS S p).heard = true → S.heard = true) ∧ (meetS S p).peer = p := by
  unfold meetS
  split
  · rename_i h
    exact ⟨rfl, id, h.symm⟩
  · split <;> exact ⟨rfl, (fun h => by cases h), rfl⟩
theorem J.queue_nodup {X : PS} {G : Logs} (h : J X G) {t : Nat} (ht : t < 2) (hN : X.N < 300) : (((X.e t).queue.map (·.body)).map numB).Nodup := by
  rw [List.map_map, List.Nodup, List.pairwise_map]
  refine (h.qd t ht).imp_of_mem ?_
  intro a b ha hb hab
  obtain ⟨k, n, a1, a2, a3, _⟩ := h.qu t ht a ha
  obtain ⟨k', n', b1, b2, b3, _⟩ := h.qu t ht b hb
  have h1 := (h.gm t ht _ _ n (List.mem_of_getElem? a1)).2.1
  have h2 := (h.gm t ht _ _ n' (List.mem_of_getElem? b1)).2.1
  show numB a.body ≠ numB b.body
  rw [a3, b3, numB_txt n (by omega), numB_txt n' (by omega)]
  have hs := h.gs t ht (X.e t).epoch (X.e t).peer
  rw [List.pairwise_iff_getElem] at hs
  obtain ⟨l1, g1⟩ := List.getElem?_eq_some_iff.1 a1
  obtain ⟨l2, g2⟩ := List.getElem?_eq_some_iff.1 b1
  have := hs k k' l1 l2 (by omega)
  have e1 : (G t (X.e t).epoch (X.e t).peer)[k] = n := g1
  have e2 : (G t (X.e t).epoch (X.e t).peer)[k'] = n' := g2
  rw [e1, e2] at this
  omega
/-- a frame of the line arrives -/
theorem J.recv {X : PS} {G : Logs} (h : J X G) {t : Nat} {f : FrS} (hf : (t, f) ∈ X.fl) (hN : X.N < 300) :
    (∃ G', J (recvP X t f) G' ∧ (LC X G → LC (recvP X t f) G')) ∧
    (∀ b ∈ (receiveS (X.e t) f).2, 1 ≤ numB b ∧ numB b < X.N ∧ X.ar (numB b) = 0 ∧ X.sd (numB b) ≠ t ∧ X.la t < numB b ∧ X.to (numB b) = (X.e t).epoch ∧ b = txt (numB b)) ∧
    (∀ b ∈ (receiveS (X.e t) f).1.lost, 1 ≤ numB b ∧ numB b < X.N ∧ X.sd (numB b) = t ∧ X.ls (numB b) = false ∧ b = txt (numB b)) ∧
    ((receiveS (X.e t) f).1.lost.map numB).Nodup ∧ (receiveS (X.e t) f).1.epoch = (X.e t).epoch ∧ (receiveS (X.e t) f).2.length ≤ 1 := by
  have hx := h.fl _ hf
  have ht : t < 2 := hx.1
  obtain ⟨f1, f2, f3⟩ := flip ht
  have hlo := h.lo t ht
  obtain ⟨R, hR⟩ : ∃ R, R = receiveS (X.e t) f := ⟨_, rfl⟩
  have hP : recvP X t f = { X with e := upd X.e t { R.1 with lost := [] }, ar := R.2.foldl (fun g b => upd g (numB b) (X.e t).epoch) X.ar, la := R.2.foldl (fun g b => upd g t (numB b)) X.la, ls := lsAll R.1.lost X.ls } := by rw [hR]; rfl
  rw [hP, ← hR]
  unfold receiveS at hR
  split at hR
  rotate_left
  · subst hR
    have e : ({ X with e := upd X.e t { (X.e t) with lost := [] }, ar := ([] : List Bytes).foldl (fun g b => upd g (numB b) (X.e t).epoch) X.ar, la := ([] : List Bytes).foldl (fun g b => upd g t (numB b)) X.la, ls := lsAll (X.e t).lost X.ls } : PS) = X := by
      rw [lostE_eq hlo, upd_id, hlo]
      rfl
    refine ⟨⟨G, ?_, fun hl => ?_⟩, (fun b hb => by cases hb), (fun b hb => ?_), ?_, rfl, by simp⟩
    · show J ({ X with e := upd X.e t { (X.e t) with lost := [] }, ar := ([] : List Bytes).foldl (fun g b => upd g (numB b) (X.e t).epoch) X.ar, la := ([] : List Bytes).foldl (fun g b => upd g t (numB b)) X.la, ls := lsAll (X.e t).lost X.ls } : PS) G
      rw [e]; exact h
    · show LC ({ X with e := upd X.e t { (X.e t) with lost := [] }, ar := ([] : List Bytes).foldl (fun g b => upd g (numB b) (X.e t).epoch) X.ar, la := ([] : List Bytes).foldl (fun g b => upd g t (numB b)) X.la, ls := lsAll (X.e t).lost X.ls } : PS) G
      rw [e]; exact hl
    · simp only at hb
      rw [hlo] at hb; cases hb
    · show ((X.e t).lost.map numB).Nodup
      rw [hlo]; exact List.nodup_nil
  rename_i hta
  obtain ⟨tk1, tk2, tk3⟩ := hta
  obtain ⟨Gm, hm, hlcm⟩ := h.meet ht tk3 tk1.1.1 hx.2.2.1 hN
  obtain ⟨m1, m2, m3⟩ := meet_epoch (X.e t) f.fr
  -- what is lost
  have hlost : (∀ b ∈ (meetS (X.e t) f.fr).lost, 1 ≤ numB b ∧ numB b < X.N ∧ X.sd (numB b) = t ∧ X.ls (numB b) = false ∧ b = txt (numB b)) ∧ ((meetS (X.e t) f.fr).lost.map numB).Nodup := by
    rcases meet_lost (X.e t) f.fr hlo with e | e
    · rw [e]; exact ⟨(fun b hb => by cases hb), List.nodup_nil⟩
    · rw [e]
      refine ⟨fun b hb => ?_, h.queue_nodup ht hN⟩
      obtain ⟨q, hq, rfl⟩ := List.mem_map.1 hb
      have := h.inqueue ht hN hq
      exact ⟨this.1, this.2.1, this.2.2.1, this.2.2.2.1, this.2.2.2.2⟩
  -- the flags
  have fl : ∀ (T : EndS), SameE T { meetS (X.e t) f.fr with lost := [] } → (T.heard = true → 0 < f.fr) → J { meetP X t f.fr with e := upd X.e t T } Gm := by
    intro T hT hh
    have hpe := m3
    refine hm.flags (fun s => ?_) (fun s hs h1 => ?_)
    · show SameE (upd X.e t T s) (upd X.e t _ s)
      by_cases c : s = t
      · subst c; rw [upd_same, upd_same]; exact hT
      · rw [upd_ne _ _ c, upd_ne _ _ c]; exact ⟨rfl, rfl, rfl, rfl, rfl, rfl⟩
    · show (upd X.e t _ s).peer > 0
      by_cases c : s = t
      · subst c
        rw [upd_same] at h1 ⊢
        show (meetS (X.e s) f.fr).peer > 0
        rw [m3]
        exact hh h1
      · rw [upd_ne _ _ c] at h1 ⊢
        exact h.he s hs h1
  have lcf : LC X G → ∀ (T : EndS) (ar : Nat → Int) (la : Nat → Nat), T.epoch = (meetS (X.e t) f.fr).epoch → T.peer = (meetS (X.e t) f.fr).peer → LC { X with e := upd X.e t T, ar := ar, la := la, ls := lsAll (meetS (X.e t) f.fr).lost X.ls } Gm := by
    intro hl T ar la h1 h2 s hs n hn
    have hn' : n ∈ Gm s (upd X.e t T s).epoch (upd X.e t T s).peer := hn
    refine hlcm hl s hs n ?_
    show n ∈ Gm s (upd X.e t { meetS (X.e t) f.fr with lost := [] } s).epoch (upd X.e t { meetS (X.e t) f.fr with lost := [] } s).peer
    by_cases c : s = t
    · subst c
      rw [upd_same] at hn' ⊢
      rw [h1, h2] at hn'
      exact hn'
    · rw [upd_ne _ _ c] at hn' ⊢
      exact hn'
  have hfr : 0 < f.fr := by have := tk1.1.1; omega
  split at hR
  · -- to whom it may concern
    subst hR
    refine ⟨⟨Gm, ?_, fun hl => lcf hl _ _ _ rfl rfl⟩, (fun b hb => by cases hb), hlost.1, hlost.2, m1, by simp⟩
    exact fl { recS0 (X.e t) f with lost := [] } ⟨rfl, rfl, rfl, rfl, rfl, rfl⟩ (fun _ => hfr)
  rename_i hto
  have hto2 : f.to = (X.e t).epoch := by
    rcases tk2 with h0 | h0
    · exact absurd h0 hto
    · exact h0
  have hj0 := fl { recS0 (X.e t) f with lost := [], heard := true } ⟨rfl, rfl, rfl, rfl, rfl, rfl⟩ (fun _ => hfr)
  have hxm := hj0.fl (t, f) hf
  have htop : f.to > 0 := by have := h.ep t ht; omega
  have hj1 := hj0.ack ht (k := f.ack) (fun j hj => by
    obtain ⟨n, y1, y2⟩ := hxm.2.2.2.2 htop j hj
    refine ⟨n, ?_, y2⟩
    show (Gm t (upd X.e t _ t).epoch (upd X.e t _ t).peer)[j]? = some n
    rw [upd_same]
    show (Gm t (meetS (X.e t) f.fr).epoch (meetS (X.e t) f.fr).peer)[j]? = some n
    rw [m1, m3, ← hto2]
    exact y1) hN
  have hj2 : J { X with e := upd X.e t { recS1 (X.e t) f with lost := [] }, ls := lsAll (meetS (X.e t) f.fr).lost X.ls } Gm := by
    have e : upd (upd X.e t { recS0 (X.e t) f with lost := [], heard := true }) t (ackS { recS0 (X.e t) f with lost := [], heard := true } f.ack) = upd X.e t { recS1 (X.e t) f with lost := [] } := by
      funext s
      by_cases c : s = t
      · subst c; rw [upd_same, upd_same]; rfl
      · rw [upd_ne _ _ c, upd_ne _ _ c, upd_ne _ _ c]
    have hj1' : J { X with e := upd (upd X.e t { recS0 (X.e t) f with lost := [], heard := true }) t (ackS (upd X.e t { recS0 (X.e t) f with lost := [], heard := true } t) f.ack), ls := lsAll (meetS (X.e t) f.fr).lost X.ls } Gm := hj1
    rw [upd_same, e] at hj1'
    exact hj1'
  split at hR
  · subst hR
    exact ⟨⟨Gm, hj2, fun hl => lcf hl _ _ _ rfl rfl⟩, (fun b hb => by cases hb), hlost.1, hlost.2, m1, by simp⟩
  · rename_i hsq
    have hs0 : f.seq ≠ 0 := fun h0 => hsq (.inl h0)
    have hs1 : f.seq = (recS1 (X.e t) f).received + 1 := by
      apply Classical.byContradiction
      intro h0
      exact hsq (.inr h0)
    have hsp : f.seq > 0 := by have := tk1.2.2.1.1; omega
    obtain ⟨k, n, y1, y2, y3, y4⟩ := hxm.2.2.2.1 hsp
    simp only at y1 y2 y3 y4
    rw [hto2] at y1
    have hpr := hj2.deliver (n := n) (v := (X.e t).epoch) (k := k) ht (by have := h.ep t ht; omega) (by
      show (upd X.e t _ t).received = _
      rw [upd_same]
      show (recS1 (X.e t) f).received = _
      omega) (by
      show (Gm (1 - t) (upd X.e t _ t).peer (upd X.e t _ t).epoch)[k]? = some n
      rw [upd_same]
      show (Gm (1 - t) (meetS (X.e t) f.fr).peer (meetS (X.e t) f.fr).epoch)[k]? = some n
      rw [m1, m3]
      exact y1)
    have hmem := hj2.gm (1 - t) f1 _ _ n (List.mem_of_getElem? y1)
    have hmN : n < X.N := hmem.2.1
    have hra := hj2.ra t ht k n (by
      show (Gm (1 - t) (upd X.e t _ t).peer (upd X.e t _ t).epoch)[k]? = some n
      rw [upd_same]
      show (Gm (1 - t) (meetS (X.e t) f.fr).peer (meetS (X.e t) f.fr).epoch)[k]? = some n
      rw [m1, m3]
      exact y1)
    have hra2 := hra.2 (by
      show (upd X.e t _ t).received ≤ _
      rw [upd_same]
      show (recS1 (X.e t) f).received ≤ _
      omega)
    have hnb : numB f.body = n := by rw [y3, numB_txt n (by omega)]
    subst hR
    refine ⟨⟨Gm, ?_, fun hl => lcf hl _ _ _ rfl rfl⟩, fun b hb => ?_, hlost.1, hlost.2, m1, by simp⟩
    · have e : upd (upd X.e t { recS1 (X.e t) f with lost := [] }) t { (upd X.e t { recS1 (X.e t) f with lost := [] } t) with received := (k : Int) + 1 } = upd X.e t { recS1 (X.e t) f with received := f.seq, lost := [] } := by
        funext s
        by_cases c : s = t
        · subst c; rw [upd_same, upd_same, upd_same, y2]
        · rw [upd_ne _ _ c, upd_ne _ _ c, upd_ne _ _ c]
      have hpr' : J { X with e := upd (upd X.e t { recS1 (X.e t) f with lost := [] }) t { (upd X.e t { recS1 (X.e t) f with lost := [] } t) with received := (k : Int) + 1 }, ar := upd X.ar n (X.e t).epoch, la := upd X.la t n, ls := lsAll (meetS (X.e t) f.fr).lost X.ls } Gm := hpr
      rw [e, ← hnb] at hpr'
      exact hpr'
    · rw [List.mem_singleton] at hb
      subst hb
      rw [hnb]
      refine ⟨hmem.1, hmN, hra2.1, ?_, hra2.2, by rw [← hto2]; exact y4, y3⟩
      have e1 : X.sd n = 1 - t := hmem.2.2.1
      rw [e1]
      exact f3
theorem nodup_length {α : Type} [BEq α] [LawfulBEq α] : ∀ (xs ys : List α), xs.Nodup → (∀ x ∈ xs, x ∈ ys) → xs.length ≤ ys.length
  | [], ys, _, _ => by simp
  | x :: xs, ys, hn, hs => by
    rw [List.nodup_cons] at hn
    have h1 := nodup_length xs (ys.erase x) hn.2 fun y hy => by
      have hne : y ≠ x := fun e => hn.1 (e ▸ hy)
      exact (List.mem_erase_of_ne hne).2 (hs y (List.mem_cons_of_mem _ hy))
    have hx := hs x (by simp)
    rw [List.length_erase_of_mem hx] at h1
    have := List.length_pos_of_mem hx
    simp only [List.length_cons]
    omega
/-- at most as many are open as wait -/
theorem J.open_le {X : PS} {G : Logs} (h : J X G) {s : Nat} (hs : s < 2) (hN : X.N < 300) (xs : List Nat) (hn : xs.Nodup) (hx : ∀ n ∈ xs, 1 ≤ n ∧ n < X.N ∧ X.sd n = s ∧ X.fm n = (X.e s).epoch ∧ X.ar n = 0 ∧ X.ls n = false) : xs.length ≤ (X.e s).queue.length := by
  have hsub : ∀ n ∈ xs, n ∈ (X.e s).queue.map fun q => numB q.body := fun n hn => by
    obtain ⟨h1, h2, h3, h4, h5, h6⟩ := hx n hn
    obtain ⟨q, g1, g2⟩ := h.op n h1 h2 (by rw [h3]; exact h4) h5 h6
    rw [h3] at g1
    exact List.mem_map.2 ⟨q, g1, by rw [g2, numB_txt n (by omega)]⟩
  have := nodup_length xs _ hn hsub
  rw [List.length_map] at this
  exact this
end Go.Proofs.Ytfidjdlmmcaplaa
/-
  Link, plain: what holds of the line beside: clocks, which end knows which, messages that are not sent yet.
-/
namespace Go.Proofs.Ytfidjdlmmcaplaa
open Go

theorem other {s t : Nat} (hs : s < 2) (ht : t < 2) (h : t ≠ s) : t = 1 - s := by omega
theorem tick_q (S : EndS) : (tickS S).1.queue = if S.peer > 0 then (S.queue.take 8).map (sentQ (S.ticks + 1) S.heard) ++ S.queue.drop 8 else S.queue := by
  have e : (tickS S).1.queue = (tick1 S).1.queue := by
    unfold tickS
    split <;> rfl
  rw [e]
  unfold tick1
  split <;> rfl
theorem tick_clock (S : EndS) : (tickS S).1.ticks = S.ticks + 1 ∧ (tickS S).1.hello = if S.heard = false ∧ dueS (S.ticks + 1) S.hello = true then S.ticks + 1 else S.hello := by
  have e : (tick1 S).1.ticks = S.ticks + 1 ∧ (tick1 S).1.hello = S.hello := by
    unfold tick1
    split <;> exact ⟨rfl, rfl⟩
  unfold tickS
  split
  · exact ⟨e.1, rfl⟩
  · exact e
theorem tick_drop (S : EndS) : (tickS S).1.queue.drop 8 = S.queue.drop 8 := by
  rw [tick_q]
  split
  · rcases Nat.lt_or_ge S.queue.length 8 with h | h
    · rw [List.drop_of_length_le (l := S.queue) (by omega), List.append_nil, List.drop_of_length_le (by simp; omega)]
    · rw [List.drop_left' (by simp; omega)]
  · rfl
/-- what an arriving frame leaves of an end -/
theorem recv_rest (S : EndS) (f : FrS) : (receiveS S f).1.epoch = S.epoch ∧ (receiveS S f).1.ticks = S.ticks ∧ (receiveS S f).1.hello = S.hello ∧ (receiveS S f).1.queue.Sublist S.queue := by
  have m : ∀ p, (meetS S p).epoch = S.epoch ∧ (meetS S p).ticks = S.ticks ∧ (meetS S p).hello = S.hello ∧ (meetS S p).queue.Sublist S.queue := by
    intro p
    unfold meetS
    split
    · exact ⟨rfl, rfl, rfl, List.Sublist.refl _⟩
    · split
      · exact ⟨rfl, rfl, rfl, List.nil_sublist _⟩
      · exact ⟨rfl, rfl, rfl, List.Sublist.refl _⟩
  obtain ⟨m1, m2, m3, m4⟩ := m f.fr
  have q1 : (recS1 S f).queue.Sublist S.queue := (List.filter_sublist).trans m4
  unfold receiveS
  split
  · split
    · exact ⟨m1, m2, m3, m4⟩
    · split
      · exact ⟨m1, m2, m3, q1⟩
      · exact ⟨m1, m2, m3, q1⟩
  · exact ⟨rfl, rfl, rfl, List.Sublist.refl _⟩
/-- whom it knows then -/
theorem recv_peer (S : EndS) (f : FrS) : (takes S f ∧ (receiveS S f).1.peer = f.fr ∧ ((receiveS S f).1.heard = true → (S.heard = true ∧ f.fr = S.peer) ∨ f.to = S.epoch)) ∨ (¬ takes S f ∧ receiveS S f = (S, [])) := by
  by_cases h : takes S f
  · left
    refine ⟨h, ?_⟩
    have m3 : (meetS S f.fr).peer = f.fr := (meet_epoch S f.fr).2.2
    have mh : (meetS S f.fr).heard = true → S.heard = true ∧ f.fr = S.peer := by
      unfold meetS
      split
      · rename_i e
        exact fun h => ⟨h, e⟩
      · split <;> exact fun h => by cases h
    unfold receiveS
    rw [if_pos h]
    split
    · exact ⟨m3, fun hh => .inl (mh hh)⟩
    · rename_i ht
      have : f.to = S.epoch := h.2.1.resolve_left ht
      split
      · exact ⟨m3, fun _ => .inr this⟩
      · exact ⟨m3, fun _ => .inr this⟩
  · right
    refine ⟨h, ?_⟩
    unfold receiveS
    rw [if_neg h]
/-- was it told by a former epoch of the other end, to its own epoch? -/
def Old (X : PS) (s : Nat) : Prop := (∃ x, x ∈ X.fl ∧ x.1 = s ∧ x.2.to = (X.e s).epoch ∧ x.2.fr < (X.e (1 - s)).epoch) ∨ ((X.e s).heard = true ∧ (X.e s).peer < (X.e (1 - s)).epoch)
structure K (X : PS) (G : Logs) : Prop where
  hl : ∀ s, s < 2 → 0 ≤ (X.e s).hello ∧ (X.e s).hello ≤ (X.e s).ticks
  at_ : ∀ s, s < 2 → ∀ q ∈ (X.e s).queue, 0 ≤ q.at_ ∧ q.at_ ≤ (X.e s).ticks
  kw : ∀ s, s < 2 → ∀ q ∈ (X.e s).queue.drop 8, q.at_ = 0
  kr : ∀ s, s < 2 → ∀ q ∈ (X.e s).queue, q.at_ = 0 → X.to (numB q.body) = 0
  ka : ∀ n, 1 ≤ n → n < X.N → X.ar n ≠ 0 → X.to n ≠ 0
  lc : LC X G
  f2 : ∀ x ∈ X.fl, x.2.to ≤ (X.e x.1).epoch ∧ (x.2.fr = (X.e (1 - x.1)).epoch → x.2.to ≤ (X.e (1 - x.1)).peer)
  k3 : ∀ s, s < 2 → (X.e s).heard = true → (X.e s).peer = (X.e (1 - s)).epoch → (X.e (1 - s)).peer = (X.e s).epoch
  kx : ¬ (Old X 0 ∧ Old X 1)
theorem K.less {X : PS} {G : Logs} (h : K X G) {fl' : List (Nat × FrS)} (hs : ∀ x ∈ fl', x ∈ X.fl) : K { X with fl := fl' } G := by
  have o : ∀ s, Old { X with fl := fl' } s → Old X s := fun s hs' => by
    rcases hs' with ⟨x, h1, h2⟩ | h2
    · exact .inl ⟨x, hs x h1, h2⟩
    · exact .inr h2
  exact ⟨h.hl, h.at_, h.kw, h.kr, h.ka, h.lc, fun x hx => h.f2 x (hs x hx), h.k3, fun hh => h.kx ⟨o 0 hh.1, o 1 hh.2⟩⟩
theorem K.send {X : PS} {G : Logs} (h : K X G) (j : J X G) {s : Nat} (hs : s < 2) (hN : X.N + 1 < 300) : K (sendP X s) (sendG X G s) := by
  have eE : ∀ t, ((sendP X s).e t).epoch = (X.e t).epoch ∧ ((sendP X s).e t).peer = (X.e t).peer ∧ ((sendP X s).e t).heard = (X.e t).heard ∧ ((sendP X s).e t).ticks = (X.e t).ticks ∧ ((sendP X s).e t).hello = (X.e t).hello := by
    intro t
    show (upd X.e s (sendS (X.e s) (txt X.N)) t).epoch = _ ∧ (upd X.e s (sendS (X.e s) (txt X.N)) t).peer = _ ∧ (upd X.e s (sendS (X.e s) (txt X.N)) t).heard = _ ∧ (upd X.e s (sendS (X.e s) (txt X.N)) t).ticks = _ ∧ (upd X.e s (sendS (X.e s) (txt X.N)) t).hello = _
    by_cases e : t = s
    · subst e; rw [upd_same]; exact ⟨rfl, rfl, rfl, rfl, rfl⟩
    · rw [upd_ne _ _ e]; exact ⟨rfl, rfl, rfl, rfl, rfl⟩
  have a := fun t => (eE t).1
  have b := fun t => (eE t).2.1
  have c := fun t => (eE t).2.2.1
  have qN : ∀ t, t ≠ s → ((sendP X s).e t).queue = (X.e t).queue := fun t ht => by
    show (upd X.e s _ t).queue = _
    rw [upd_ne _ _ ht]
  have qS : ((sendP X s).e s).queue = (X.e s).queue ++ [⟨(X.e s).next, txt X.N, 0⟩] := by
    show (upd X.e s (sendS (X.e s) (txt X.N)) s).queue = _
    rw [upd_same]; rfl
  have inN : ∀ t, t < 2 → ∀ q ∈ (X.e t).queue, numB q.body ≠ X.N := fun t ht q hq e => by
    have := (j.inqueue ht (by omega) hq).2.1
    omega
  have old : ∀ u, Old (sendP X s) u → Old X u := fun u hu => by
    rcases hu with ⟨x, h1, h2, h3, h4⟩ | ⟨h2, h3⟩
    · exact .inl ⟨x, h1, h2, by rw [← a]; exact h3, by rw [← a]; exact h4⟩
    · exact .inr ⟨by rw [← c]; exact h2, by rw [← a, ← b]; exact h3⟩
  refine ⟨fun t ht => by rw [(eE t).2.2.2.1, (eE t).2.2.2.2]; exact h.hl t ht, fun t ht q hq => ?_, fun t ht q hq => ?_, fun t ht q hq h0 => ?_, fun n h1 h2 h3 => ?_, fun t ht n hn => ?_, fun x hx => by rw [a, a, b]; exact h.f2 x hx, fun t ht h1 h2 => ?_, fun hh => h.kx ⟨old 0 hh.1, old 1 hh.2⟩⟩
  · rw [(eE t).2.2.2.1]
    by_cases e : t = s
    · subst e
      rw [qS] at hq
      rcases List.mem_append.1 hq with hq | hq
      · exact h.at_ t ht q hq
      · rw [List.mem_singleton] at hq
        subst hq
        have := h.hl t ht
        simp only
        omega
    · rw [qN t e] at hq; exact h.at_ t ht q hq
  · by_cases e : t = s
    · subst e
      rw [qS, List.drop_append] at hq
      rcases List.mem_append.1 hq with hq | hq
      · exact h.kw t ht q hq
      · have := List.mem_of_mem_drop hq
        rw [List.mem_singleton] at this
        subst this
        rfl
    · rw [qN t e] at hq; exact h.kw t ht q hq
  · show upd X.to X.N 0 (numB q.body) = 0
    by_cases e : t = s
    · subst e
      rw [qS] at hq
      rcases List.mem_append.1 hq with hq | hq
      · rw [upd_ne _ _ (inN t ht q hq)]
        exact h.kr t ht q hq h0
      · rw [List.mem_singleton] at hq
        subst hq
        simp only
        rw [numB_txt X.N (by omega), upd_same]
    · rw [qN t e] at hq
      rw [upd_ne _ _ (inN t ht q hq)]
      exact h.kr t ht q hq h0
  · have h2' : n < X.N + 1 := h2
    have h3' : upd X.ar X.N 0 n ≠ 0 := h3
    show upd X.to X.N 0 n ≠ 0
    by_cases e : n = X.N
    · subst e
      rw [upd_same] at h3'
      exact absurd rfl h3'
    · rw [upd_ne _ _ e] at h3' ⊢
      exact h.ka n h1 (by omega) h3'
  · show upd X.ls X.N false n = false
    by_cases e : n = X.N
    · subst e; rw [upd_same]
    · rw [upd_ne _ _ e]
      have hn' : n ∈ sendG X G s t ((sendP X s).e t).epoch ((sendP X s).e t).peer := hn
      rw [a, b] at hn'
      unfold sendG at hn'
      refine h.lc t ht n ?_
      unfold cur
      split at hn'
      · rcases List.mem_append.1 hn' with h1 | h1
        · exact h1
        · exact absurd (List.mem_singleton.1 h1) e
      · exact hn'
  · rw [c] at h1
    rw [b, a] at h2
    rw [b, a]
    exact h.k3 t ht h1 h2
/-- entries of the queue with the same body are the same -/
theorem J.same {X : PS} {G : Logs} (j : J X G) {s : Nat} (hs : s < 2) (hN : X.N < 300) {q r : QE} (hq : q ∈ (X.e s).queue) (hr : r ∈ (X.e s).queue) (h : numB q.body = numB r.body) : q.seq = r.seq := by
  obtain ⟨k, n, a1, a2, a3, _⟩ := j.qu s hs q hq
  obtain ⟨k', n', b1, b2, b3, _⟩ := j.qu s hs r hr
  have h1 := (j.gm s hs _ _ n (List.mem_of_getElem? a1)).2.1
  have h2 := (j.gm s hs _ _ n' (List.mem_of_getElem? b1)).2.1
  rw [a3, b3, numB_txt n (by omega), numB_txt n' (by omega)] at h
  subst h
  have hg := j.gs s hs (X.e s).epoch (X.e s).peer
  rw [List.pairwise_iff_getElem] at hg
  obtain ⟨l1, g1⟩ := List.getElem?_eq_some_iff.1 a1
  obtain ⟨l2, g2⟩ := List.getElem?_eq_some_iff.1 b1
  have e1 : (G s (X.e s).epoch (X.e s).peer)[k] = n := g1
  have e2 : (G s (X.e s).epoch (X.e s).peer)[k'] = n := g2
  rcases Nat.lt_trichotomy k k' with h3 | h3 | h3
  · have := hg k k' l1 l2 h3
    omega
  · subst h3; rw [a2, b2]
  · have := hg k' k l2 l1 h3
    omega
theorem K.tickB {X : PS} {G : Logs} (h : K X G) (j : J X G) {s : Nat} (hs : s < 2) (hw : ∀ t, t < 2 → Wb (X.e t)) (hN : X.N < 300) : K (tickP X s) G := by
  obtain ⟨f1, f2, f3⟩ := flip hs
  obtain ⟨r1, r2, r3, r4, r5, r6⟩ := tick_rest (X.e s)
  obtain ⟨q1, q2, q3⟩ := tick_queue (X.e s)
  obtain ⟨c1, c2⟩ := tick_clock (X.e s)
  have hclk := h.hl s hs
  have eS : (tickP X s).e s = (tickS (X.e s)).1 := upd_same _ _ _
  have eN : ∀ t, t ≠ s → (tickP X s).e t = X.e t := fun t ht => upd_ne _ _ ht
  have eA : ∀ t, ((tickP X s).e t).epoch = (X.e t).epoch ∧ ((tickP X s).e t).peer = (X.e t).peer ∧ ((tickP X s).e t).heard = (X.e t).heard := fun t => by
    by_cases c : t = s
    · subst c; rw [eS]; exact ⟨r1, r2, r3⟩
    · rw [eN t c]; exact ⟨rfl, rfl, rfl⟩
  have a := fun t => (eA t).1
  have b := fun t => (eA t).2.1
  have c := fun t => (eA t).2.2
  have fr := fun f hf => j.framesB hs hw (f := f) hf
  have tc := toAll_cases (p := (X.e s).peer) (tickS (X.e s)).2 X.to (fun f hf hq => ((fr f hf).2.2.1 hq).1)
  have hto : ∀ m, (tickP X s).to m = toAll (tickS (X.e s)).2 X.to m := fun _ => rfl
  have old : ∀ u, u < 2 → Old (tickP X s) u → Old X u := fun u hu hh => by
    rcases hh with ⟨x, h1, h2, h3, h4⟩ | ⟨h2, h3⟩
    · rw [a] at h3 h4
      rcases List.mem_append.1 h1 with h1 | h1
      · exact .inl ⟨x, h1, h2, h3, h4⟩
      · obtain ⟨f, hf, rfl⟩ := List.mem_map.1 h1
        have h5 := (fr f hf).2.1
        simp only at h2 h3 h4
        subst h2
        rw [f2] at h4
        omega
    · exact .inr ⟨by rw [← c]; exact h2, by rw [← a, ← b]; exact h3⟩
  refine ⟨fun t ht => ?_, fun t ht q hq => ?_, fun t ht q hq => ?_, fun t ht q hq h0 => ?_, fun n h1 h2 h3 => ?_, fun t ht n hn => ?_, fun x hx => ?_, fun t ht h1 h2 => ?_, fun hh => h.kx ⟨old 0 (by omega) hh.1, old 1 (by omega) hh.2⟩⟩
  · by_cases e : t = s
    · subst e
      rw [eS, c1, c2]
      split <;> omega
    · rw [eN t e]; exact h.hl t ht
  · by_cases e : t = s
    · subst e
      rw [eS] at hq ⊢
      rw [c1]
      obtain ⟨q0, g1, g2, g3, g4⟩ := q3 q hq
      have := h.at_ t ht q0 g1
      rcases g4 with e | ⟨e, _⟩ <;> omega
    · rw [eN t e] at hq ⊢; exact h.at_ t ht q hq
  · by_cases e : t = s
    · subst e
      rw [eS, tick_drop] at hq
      exact h.kw t ht q hq
    · rw [eN t e] at hq; exact h.kw t ht q hq
  · -- what is not sent yet was not sent now
    rw [hto]
    by_cases e : t = s
    · subst e
      rw [eS, tick_q] at hq
      have key : q ∈ (X.e t).queue ∧ ∀ f ∈ (tickS (X.e t)).2, f.seq > 0 → numB f.body ≠ numB q.body := by
        have src : ∀ f ∈ (tickS (X.e t)).2, f.seq > 0 → (X.e t).peer > 0 ∧ ∃ r ∈ (X.e t).queue.take 8, f = frameS (X.e t) r ∧ (X.e t).heard = true := by
          intro f hf hq
          rcases tick_frames hf with rfl | ⟨hp, rfl | _⟩
          · simp at hq
          · simp at hq
          · refine ⟨hp, ?_⟩
            have h1 : f ∈ (tick1 (X.e t)).2 := by
              unfold tickS at hf
              split at hf
              · rcases List.mem_append.1 hf with hf | hf
                · exact hf
                · rw [List.mem_singleton] at hf
                  subst hf
                  simp at hq
              · exact hf
            unfold tick1 at h1
            rw [if_pos hp] at h1
            simp only at h1
            unfold outO at h1
            split at h1
            · rw [List.mem_singleton] at h1
              subst h1
              simp at hq
            · unfold outS at h1
              obtain ⟨r, hr, rfl⟩ := List.mem_map.1 h1
              have h2 := List.mem_filter.1 hr
              have h3 := h2.2
              rw [Bool.and_eq_true] at h3
              exact ⟨r, h2.1, rfl, h3.1⟩
        split at hq
        · rename_i hp
          rcases List.mem_append.1 hq with hq | hq
          · obtain ⟨r, hr, rfl⟩ := List.mem_map.1 hq
            by_cases hh : (X.e t).heard = true
            · exfalso
              have hat : (sentQ ((X.e t).ticks + 1) (X.e t).heard r).at_ = 0 := h0
              unfold sentQ at hat
              rw [hh, Bool.true_and] at hat
              split at hat
              · simp only at hat
                omega
              · rename_i hd
                rw [hat] at hd
                exact hd rfl
            · have er : sentQ ((X.e t).ticks + 1) (X.e t).heard r = r := by
                unfold sentQ
                rw [Bool.not_eq_true] at hh
                rw [hh]
                rfl
              rw [er]
              refine ⟨List.mem_of_mem_take hr, fun f hf hq => ?_⟩
              exact absurd (src f hf hq).2.choose_spec.2.2 hh
          · refine ⟨List.mem_of_mem_drop hq, fun f hf hq' e => ?_⟩
            obtain ⟨_, r, hr, rfl, _⟩ := src f hf hq'
            have hs := j.same ht hN (List.mem_of_mem_take hr) (List.mem_of_mem_drop hq) e
            have hpw := j.qd t ht
            rw [← List.take_append_drop 8 (X.e t).queue, List.pairwise_append] at hpw
            have := hpw.2.2 r hr q hq
            omega
        · rename_i hp
          exact ⟨hq, fun f hf hq' => absurd (src f hf hq').1 hp⟩
      rcases (tc (numB q.body)).1 with h1 | ⟨_, f, g1, g2, g3⟩
      · rw [h1]; exact h.kr t ht q key.1 h0
      · exact absurd g3 (key.2 f g1 g2)
    · rw [eN t e] at hq
      rcases (tc (numB q.body)).1 with h1 | ⟨_, f, g1, g2, g3⟩
      · rw [h1]; exact h.kr t ht q hq h0
      · obtain ⟨_, _, k, m, a1, a2, a3, _⟩ := (fr f g1).2.2.1 g2
        have hm := j.gm s hs _ _ m (List.mem_of_getElem? a1)
        have hq2 := j.inqueue ht hN hq
        rw [a3, numB_txt m (by omega)] at g3
        rw [← g3, hm.2.2.1] at hq2
        exact absurd hq2.2.2.1.symm e
  · rw [hto]
    have h2' : n < X.N := h2
    rcases (tc n).1 with h4 | ⟨h4, f, g1, g2, _⟩
    · rw [h4]; exact h.ka n h1 h2' h3
    · have := ((fr f g1).2.2.1 g2).2.1
      omega
  · have hn' : n ∈ G t ((tickP X s).e t).epoch ((tickP X s).e t).peer := hn
    rw [a, b] at hn'
    exact h.lc t ht n hn'
  · rw [a, a, b]
    rcases List.mem_append.1 hx with hx | hx
    · exact h.f2 x hx
    · obtain ⟨f, hf, rfl⟩ := List.mem_map.1 hx
      simp only
      rw [f2]
      have hp := j.pe s hs
      have hE := j.ep (1 - s) f1
      rcases tick_frames hf with rfl | ⟨_, rfl | ⟨q, hq, rfl⟩⟩
      · simp only; omega
      · simp only; omega
      · show (X.e s).peer ≤ _ ∧ (_ → (X.e s).peer ≤ _)
        omega
  · rw [c] at h1
    rw [b, a] at h2
    rw [b, a]
    exact h.k3 t ht h1 h2
theorem K.tick {X : PS} {G : Logs} (h : K X G) (j : J X G) {s n : Nat} (hs : s < 2) (hw : ∀ t, t < 2 → Wf n (X.e t)) (hn : n ≤ 2000) (hN : X.N < 300) : K (tickP X s) G := h.tickB j hs (fun t ht => (hw t ht).wb hn) hN
theorem K.new {X : PS} {G : Logs} (h : K X G) (j : J X G) {s : Nat} (hs : s < 2) {e : Int} (he : (X.e s).epoch < e) : K { X with e := upd X.e s (newS e) } G := by
  obtain ⟨f1, f2, f3⟩ := flip hs
  obtain ⟨E, hE⟩ : ∃ E, E = upd X.e s (newS e) := ⟨_, rfl⟩
  rw [← hE]
  have eS : E s = newS e := by rw [hE, upd_same]
  have eN : ∀ t, t ≠ s → E t = X.e t := fun t ht => by rw [hE, upd_ne _ _ ht]
  have e1 : E (1 - s) = X.e (1 - s) := eN _ f3
  have hp1 := (j.pe (1 - s) f1).2
  rw [f2] at hp1
  have notS : ¬ Old { X with e := E } s := by
    rintro (⟨x, h1, h2, h3, _⟩ | ⟨h2, _⟩)
    · have h3' : x.2.to = (E s).epoch := h3
      have := (h.f2 x h1).1
      rw [h2] at this
      rw [eS] at h3'
      have h4 : x.2.to = e := h3'
      omega
    · have h2' : (E s).heard = true := h2
      rw [eS] at h2'
      cases h2'
  refine ⟨fun t ht => ?_, fun t ht q hq => ?_, fun t ht q hq => ?_, fun t ht q hq h0 => ?_, h.ka, fun t ht n hn => ?_, fun x hx => ?_, fun t ht h1 h2 => ?_, fun hh => ?_⟩
  · show 0 ≤ (E t).hello ∧ (E t).hello ≤ (E t).ticks
    by_cases c : t = s
    · subst c; rw [eS]; exact ⟨Int.le_refl _, Int.le_refl _⟩
    · rw [eN t c]; exact h.hl t ht
  · have hq' : q ∈ (E t).queue := hq
    show 0 ≤ q.at_ ∧ q.at_ ≤ (E t).ticks
    by_cases c : t = s
    · subst c; rw [eS] at hq'; cases hq'
    · rw [eN t c] at hq' ⊢; exact h.at_ t ht q hq'
  · have hq' : q ∈ (E t).queue.drop 8 := hq
    by_cases c : t = s
    · subst c; rw [eS] at hq'; cases hq'
    · rw [eN t c] at hq'; exact h.kw t ht q hq'
  · have hq' : q ∈ (E t).queue := hq
    by_cases c : t = s
    · subst c; rw [eS] at hq'; cases hq'
    · rw [eN t c] at hq'; exact h.kr t ht q hq' h0
  · have hn' : n ∈ G t (E t).epoch (E t).peer := hn
    by_cases c : t = s
    · subst c
      rw [eS] at hn'
      have hn2 : n ∈ G t e 0 := hn'
      rw [j.gp t ht e 0 he] at hn2
      cases hn2
    · rw [eN t c] at hn'; exact h.lc t ht n hn'
  · have h0 := h.f2 x hx
    have h1 := j.fl x hx
    show x.2.to ≤ (E x.1).epoch ∧ (x.2.fr = (E (1 - x.1)).epoch → x.2.to ≤ (E (1 - x.1)).peer)
    by_cases c : x.1 = s
    · rw [c] at h0 ⊢
      rw [eS, e1]
      refine ⟨?_, h0.2⟩
      show x.2.to ≤ e
      omega
    · have cx : x.1 = 1 - s := other hs h1.1 c
      rw [eN _ c]
      refine ⟨h0.1, fun hf => ?_⟩
      rw [cx, f2, eS] at hf
      have hf2 : x.2.fr = e := hf
      have := h1.2.2.1
      rw [cx, f2] at this
      omega
  · have h1' : (E t).heard = true := h1
    have h2' : (E t).peer = (E (1 - t)).epoch := h2
    show (E (1 - t)).peer = (E t).epoch
    by_cases c : t = s
    · subst c; rw [eS] at h1'; cases h1'
    · have ct : t = 1 - s := other hs ht c
      subst ct
      rw [f2, eS, e1] at h2'
      have h3 : (X.e (1 - s)).peer = e := h2'
      omega
  · rcases (show s = 0 ∨ s = 1 by omega) with rfl | rfl
    · exact notS hh.1
    · exact notS hh.2
theorem K.recv {X : PS} {G G' : Logs} (h : K X G) (j : J X G) {t : Nat} {f : FrS} (hf : (t, f) ∈ X.fl) (hN : X.N < 300) (hlc : LC (recvP X t f) G') : K (recvP X t f) G' := by
  have hx := j.fl _ hf
  have ht : t < 2 := hx.1
  obtain ⟨f1, f2, f3⟩ := flip ht
  have hd := (j.recv hf hN).2.1
  obtain ⟨c1, c2, c3, c4⟩ := recv_rest (X.e t) f
  have hp := recv_peer (X.e t) f
  have hfl := j.fl _ hf
  have hf2 := h.f2 _ hf
  obtain ⟨R, hR⟩ : ∃ R : EndS, R = { (receiveS (X.e t) f).1 with lost := [] } := ⟨_, rfl⟩
  obtain ⟨E, hE⟩ : ∃ E, E = upd X.e t R := ⟨_, rfl⟩
  have eX : (recvP X t f).e = E := by rw [hE, hR]; rfl
  have eT : E t = R := by rw [hE, upd_same]
  have eN : ∀ s, s ≠ t → E s = X.e s := fun s hs => by rw [hE, upd_ne _ _ hs]
  have e1 : E (1 - t) = X.e (1 - t) := eN _ f3
  have Rep : R.epoch = (X.e t).epoch := by rw [hR]; exact c1
  have a : ∀ s, (E s).epoch = (X.e s).epoch := fun s => by
    by_cases c : s = t
    · subst c; rw [eT]; exact Rep
    · rw [eN s c]
  have qs : ∀ s, (E s).queue.Sublist (X.e s).queue := fun s => by
    by_cases c : s = t
    · subst c; rw [eT, hR]; exact c4
    · rw [eN s c]; exact List.Sublist.refl _
  have tk : ∀ s, (E s).ticks = (X.e s).ticks ∧ (E s).hello = (X.e s).hello := fun s => by
    by_cases c : s = t
    · subst c; rw [eT, hR]; exact ⟨c2, c3⟩
    · rw [eN s c]; exact ⟨rfl, rfl⟩
  -- whom it knows
  have pk : (R.peer = f.fr ∧ (X.e t).peer ≤ f.fr ∧ (R.heard = true → ((X.e t).heard = true ∧ f.fr = (X.e t).peer) ∨ f.to = (X.e t).epoch)) ∨ (R.peer = (X.e t).peer ∧ R.heard = (X.e t).heard) := by
    rcases hp with ⟨g1, g2, g3⟩ | ⟨_, g2⟩
    · left
      rw [hR]
      exact ⟨g2, g1.2.2, g3⟩
    · right
      rw [hR, g2]
      exact ⟨rfl, rfl⟩
  have up : (X.e t).peer ≤ R.peer := by
    rcases pk with ⟨g1, g2, _⟩ | ⟨g1, _⟩ <;> omega
  have le : R.peer ≤ (X.e (1 - t)).epoch := by
    rcases pk with ⟨g1, _, _⟩ | ⟨g1, _⟩
    · rw [g1]; exact hfl.2.2.1
    · rw [g1]; exact (j.pe t ht).2
  have oldT : Old (recvP X t f) t → Old X t := by
    rintro (⟨x, h1, h2, h3, h4⟩ | ⟨h2, h3⟩)
    · rw [eX] at h3 h4
      rw [a] at h3 h4
      exact .inl ⟨x, h1, h2, h3, h4⟩
    · rw [eX] at h2 h3
      rw [eT] at h2 h3
      rw [a] at h3
      rcases pk with ⟨g1, g2, g3⟩ | ⟨g1, g2⟩
      · rw [g1] at h3
        rcases g3 h2 with ⟨g4, g5⟩ | g4
        · exact .inr ⟨g4, by rw [← g5]; exact h3⟩
        · exact .inl ⟨(t, f), hf, rfl, g4, h3⟩
      · exact .inr ⟨by rw [← g2]; exact h2, by rw [← g1]; exact h3⟩
  have oldO : Old (recvP X t f) (1 - t) → Old X (1 - t) := by
    rintro (⟨x, h1, h2, h3, h4⟩ | ⟨h2, h3⟩)
    · rw [eX] at h3 h4
      rw [a] at h3 h4
      exact .inl ⟨x, h1, h2, h3, h4⟩
    · rw [eX] at h2 h3
      rw [e1] at h2 h3
      rw [a] at h3
      exact .inr ⟨h2, h3⟩
  refine ⟨fun s hs => ?_, fun s hs q hq => ?_, fun s hs q hq => ?_, fun s hs q hq h0 => ?_, fun n h1 h2 h3 => ?_, hlc, fun x hx => ?_, fun s hs h1 h2 => ?_, fun hh => ?_⟩
  · rw [eX, (tk s).1, (tk s).2]; exact h.hl s hs
  · rw [eX] at hq ⊢
    rw [(tk s).1]
    exact h.at_ s hs q ((qs s).subset hq)
  · rw [eX] at hq
    exact h.kw s hs q (((qs s).drop 8).subset hq)
  · rw [eX] at hq
    exact h.kr s hs q ((qs s).subset hq) h0
  · have h3' : (receiveS (X.e t) f).2.foldl (fun g b => upd g (numB b) (X.e t).epoch) X.ar n ≠ 0 := h3
    show X.to n ≠ 0
    have hl := (j.recv hf hN).2.2.2.2.2
    obtain ⟨xs, hxs⟩ : ∃ xs, xs = (receiveS (X.e t) f).2 := ⟨_, rfl⟩
    rw [← hxs] at h3' hl hd
    match xs, hl with
    | [], _ => exact h.ka n h1 h2 h3'
    | [b], _ =>
      have h4 : upd X.ar (numB b) (X.e t).epoch n ≠ 0 := h3'
      by_cases c : n = numB b
      · have := (hd b (by simp)).2.2.2.2.2.1
        have hep := j.ep t ht
        rw [c, this]
        omega
      · rw [upd_ne _ _ c] at h4
        exact h.ka n h1 h2 h4
  · rw [eX, a, a]
    have h0 := h.f2 x hx
    refine ⟨h0.1, fun hfr => Int.le_trans (h0.2 hfr) ?_⟩
    by_cases c : 1 - x.1 = t
    · rw [c, eT]; exact up
    · rw [eN _ c]; exact Int.le_refl _
  · rw [eX] at h1 h2 ⊢
    rw [a] at h2 ⊢
    by_cases c : s = t
    · subst c
      rw [eT] at h1 h2
      rw [e1]
      rcases pk with ⟨g1, g2, g3⟩ | ⟨g1, g2⟩
      · rw [g1] at h2
        rcases g3 h1 with ⟨g4, g5⟩ | g4
        · exact h.k3 s hs g4 (by rw [← g5]; exact h2)
        · have h5 := hf2.2 h2
          have h6 := (j.pe (1 - s) f1).2
          rw [f2] at h6
          simp only at h5
          omega
      · exact h.k3 s hs (by rw [← g2]; exact h1) (by rw [← g1]; exact h2)
    · have cs : s = 1 - t := other ht hs c
      subst cs
      rw [e1] at h1 h2
      rw [f2, eT]
      have h5 := h.k3 (1 - t) f1 h1 h2
      rw [f2] at h5
      omega
  · rcases (show t = 0 ∨ t = 1 by omega) with rfl | rfl
    · exact h.kx ⟨oldT hh.1, oldO hh.2⟩
    · exact h.kx ⟨oldO hh.1, oldT hh.2⟩
end Go.Proofs.Ytfidjdlmmcaplaa
/-
  Link, plain: a round of the two ends, when all frames arrive.
-/
namespace Go.Proofs.Ytfidjdlmmcaplaa
open Go

def one (S : EndS) (f : FrS) : EndS := { (receiveS S f).1 with lost := [] }
def rA (S : EndS) (fs : List FrS) : EndS := fs.foldl one S
theorem rA_cons (S : EndS) (f : FrS) (fs : List FrS) : rA S (f :: fs) = rA (one S f) fs := rfl
def nxt (E : Nat → EndS) (s : Nat) : EndS := rA (tickS (E s)).1 (tickS (E (1 - s))).2
/-- a frame from the epoch p of the other end, to an end that knows no later one -/
structure Fits (S : EndS) (p : Int) (f : FrS) : Prop where
  ok : okF f
  fr : f.fr = p
  le : S.peer ≤ p
theorem one_ep (S : EndS) (f : FrS) : (one S f).epoch = S.epoch := (recv_rest S f).1
theorem one_tk (S : EndS) (f : FrS) : (one S f).ticks = S.ticks ∧ (one S f).hello = S.hello ∧ (one S f).queue.Sublist S.queue := (recv_rest S f).2
section
variable {S : EndS} {p : Int} {f : FrS} (h : Fits S p f)
include h
theorem Fits.takes_iff : takes S f ↔ (f.to = 0 ∨ f.to = S.epoch) := by
  unfold takes
  have := h.le
  rw [← h.fr] at this
  exact ⟨fun g => g.2.1, fun g => ⟨h.ok, g, this⟩⟩
theorem one_le : (one S f).peer ≤ p := by
  rcases recv_peer S f with ⟨_, g2, _⟩ | ⟨_, g2⟩
  · show (receiveS S f).1.peer ≤ p
    rw [g2, h.fr]; exact Int.le_refl _
  · show (receiveS S f).1.peer ≤ p
    rw [g2]; exact h.le
theorem one_know (g : S.peer = p ∨ f.to = 0 ∨ f.to = S.epoch) : (one S f).peer = p := by
  rcases recv_peer S f with ⟨_, g2, _⟩ | ⟨g1, g2⟩
  · show (receiveS S f).1.peer = p
    rw [g2, h.fr]
  · show (receiveS S f).1.peer = p
    rw [g2]
    rcases g with g | g
    · exact g
    · exact absurd (h.takes_iff.2 g) g1
theorem one_heard (hh : (one S f).heard = true) : S.heard = true ∨ (one S f).peer = p := by
  rcases recv_peer S f with ⟨g1, g2, g3⟩ | ⟨g1, g2⟩
  · exact .inr (by
      show (receiveS S f).1.peer = p
      rw [g2, h.fr])
  · left
    have : (receiveS S f).1.heard = true := hh
    rw [g2] at this
    exact this
theorem one_to (g : f.to = S.epoch) (g0 : f.to ≠ 0) : (one S f).heard = true := by
  show (receiveS S f).1.heard = true
  unfold receiveS
  rw [if_pos (h.takes_iff.2 (.inr g)), if_neg g0]
  split <;> rfl
theorem one_owes : (S.owes = true → (one S f).owes = true) ∧ (f.to = 0 → (one S f).owes = true) ∧ (f.to = S.epoch → f.seq > 0 → (one S f).owes = true) := by
  have mo : (meetS S f.fr).owes = S.owes := by
    unfold meetS
    split
    · rfl
    · split <;> rfl
  have e : takes S f → (one S f).owes = ((meetS S f.fr).owes || (decide (f.to = 0) || decide (f.seq > 0))) := by
    intro ht
    show (receiveS S f).1.owes = _
    unfold receiveS
    rw [if_pos ht]
    split
    · rfl
    · split <;> rfl
  refine ⟨fun hS => ?_, fun h0 => ?_, fun h1 h2 => ?_⟩
  · by_cases ht : takes S f
    · rw [e ht, mo, hS]; rfl
    · have e2 : receiveS S f = (S, []) := by unfold receiveS; rw [if_neg ht]
      show (receiveS S f).1.owes = true
      rw [e2]; exact hS
  · rw [e (h.takes_iff.2 (.inl h0)), h0]
    simp
  · rw [e (h.takes_iff.2 (.inr h1)), decide_eq_true h2]
    simp
/-- a frame of the known peer -/
theorem one_same (hp : S.peer = p) : (one S f).peer = p ∧ (S.heard = true → (one S f).heard = true) ∧ (one S f).next = S.next ∧ S.received ≤ (one S f).received ∧ (S.received < (one S f).received → (one S f).owes = true) ∧
    (f.to = S.epoch → f.to ≠ 0 → f.seq = S.received + 1 → f.seq > 0 → S.received + 1 ≤ (one S f).received) ∧ (f.to = S.epoch → f.to ≠ 0 → ∀ q ∈ (one S f).queue, q.at_ > 0 → f.ack < q.seq) := by
  have hm : meetS S f.fr = S := by
    unfold meetS
    rw [if_pos (by rw [h.fr, hp])]
  by_cases ht : takes S f
  · unfold one receiveS
    rw [if_pos ht]
    split
    · rename_i h0
      unfold recS0
      rw [hm]
      refine ⟨hp, id, rfl, Int.le_refl _, fun h => ?_, fun _ g => absurd h0 g, fun _ g => absurd h0 g⟩
      simp only at h
      omega
    · rename_i h0
      have ack : ∀ q ∈ (recS1 S f).queue, q.at_ > 0 → f.ack < q.seq := by
        intro q hq hat
        unfold recS1 ackS at hq
        have hk := (List.mem_filter.1 hq).2
        unfold keepQ at hk
        rw [Bool.not_eq_true', Bool.and_eq_false_iff] at hk
        rcases hk with hk | hk
        · simp at hk; omega
        · simp at hk; omega
      have e1 : (recS1 S f).received = S.received ∧ (recS1 S f).peer = S.peer ∧ (recS1 S f).next = S.next := by
        unfold recS1 ackS recS0
        rw [hm]
        exact ⟨rfl, rfl, rfl⟩
      split
      · rename_i hs
        refine ⟨e1.2.1.trans hp, fun _ => rfl, e1.2.2, by simp only; omega, fun h => ?_, fun _ _ g1 g2 => ?_, fun _ _ => ack⟩
        · simp only at h
          omega
        · rcases hs with hs | hs
          · omega
          · exact absurd (by rw [e1.1]; exact g1) hs
      · rename_i hs
        have hs1 : f.seq = S.received + 1 := by
          rw [e1.1] at hs
          apply Classical.byContradiction
          intro hc
          exact hs (.inr hc)
        have hs0 : f.seq ≠ 0 := fun h0 => hs (.inl h0)
        have hs2 : f.seq > 0 := by have := h.ok.2.2.1.1; omega
        refine ⟨e1.2.1.trans hp, fun _ => rfl, e1.2.2, by simp only; omega, fun _ => ?_, fun _ _ _ _ => by simp only; omega, fun _ _ => ack⟩
        show ((meetS S f.fr).owes || (decide (f.to = 0) || decide (f.seq > 0))) = true
        rw [decide_eq_true hs2]
        simp
  · have e2 : receiveS S f = (S, []) := by unfold receiveS; rw [if_neg ht]
    unfold one
    rw [e2]
    refine ⟨hp, id, rfl, Int.le_refl _, fun h => ?_, fun g => absurd (h.takes_iff.2 (.inr g)) ht, fun g => absurd (h.takes_iff.2 (.inr g)) ht⟩
    simp only at h
    omega
end
theorem rA_rest : ∀ (fs : List FrS) (S : EndS), (rA S fs).epoch = S.epoch ∧ (rA S fs).ticks = S.ticks ∧ (rA S fs).hello = S.hello ∧ (rA S fs).queue.Sublist S.queue
  | [], S => ⟨rfl, rfl, rfl, List.Sublist.refl _⟩
  | f :: fs, S => by
    rw [rA_cons]
    obtain ⟨a, b, c, d⟩ := rA_rest fs (one S f)
    obtain ⟨b1, c1, d1⟩ := one_tk S f
    exact ⟨a.trans (one_ep S f), b.trans b1, c.trans c1, d.trans d1⟩
theorem fits_next {S : EndS} {p : Int} {f : FrS} {fs : List FrS} (hS : S.peer ≤ p) (hf : ∀ g ∈ f :: fs, okF g ∧ g.fr = p) : Fits S p f ∧ (one S f).peer ≤ p ∧ ∀ g ∈ fs, okF g ∧ g.fr = p := by
  have h1 := hf f (by simp)
  have h : Fits S p f := ⟨h1.1, h1.2, hS⟩
  exact ⟨h, one_le h, fun g hg => hf g (List.mem_cons_of_mem _ hg)⟩
/-- what the frames of the other end's epoch p make of an end -/
theorem rA_know : ∀ (fs : List FrS) (S : EndS) (p : Int), S.peer ≤ p → (∀ g ∈ fs, okF g ∧ g.fr = p) →
    (rA S fs).peer ≤ p ∧ (S.peer = p ∨ (∃ f ∈ fs, f.to = 0 ∨ f.to = S.epoch) → (rA S fs).peer = p) ∧ ((rA S fs).heard = true → S.heard = true ∨ (rA S fs).peer = p) ∧
    (S.owes = true ∨ (∃ f ∈ fs, f.to = 0) ∨ (∃ f ∈ fs, f.to = S.epoch ∧ f.seq > 0) → (rA S fs).owes = true)
  | [], S, p, hS, _ => by
    refine ⟨hS, fun h => ?_, fun h => .inl h, fun h => ?_⟩
    · rcases h with h | ⟨f, hf, _⟩
      · exact h
      · cases hf
    · rcases h with h | ⟨f, hf, _⟩ | ⟨f, hf, _⟩
      · exact h
      · cases hf
      · cases hf
  | f :: fs, S, p, hS, hf => by
    rw [rA_cons]
    obtain ⟨h, h1, h2⟩ := fits_next hS hf
    obtain ⟨a, b, c, d⟩ := rA_know fs (one S f) p h1 h2
    have ep := one_ep S f
    obtain ⟨o1, o2, o3⟩ := one_owes h
    rw [ep] at b d
    refine ⟨a, fun g => b ?_, fun g => ?_, fun g => d ?_⟩
    · rcases g with g | ⟨f', g1, g2⟩
      · exact .inl (one_know h (.inl g))
      · rcases List.mem_cons.1 g1 with rfl | g1
        · exact .inl (one_know h (.inr g2))
        · exact .inr ⟨f', g1, g2⟩
    · rcases c g with g | g
      · rcases one_heard h g with g | g
        · exact .inl g
        · exact .inr (b (.inl g))
      · exact .inr g
    · rcases g with g | ⟨f', g1, g2⟩ | ⟨f', g1, g2, g3⟩
      · exact .inl (o1 g)
      · rcases List.mem_cons.1 g1 with rfl | g1
        · exact .inl (o2 g2)
        · exact .inr (.inl ⟨f', g1, g2⟩)
      · rcases List.mem_cons.1 g1 with rfl | g1
        · exact .inl (o3 g2 g3)
        · exact .inr (.inr ⟨f', g1, g2, g3⟩)
theorem rA_same : ∀ (fs : List FrS) (S : EndS) (p r : Int), S.peer = p → (∀ g ∈ fs, okF g ∧ g.fr = p ∧ (g.to ≠ 0 → g.ack = r)) → S.epoch ≠ 0 →
    (rA S fs).peer = p ∧ (S.heard = true → (rA S fs).heard = true) ∧ (rA S fs).next = S.next ∧ S.received ≤ (rA S fs).received ∧ (S.received < (rA S fs).received → (rA S fs).owes = true) ∧
    ((∃ f ∈ fs, f.to = S.epoch ∧ f.seq = S.received + 1 ∧ f.seq > 0) → S.received + 1 ≤ (rA S fs).received) ∧ ((∃ f ∈ fs, f.to = S.epoch) → ∀ q ∈ (rA S fs).queue, q.at_ > 0 → r < q.seq)
  | [], S, p, r, hS, _, _ => ⟨hS, id, rfl, Int.le_refl _, fun h => absurd h (by show ¬ (S.received < S.received); omega), fun ⟨f, hf, _⟩ => by (cases hf), fun ⟨f, hf, _⟩ => by (cases hf)⟩
  | f :: fs, S, p, r, hS, hf, he => by
    rw [rA_cons]
    obtain ⟨h, h1, h2⟩ := fits_next (S := S) (p := p) (f := f) (fs := fs) (by omega) (fun g hg => ⟨(hf g hg).1, (hf g hg).2.1⟩)
    obtain ⟨a1, a2, a3, a4, a5, a6, a7⟩ := one_same h hS
    have ep := one_ep S f
    obtain ⟨b1, b2, b3, b4, b5, b6, b7⟩ := rA_same fs (one S f) p r a1 (fun g hg => hf g (List.mem_cons_of_mem _ hg)) (by rw [ep]; exact he)
    obtain ⟨_, _, _, sub⟩ := rA_rest fs (one S f)
    have own := (rA_know fs (one S f) p (by omega) (fun g hg => ⟨(hf g (List.mem_cons_of_mem _ hg)).1, (hf g (List.mem_cons_of_mem _ hg)).2.1⟩)).2.2.2
    rw [ep] at b6 b7
    refine ⟨b1, fun g => b2 (a2 g), b3.trans a3, by omega, fun g => ?_, fun ⟨f', g1, g2, g3, g4⟩ => ?_, fun ⟨f', g1, g2⟩ => ?_⟩
    · by_cases c : S.received < (one S f).received
      · exact own (.inl (a5 c))
      · exact b5 (by omega)
    · rcases List.mem_cons.1 g1 with rfl | g1
      · have := a6 g2 (by rw [g2]; exact he) g3 g4
        omega
      · by_cases c : S.received < (one S f).received
        · omega
        · have c2 : (one S f).received = S.received := by omega
          rw [c2] at b6
          exact b6 ⟨f', g1, g2, g3, g4⟩
    · rcases List.mem_cons.1 g1 with rfl | g1
      · intro q hq hat
        have h0 : f'.to ≠ 0 := by rw [g2]; exact he
        rw [← (hf f' (by simp)).2.2 h0]
        exact a7 g2 h0 q (sub.subset hq) hat
      · exact b7 ⟨f', g1, g2⟩
/-- what a tick sends -/
theorem tick_hello {S : EndS} (h1 : S.heard = false) (h2 : dueS (S.ticks + 1) S.hello = true) : ⟨S.epoch, 0, 0, 0, []⟩ ∈ (tickS S).2 := by
  unfold tickS
  rw [if_pos ⟨h1, h2⟩]
  simp
theorem tick_has {S : EndS} {f : FrS} (h : f ∈ (tick1 S).2) : f ∈ (tickS S).2 := by
  unfold tickS
  split
  · exact List.mem_append.2 (.inl h)
  · exact h
theorem tick_owes {S : EndS} (hp : S.peer > 0) (ho : S.owes = true) : ∃ f ∈ (tickS S).2, f.to = S.peer := by
  have : ∃ f ∈ outO S (S.ticks + 1), f.to = S.peer := by
    unfold outO
    split
    · exact ⟨_, List.mem_singleton.2 rfl, rfl⟩
    · rename_i hc
      have hl : (outS S (S.ticks + 1)).length ≠ 0 := fun h0 => hc ⟨h0, ho⟩
      obtain ⟨f, hf⟩ := List.exists_mem_of_length_pos (Nat.pos_of_ne_zero hl)
      refine ⟨f, hf, ?_⟩
      unfold outS at hf
      obtain ⟨q, _, rfl⟩ := List.mem_map.1 hf
      rfl
  obtain ⟨f, hf, h2⟩ := this
  refine ⟨f, tick_has ?_, h2⟩
  unfold tick1
  rw [if_pos hp]
  exact hf
theorem tick_sent {S : EndS} (hp : S.peer > 0) (hh : S.heard = true) {q : QE} (hq : q ∈ S.queue.take 8) (hd : dueS (S.ticks + 1) q.at_ = true) : frameS S q ∈ (tickS S).2 := by
  have h1 : frameS S q ∈ outS S (S.ticks + 1) := List.mem_map.2 ⟨q, List.mem_filter.2 ⟨hq, by rw [hh, hd]; rfl⟩, rfl⟩
  refine tick_has ?_
  unfold tick1
  rw [if_pos hp]
  show _ ∈ outO S (S.ticks + 1)
  unfold outO
  rw [if_neg (fun h0 => by
    have := List.length_pos_of_mem h1
    omega)]
  exact h1
/-- what of the queue has just been sent -/
theorem tick_now {S : EndS} {q' : QE} (h : q' ∈ (tickS S).1.queue) : ∃ q ∈ S.queue, q'.seq = q.seq ∧ (q'.at_ = q.at_ ∨ (q'.at_ = S.ticks + 1 ∧ frameS S q ∈ (tickS S).2 ∧ S.peer > 0)) := by
  rw [tick_q] at h
  split at h
  · rename_i hp
    rcases List.mem_append.1 h with h | h
    · obtain ⟨q, hq, rfl⟩ := List.mem_map.1 h
      refine ⟨q, List.mem_of_mem_take hq, ?_⟩
      unfold sentQ
      split
      · rename_i hc
        rw [Bool.and_eq_true] at hc
        exact ⟨rfl, .inr ⟨rfl, tick_sent hp hc.1 hq hc.2, hp⟩⟩
      · exact ⟨rfl, .inl rfl⟩
    · exact ⟨q', List.mem_of_mem_drop h, rfl, .inl rfl⟩
  · exact ⟨q', h, rfl, .inl rfl⟩
theorem tick_acks {S : EndS} {f : FrS} (hf : f ∈ (tickS S).2) : f.fr = S.epoch ∧ (f.to ≠ 0 → f.to = S.peer ∧ f.ack = S.received) := by
  rcases tick_frames hf with rfl | ⟨_, rfl | ⟨q, _, rfl⟩⟩
  · exact ⟨rfl, fun h => absurd rfl h⟩
  · exact ⟨rfl, fun _ => ⟨rfl, rfl⟩⟩
  · exact ⟨rfl, fun _ => ⟨rfl, rfl⟩⟩
/-- what holds of the two ends when no frame is on the line -/
structure IE (E : Nat → EndS) : Prop where
  ep : ∀ s, s < 2 → 1 ≤ (E s).epoch
  ok : ∀ s, s < 2 → ∀ f ∈ (tickS (E s)).2, okF f
  pe : ∀ s, s < 2 → 0 ≤ (E s).peer ∧ (E s).peer ≤ (E (1 - s)).epoch
  hl : ∀ s, s < 2 → 0 ≤ (E s).hello ∧ (E s).hello ≤ (E s).ticks
  at_ : ∀ s, s < 2 → ∀ q ∈ (E s).queue, 0 ≤ q.at_ ∧ q.at_ ≤ (E s).ticks
  k3 : ∀ s, s < 2 → (E s).heard = true → (E s).peer = (E (1 - s)).epoch → (E (1 - s)).peer = (E s).epoch
  kx : ¬ ((E 0).heard = true ∧ (E 0).peer < (E 1).epoch ∧ (E 1).heard = true ∧ (E 1).peer < (E 0).epoch)
  qd : ∀ s, s < 2 → (E s).queue.Pairwise fun a b => a.seq < b.seq
  qn : ∀ s, s < 2 → ∀ q ∈ (E s).queue, 1 ≤ q.seq ∧ q.seq < (E s).next
  kr : ∀ s, s < 2 → (E s).peer = (E (1 - s)).epoch → (E (1 - s)).peer = (E s).epoch → ∀ q ∈ (E s).queue, q.seq ≤ (E (1 - s)).received → q.at_ ≠ 0
  ku : ∀ s, s < 2 → (E s).peer = (E (1 - s)).epoch → (E (1 - s)).peer = (E s).epoch → ∀ k : Int, (E (1 - s)).received < k → k < (E s).next → ∃ q ∈ (E s).queue, q.seq = k
  re : ∀ s, s < 2 → 0 ≤ (E s).received
theorem J.ie {X : PS} {G : Logs} (j : J X G) (k : K X G) (hw : ∀ t, t < 2 → Wb (X.e t)) (hN : X.N < 300) : IE X.e := by
  refine ⟨j.ep, fun s hs f hf => (j.framesB hs hw hf).1, j.pe, k.hl, k.at_, k.k3, fun hh => k.kx ⟨.inr ⟨hh.1, hh.2.1⟩, .inr ⟨hh.2.2.1, hh.2.2.2⟩⟩, j.qd, fun s hs q hq => ?_, fun s hs h1 h2 q hq h3 h4 => ?_, fun s hs h1 h2 m hm1 hm2 => ?_, fun s hs => (j.re s hs).1⟩
  · obtain ⟨k', n', a1, a2, _⟩ := j.qu s hs q hq
    have := (List.getElem?_eq_some_iff.1 a1).1
    have := j.nx s hs
    omega
  · obtain ⟨f1, f2, f3⟩ := flip hs
    obtain ⟨k', n', a1, a2, a3, _⟩ := j.qu s hs q hq
    have hm := j.gm s hs _ _ n' (List.mem_of_getElem? a1)
    have hra := (j.ra (1 - s) f1 k' n' (by
      rw [f2, h2, ← h1]; exact a1)).1 (by omega)
    have := k.kr s hs q hq h4
    rw [a3, numB_txt n' (by omega)] at this
    exact k.ka n' hm.1 hm.2.1 hra this
  · obtain ⟨f1, f2, f3⟩ := flip hs
    have hnx := j.nx s hs
    have hre := (j.re (1 - s) f1).1
    obtain ⟨i, hi⟩ : ∃ i : Nat, m = (i : Int) + 1 := ⟨(m - 1).toNat, by omega⟩
    have hil : i < (cur X G s).length := by omega
    have a1 : (cur X G s)[i]? = some (cur X G s)[i] := List.getElem?_eq_getElem hil
    obtain ⟨c, hc⟩ : ∃ c, c = (cur X G s)[i] := ⟨_, rfl⟩
    rw [← hc] at a1
    have hm := j.gm s hs _ _ c (List.mem_of_getElem? a1)
    have hra := ((j.ra (1 - s) f1 i c (by
      rw [f2, h2, ← h1]; exact a1)).2 (by omega)).1
    obtain ⟨q, g1, g2⟩ := j.op c hm.1 hm.2.1 (by rw [hm.2.2.1]; exact hm.2.2.2) hra (k.lc s hs c (List.mem_of_getElem? a1))
    rw [hm.2.2.1] at g1
    refine ⟨q, g1, ?_⟩
    obtain ⟨k', n', b1, b2, b3, _⟩ := j.qu s hs q g1
    have hm' := j.gm s hs _ _ n' (List.mem_of_getElem? b1)
    have hcn : c = n' := txt_inj (by omega) (by omega) (by rw [← g2, b3])
    subst hcn
    have hg := j.gs s hs (X.e s).epoch (X.e s).peer
    rw [List.pairwise_iff_getElem] at hg
    obtain ⟨l1, e1⟩ := List.getElem?_eq_some_iff.1 a1
    obtain ⟨l2, e2⟩ := List.getElem?_eq_some_iff.1 b1
    have e1' : (G s (X.e s).epoch (X.e s).peer)[i] = c := e1
    have e2' : (G s (X.e s).epoch (X.e s).peer)[k'] = c := e2
    rcases Nat.lt_trichotomy i k' with h3 | h3 | h3
    · have := hg i k' l1 l2 h3
      omega
    · subst h3; omega
    · have := hg k' i l2 l1 h3
      omega
end Go.Proofs.Ytfidjdlmmcaplaa
/-
  Link, plain: when all frames arrive, the ends soon know each other, and what waits is soon received.
-/
namespace Go.Proofs.Ytfidjdlmmcaplaa
open Go

structure Run (Y : Nat → Nat → EndS) : Prop where
  ie : ∀ r, IE (Y r)
  nx : ∀ r s, s < 2 → Y (r + 1) s = nxt (Y r) s
def Kn (E : Nat → EndS) (s : Nat) : Prop := (E s).peer = (E (1 - s)).epoch
theorem rA_heard : ∀ (fs : List FrS) (S : EndS) (p : Int), S.epoch ≠ 0 → S.peer ≤ p → (∀ g ∈ fs, okF g ∧ g.fr = p) → (∃ f ∈ fs, f.to = S.epoch) → (rA S fs).heard = true
  | [], _, _, _, _, _, ⟨f, hf, _⟩ => by cases hf
  | f :: fs, S, p, he, hS, hf, hx => by
    rw [rA_cons]
    obtain ⟨h, h1, h2⟩ := fits_next hS hf
    have ep := one_ep S f
    by_cases c : f.to = S.epoch
    · have hh := one_to h c (by rw [c]; exact he)
      have hp := one_know h (.inr (.inr c))
      have key : ∀ (gs : List FrS) (T : EndS), T.peer = p → T.heard = true → (∀ g ∈ gs, okF g ∧ g.fr = p) → (rA T gs).heard = true := by
        intro gs
        induction gs with
        | nil => intro T _ hT _; exact hT
        | cons g gs ih =>
          intro T hT hT2 hg
          rw [rA_cons]
          obtain ⟨h', _, h2'⟩ := fits_next (S := T) (p := p) (f := g) (fs := gs) (by omega) hg
          have a := one_same h' hT
          exact ih _ a.1 (a.2.1 hT2) h2'
      exact key fs _ hp hh h2
    · refine rA_heard fs (one S f) p (by rw [ep]; exact he) h1 h2 ?_
      obtain ⟨f', g1, g2⟩ := hx
      rcases List.mem_cons.1 g1 with rfl | g1
      · exact absurd g2 c
      · exact ⟨f', g1, by rw [ep]; exact g2⟩
theorem nxt_rest (E : Nat → EndS) (s : Nat) : (nxt E s).epoch = (E s).epoch ∧ (nxt E s).ticks = (E s).ticks + 1 ∧ ((nxt E s).hello = if (E s).heard = false ∧ dueS ((E s).ticks + 1) (E s).hello = true then (E s).ticks + 1 else (E s).hello) ∧ (nxt E s).queue.Sublist (tickS (E s)).1.queue := by
  obtain ⟨a, b, c, d⟩ := rA_rest (tickS (E (1 - s))).2 (tickS (E s)).1
  obtain ⟨r1, _⟩ := tick_rest (E s)
  obtain ⟨c1, c2⟩ := tick_clock (E s)
  exact ⟨a.trans r1, b.trans c1, c.trans c2, d⟩
theorem nxt_len (E : Nat → EndS) (s : Nat) : (nxt E s).queue.length ≤ (E s).queue.length := by
  have h1 := (nxt_rest E s).2.2.2.length_le
  have h2 := congrArg List.length (tick_queue (E s)).1
  simp only [List.length_map] at h2
  omega
section
variable {E : Nat → EndS} (h : IE E) {s : Nat} (hs : s < 2)
include h hs
theorem IE.fs : ∀ g ∈ (tickS (E (1 - s))).2, okF g ∧ g.fr = (E (1 - s)).epoch := fun g hg => ⟨h.ok (1 - s) (flip hs).1 g hg, (tick_acks hg).1⟩
theorem nxt_know : (Kn E s ∨ (∃ f ∈ (tickS (E (1 - s))).2, f.to = 0 ∨ f.to = (E s).epoch) → (nxt E s).peer = (E (1 - s)).epoch) ∧ ((nxt E s).heard = true → (E s).heard = true ∨ (nxt E s).peer = (E (1 - s)).epoch) ∧
    ((∃ f ∈ (tickS (E (1 - s))).2, f.to = 0) ∨ (∃ f ∈ (tickS (E (1 - s))).2, f.to = (E s).epoch ∧ f.seq > 0) → (nxt E s).owes = true) := by
  obtain ⟨r1, r2, r3, r4, r5, r6⟩ := tick_rest (E s)
  obtain ⟨_, b, c, d⟩ := rA_know (tickS (E (1 - s))).2 (tickS (E s)).1 (E (1 - s)).epoch (by rw [r2]; exact (h.pe s hs).2) (h.fs hs)
  rw [r1, r2] at b
  rw [r3] at c
  rw [r1] at d
  exact ⟨b, c, fun g => d (.inr g)⟩
theorem nxt_heard : (∃ f ∈ (tickS (E (1 - s))).2, f.to = (E s).epoch) → (nxt E s).heard = true := by
  obtain ⟨r1, r2, _⟩ := tick_rest (E s)
  intro g
  refine rA_heard _ _ (E (1 - s)).epoch (by rw [r1]; have := h.ep s hs; omega) (by rw [r2]; exact (h.pe s hs).2) (h.fs hs) ?_
  rw [r1]
  exact g
theorem nxt_same (hk : Kn E s) (hk2 : Kn E (1 - s)) : ((E s).heard = true → (nxt E s).heard = true) ∧ (nxt E s).next = (E s).next ∧ (E s).received ≤ (nxt E s).received ∧ ((E s).received < (nxt E s).received → (nxt E s).owes = true) ∧
    ((∃ f ∈ (tickS (E (1 - s))).2, f.to = (E s).epoch ∧ f.seq = (E s).received + 1 ∧ f.seq > 0) → (E s).received + 1 ≤ (nxt E s).received) ∧ ((∃ f ∈ (tickS (E (1 - s))).2, f.to = (E s).epoch) → ∀ q ∈ (nxt E s).queue, q.at_ > 0 → (E (1 - s)).received < q.seq) := by
  obtain ⟨r1, r2, r3, r4, r5, r6⟩ := tick_rest (E s)
  have hf := h.fs hs
  obtain ⟨_, a, b, c, d, e, f⟩ := rA_same (tickS (E (1 - s))).2 (tickS (E s)).1 (E (1 - s)).epoch (E (1 - s)).received (by rw [r2]; exact hk) (fun g hg => ⟨(hf g hg).1, (hf g hg).2, fun h0 => ((tick_acks hg).2 h0).2⟩) (by rw [r1]; have := h.ep s hs; omega)
  rw [r3] at a
  rw [r6] at b
  rw [r5] at c d e
  rw [r1] at e f
  exact ⟨a, b, c, d, e, f⟩
end
namespace Run
section
variable {Y : Nat → Nat → EndS} (R : Run Y)
include R
theorem ep (r : Nat) : ∀ s, s < 2 → (Y r s).epoch = (Y 0 s).epoch := by
  induction r with
  | zero => exact fun _ _ => rfl
  | succ r ih =>
    intro s hs
    rw [R.nx r s hs, (nxt_rest _ _).1, ih s hs]
theorem kn1 {r s : Nat} (hs : s < 2) : Kn (Y r) s ∨ (∃ f ∈ (tickS (Y r (1 - s))).2, f.to = 0 ∨ f.to = (Y r s).epoch) → Kn (Y (r + 1)) s := by
  intro hk
  unfold Kn
  rw [R.nx r s hs, R.nx r (1 - s) (flip hs).1, (nxt_rest _ _).1]
  exact (nxt_know (R.ie r) hs).1 hk
theorem kn {r s : Nat} (hs : s < 2) (hk : Kn (Y r) s) : ∀ j, Kn (Y (r + j)) s
  | 0 => hk
  | j + 1 => R.kn1 hs (.inl (kn hs hk j))
theorem kn_le {r r' s : Nat} (hs : s < 2) (hk : Kn (Y r) s) (h : r ≤ r') : Kn (Y r') s := by
  have := R.kn hs hk (r' - r)
  rwa [show r + (r' - r) = r' by omega] at this
theorem heard_or {r s : Nat} (hs : s < 2) : ∀ j, (Y (r + j) s).heard = true → (Y r s).heard = true ∨ Kn (Y (r + j)) s
  | 0, h => .inl h
  | j + 1, h => by
    have h1 : (Y (r + j + 1) s).heard = true := h
    rw [R.nx (r + j) s hs] at h1
    rcases (nxt_know (R.ie (r + j)) hs).2.1 h1 with h2 | h2
    · rcases heard_or hs j h2 with h3 | h3
      · exact .inl h3
      · exact .inr (R.kn1 hs (.inl h3))
    · right
      show Kn (Y (r + j + 1)) s
      unfold Kn
      rw [R.nx _ s hs, R.nx _ (1 - s) (flip hs).1, (nxt_rest _ _).1]
      exact h2
/-- who has not heard says hello -/
theorem hello (r : Nat) {s : Nat} (hs : s < 2) : ∃ j, j ≤ 2 ∧ ((Y (r + j) s).heard = true ∨ ∃ f ∈ (tickS (Y (r + j) s)).2, f.to = 0) := by
  have st : ∀ r, (Y r s).heard = true ∨ (∃ f ∈ (tickS (Y r s)).2, f.to = 0) ∨ ((Y (r + 1) s).hello = (Y r s).hello ∧ (Y (r + 1) s).ticks = (Y r s).ticks + 1 ∧ dueS ((Y r s).ticks + 1) (Y r s).hello = false) := by
    intro r
    by_cases c1 : (Y r s).heard = true
    · exact .inl c1
    · rw [Bool.not_eq_true] at c1
      by_cases c2 : dueS ((Y r s).ticks + 1) (Y r s).hello = true
      · exact .inr (.inl ⟨_, tick_hello c1 c2, rfl⟩)
      · have e := nxt_rest (Y r) s
        rw [R.nx r s hs]
        refine .inr (.inr ⟨?_, e.2.1, by simpa using c2⟩)
        rw [e.2.2.1, if_neg (fun g => c2 g.2)]
  rcases st r with h | h | ⟨a1, a2, a3⟩
  · exact ⟨0, by omega, .inl h⟩
  · exact ⟨0, by omega, .inr h⟩
  rcases st (r + 1) with h | h | ⟨b1, b2, b3⟩
  · exact ⟨1, by omega, .inl h⟩
  · exact ⟨1, by omega, .inr h⟩
  rcases st (r + 1 + 1) with h | h | ⟨c1, c2, c3⟩
  · exact ⟨2, by omega, .inl h⟩
  · exact ⟨2, by omega, .inr h⟩
  exfalso
  have hl := (R.ie r).hl s hs
  unfold dueS at c3
  rw [Bool.or_eq_false_iff] at c3
  have h3 := of_decide_eq_false c3.2
  omega
theorem one_knows (r : Nat) : ∃ s, s < 2 ∧ Kn (Y (r + 3)) s := by
  have key : ∀ s, s < 2 → (Y r s).heard = false → ∃ s, s < 2 ∧ Kn (Y (r + 3)) s := by
    intro s hs hh
    obtain ⟨j, hj, h | ⟨f, hf, h0⟩⟩ := R.hello r hs
    · rcases R.heard_or hs j h with h1 | h1
      · rw [h1] at hh; cases hh
      · exact ⟨s, hs, R.kn_le hs h1 (by omega)⟩
    · obtain ⟨f1, f2, f3⟩ := flip hs
      refine ⟨1 - s, f1, R.kn_le (r := r + j + 1) f1 (R.kn1 f1 (.inr ?_)) (by omega)⟩
      rw [f2]
      exact ⟨f, hf, .inl h0⟩
  by_cases k0 : Kn (Y r) 0
  · exact ⟨0, by omega, R.kn_le (by omega) k0 (by omega)⟩
  by_cases k1 : Kn (Y r) 1
  · exact ⟨1, by omega, R.kn_le (by omega) k1 (by omega)⟩
  have p0 := ((R.ie r).pe 0 (by omega)).2
  have p1 := ((R.ie r).pe 1 (by omega)).2
  have kx := (R.ie r).kx
  by_cases c0 : (Y r 0).heard = true
  · by_cases c1 : (Y r 1).heard = true
    · exfalso
      unfold Kn at k0 k1
      have e0 : (Y r 0).peer < (Y r (1 - 0)).epoch := by
        have : (Y r 0).peer ≠ (Y r (1 - 0)).epoch := k0
        have : (Y r 0).peer ≤ (Y r (1 - 0)).epoch := p0
        omega
      have e1 : (Y r 1).peer < (Y r (1 - 1)).epoch := by
        have : (Y r 1).peer ≠ (Y r (1 - 1)).epoch := k1
        have : (Y r 1).peer ≤ (Y r (1 - 1)).epoch := p1
        omega
      exact kx ⟨c0, e0, c1, e1⟩
    · exact key 1 (by omega) (by simpa using c1)
  · exact key 0 (by omega) (by simpa using c0)
theorem both_know (r : Nat) : ∀ s, s < 2 → Kn (Y (r + 6)) s := by
  obtain ⟨s, hs, hk⟩ := R.one_knows r
  obtain ⟨f1, f2, f3⟩ := flip hs
  have other' : Kn (Y (r + 6)) (1 - s) := by
    obtain ⟨j, hj, h | ⟨f, hf, h0⟩⟩ := R.hello (r + 3) hs
    · have k3 := (R.ie (r + 3 + j)).k3 s hs h (R.kn hs hk j)
      refine R.kn_le (r := r + 3 + j) f1 ?_ (by omega)
      unfold Kn
      rw [f2]
      exact k3
    · refine R.kn_le (r := r + 3 + j + 1) f1 (R.kn1 f1 (.inr ?_)) (by omega)
      rw [f2]
      exact ⟨f, hf, .inl h0⟩
  intro t ht
  by_cases c : t = s
  · subst c; exact R.kn_le ht hk (by omega)
  · rw [other hs ht c]; exact other'
theorem heard1 {r s : Nat} (hs : s < 2) (k1 : Kn (Y r) s) (k2 : Kn (Y r) (1 - s)) (hh : (Y r s).heard = true) : (Y (r + 1) s).heard = true := by
  rw [R.nx r s hs]
  exact (nxt_same (R.ie r) hs k1 k2).1 hh
theorem heard_le {r r' s : Nat} (hs : s < 2) (k : ∀ s, s < 2 → Kn (Y r) s) (hh : (Y r s).heard = true) (h : r ≤ r') : (Y r' s).heard = true := by
  have key : ∀ j, (Y (r + j) s).heard = true := by
    intro j
    induction j with
    | zero => exact hh
    | succ j ih => exact R.heard1 (r := r + j) hs (R.kn_le (r' := r + j) hs (k s hs) (Nat.le_add_right _ _)) (R.kn_le (r' := r + j) (flip hs).1 (k _ (flip hs).1) (Nat.le_add_right _ _)) ih
  have := key (r' - r)
  rwa [show r + (r' - r) = r' by omega] at this
/-- both have heard -/
theorem both_heard (r : Nat) {s : Nat} (hs : s < 2) : (Y (r + 10) s).heard = true := by
  have k := R.both_know r
  obtain ⟨f1, f2, f3⟩ := flip hs
  obtain ⟨j, hj, h | ⟨f, hf, h0⟩⟩ := R.hello (r + 6) hs
  · exact R.heard_le (r := r + 6 + j) hs (fun t ht => R.kn_le ht (k t ht) (by omega)) h (by omega)
  · have ow : (Y (r + 6 + j + 1) (1 - s)).owes = true := by
      rw [R.nx _ _ f1]
      refine (nxt_know (R.ie (r + 6 + j)) f1).2.2 (.inl ?_)
      rw [f2]
      exact ⟨f, hf, h0⟩
    have k1 : Kn (Y (r + 6 + j + 1)) (1 - s) := R.kn_le f1 (k _ f1) (by omega)
    have k1' : (Y (r + 6 + j + 1) (1 - s)).peer = (Y (r + 6 + j + 1) s).epoch := by
      have : (Y (r + 6 + j + 1) (1 - s)).peer = (Y (r + 6 + j + 1) (1 - (1 - s))).epoch := k1
      rw [f2] at this
      exact this
    obtain ⟨g, hg, hg2⟩ := tick_owes (by
      have := (R.ie (r + 6 + j + 1)).ep s hs
      omega) ow
    have hh : (Y (r + 6 + j + 1 + 1) s).heard = true := by
      rw [R.nx _ _ hs]
      exact nxt_heard (R.ie _) hs ⟨g, hg, hg2.trans k1'⟩
    exact R.heard_le (r := r + 6 + j + 1 + 1) hs (fun t ht => R.kn_le ht (k t ht) (by omega)) hh (by omega)
theorem len (r : Nat) {s : Nat} (hs : s < 2) : ∀ j, (Y (r + j) s).queue.length ≤ (Y r s).queue.length
  | 0 => Nat.le_refl _
  | j + 1 => by
    have := nxt_len (Y (r + j)) s
    rw [← R.nx _ _ hs] at this
    exact Nat.le_trans this (len r hs j)
theorem empty {r r' s : Nat} (hs : s < 2) (h : (Y r s).queue = []) (hr : r ≤ r') : (Y r' s).queue = [] := by
  have := R.len r hs (r' - r)
  rw [show r + (r' - r) = r' by omega, h] at this
  exact List.length_eq_zero_iff.1 (by simpa using this)
end
end Run
end Go.Proofs.Ytfidjdlmmcaplaa
/-
  Link, plain: what waits is soon received.
-/
namespace Go.Proofs.Ytfidjdlmmcaplaa
open Go

structure Met (E : Nat → EndS) : Prop where
  k : ∀ s, s < 2 → Kn E s
  h : ∀ s, s < 2 → (E s).heard = true
theorem Met.k2 {E : Nat → EndS} (M : Met E) {s : Nat} (hs : s < 2) : (E (1 - s)).peer = (E s).epoch := by
  obtain ⟨f1, f2, f3⟩ := flip hs
  have := M.k (1 - s) f1
  unfold Kn at this
  rw [f2] at this
  exact this
def Fw (Y : Nat → Nat → EndS) (s r : Nat) : Prop := (Y r (1 - s)).owes = true ∨ ∀ q ∈ (Y r s).queue, (Y r (1 - s)).received < q.seq
namespace Run
section
variable {Y : Nat → Nat → EndS} (R : Run Y)
include R
theorem met1 {r : Nat} (M : Met (Y r)) : Met (Y (r + 1)) := ⟨fun s hs => R.kn1 hs (.inl (M.k s hs)), fun s hs => R.heard1 hs (M.k s hs) (M.k _ (flip hs).1) (M.h s hs)⟩
theorem met_le {r : Nat} (M : Met (Y r)) : ∀ j, Met (Y (r + j))
  | 0 => M
  | j + 1 => R.met1 (met_le M j)
theorem rec_le {r s : Nat} (M : Met (Y r)) (hs : s < 2) : ∀ j, (Y r s).received ≤ (Y (r + j) s).received ∧ (Y (r + j) s).next = (Y r s).next
  | 0 => ⟨Int.le_refl _, rfl⟩
  | j + 1 => by
    have h := nxt_same (R.ie (r + j)) hs ((R.met_le M j).k s hs) ((R.met_le M j).k _ (flip hs).1)
    rw [← R.nx (r + j) s hs] at h
    have ih := rec_le M hs j
    exact ⟨Int.le_trans ih.1 h.2.2.1, h.2.1.trans ih.2⟩
theorem d1 {r s : Nat} (M : Met (Y r)) (hs : s < 2) (F : Fw Y s r) : ∀ q ∈ (Y (r + 1) s).queue, (Y r (1 - s)).received < q.seq := by
  intro q hq
  have hq0 := hq
  rw [R.nx r s hs] at hq
  obtain ⟨q0, g1, g2, g3⟩ := tick_now ((nxt_rest _ _).2.2.2.subset hq)
  rcases F with F | F
  · have hpe : (Y r (1 - s)).peer > 0 := by rw [M.k2 hs]; have := (R.ie r).ep s hs; omega
    obtain ⟨f, hf, hf2⟩ := tick_owes hpe F
    have h6 := (nxt_same (R.ie r) hs (M.k s hs) (M.k _ (flip hs).1)).2.2.2.2.2 ⟨f, hf, by rw [hf2, M.k2 hs]⟩ q hq
    by_cases c : q.at_ > 0
    · exact h6 c
    · have h0 := ((R.ie r).at_ s hs q0 g1).1
      have hl := (R.ie r).hl s hs
      have e0 : q0.at_ = 0 := by
        rcases g3 with g3 | g3 <;> omega
      apply Classical.byContradiction
      intro hc
      exact (R.ie r).kr s hs (M.k s hs) (M.k2 hs) q0 g1 (by omega) e0
  · rw [g2]; exact F q0 g1
theorem sentB {r s : Nat} (M : Met (Y r)) (hs : s < 2) {q : QE} (hq : q ∈ (Y (r + 2) s).queue.take 8) : ∃ j, j ≤ 2 ∧ ∃ f ∈ (tickS (Y (r + j) s)).2, f.to = (Y (r + j) (1 - s)).epoch ∧ f.seq = q.seq ∧ f.seq > 0 := by
  have M1 := R.met1 M
  have M2 : Met (Y (r + 2)) := R.met1 M1
  have pos : ∀ r, Met (Y r) → (Y r s).peer > 0 := fun r M => by
    rw [M.k s hs]; have := (R.ie r).ep (1 - s) (flip hs).1; omega
  have fr : ∀ r, Met (Y r) → ∀ q0 ∈ (Y r s).queue, (frameS (Y r s) q0).to = (Y r (1 - s)).epoch ∧ (frameS (Y r s) q0).seq > 0 := fun r M q0 h0 => by
    have h2 := (R.ie r).qn s hs q0 h0
    exact ⟨M.k s hs, by show q0.seq > 0; omega⟩
  have hq2 := List.mem_of_mem_take hq
  by_cases hd : dueS ((Y (r + 2) s).ticks + 1) q.at_ = true
  · have h2 := fr _ M2 q hq2
    exact ⟨2, by omega, _, tick_sent (pos _ M2) (M2.h s hs) hq hd, h2.1, rfl, h2.2⟩
  · have hd' : q.at_ ≠ 0 ∧ (Y (r + 2) s).ticks + 1 - q.at_ < 3 := by
      unfold dueS at hd
      rw [Bool.or_eq_true] at hd
      refine ⟨fun e => hd (.inl (decide_eq_true e)), ?_⟩
      apply Classical.byContradiction
      intro hc
      exact hd (.inr (decide_eq_true (by omega)))
    have t1 : (Y (r + 1) s).ticks = (Y r s).ticks + 1 := by rw [R.nx r s hs]; exact (nxt_rest _ _).2.1
    have t2 : (Y (r + 2) s).ticks = (Y (r + 1) s).ticks + 1 := by rw [R.nx (r + 1) s hs]; exact (nxt_rest _ _).2.1
    have hq3 : q ∈ (nxt (Y (r + 1)) s).queue := by rw [← R.nx (r + 1) s hs]; exact hq2
    obtain ⟨q1, a1, a2, a3⟩ := tick_now ((nxt_rest _ _).2.2.2.subset hq3)
    rcases a3 with a3 | ⟨_, a4, _⟩
    · have a1' := a1
      rw [R.nx r s hs] at a1
      obtain ⟨q0, b1, b2, b3⟩ := tick_now ((nxt_rest _ _).2.2.2.subset a1)
      rcases b3 with b3 | ⟨_, b4, _⟩
      · exfalso
        have := ((R.ie r).at_ s hs q0 b1).2
        omega
      · have h2 := fr _ M q0 b1
        exact ⟨0, by omega, _, b4, h2.1, by show q0.seq = q.seq; omega, h2.2⟩
    · have h2 := fr _ M1 q1 a1
      exact ⟨1, by omega, _, a4, h2.1, by show q1.seq = q.seq; omega, h2.2⟩
/-- a message that is sent makes the other end owe an answer -/
theorem owes1 {r s : Nat} (hs : s < 2) (hf : ∃ f ∈ (tickS (Y r s)).2, f.to = (Y r (1 - s)).epoch ∧ f.seq > 0) : (Y (r + 1) (1 - s)).owes = true := by
  obtain ⟨f1, f2, f3⟩ := flip hs
  rw [R.nx r _ f1]
  refine (nxt_know (R.ie r) f1).2.2 (.inr ?_)
  rw [f2]
  exact hf
theorem d0 {r s : Nat} (M : Met (Y r)) (hs : s < 2) : ∃ j, j ≤ 3 ∧ Fw Y s (r + j) := by
  rcases hl : (Y (r + 2) s).queue with _ | ⟨q, l⟩
  · refine ⟨2, by omega, .inr fun q hq => ?_⟩
    rw [hl] at hq; cases hq
  · obtain ⟨j, hj, f, a1, a2, a3, a4⟩ := R.sentB M hs (q := q) (by rw [hl]; simp)
    exact ⟨j + 1, by omega, .inl (R.owes1 hs ⟨f, a1, a2, a4⟩)⟩
theorem d2 {r s : Nat} (M : Met (Y r)) (hs : s < 2) (F : Fw Y s r) (hU : (Y r (1 - s)).received + 1 < (Y r s).next) : ∃ j, j ≤ 3 ∧ Fw Y s (r + j) ∧ (Y r (1 - s)).received + 1 ≤ (Y (r + j) (1 - s)).received := by
  obtain ⟨f1, f2, f3⟩ := flip hs
  have M1 := R.met1 M
  have M2 : Met (Y (r + 2)) := R.met1 M1
  have up : ∀ r, Met (Y r) → (Y r (1 - s)).received ≤ (Y (r + 1) (1 - s)).received ∧ ((Y r (1 - s)).received < (Y (r + 1) (1 - s)).received → (Y (r + 1) (1 - s)).owes = true) ∧ ((∃ f ∈ (tickS (Y r s)).2, f.to = (Y r (1 - s)).epoch ∧ f.seq = (Y r (1 - s)).received + 1 ∧ f.seq > 0) → (Y r (1 - s)).received + 1 ≤ (Y (r + 1) (1 - s)).received) := fun r M => by
    have h := nxt_same (R.ie r) f1 (M.k _ f1) (by rw [f2]; exact M.k s hs)
    rw [← R.nx r _ f1, f2] at h
    exact ⟨h.2.2.1, h.2.2.2.1, h.2.2.2.2.1⟩
  have u0 := up r M
  have u1 := up (r + 1) M1
  have u2 := up (r + 2) M2
  by_cases c1 : (Y r (1 - s)).received < (Y (r + 1) (1 - s)).received
  · exact ⟨1, by omega, .inl (u0.2.1 c1), by omega⟩
  by_cases c2 : (Y (r + 1) (1 - s)).received < (Y (r + 1 + 1) (1 - s)).received
  · exact ⟨2, by omega, .inl (u1.2.1 c2), by have : (Y (r + 2) (1 - s)).received = (Y (r + 1 + 1) (1 - s)).received := rfl; omega⟩
  have e1 : (Y (r + 1) (1 - s)).received = (Y r (1 - s)).received := by omega
  have e2 : (Y (r + 2) (1 - s)).received = (Y r (1 - s)).received := by
    have : (Y (r + 2) (1 - s)).received = (Y (r + 1 + 1) (1 - s)).received := rfl
    omega
  -- the next message is the queue's first
  obtain ⟨q, hq, hk⟩ := (R.ie (r + 2)).ku s hs (M2.k s hs) (M2.k2 hs) ((Y r (1 - s)).received + 1) (by omega) (by rw [(R.rec_le M hs 2).2]; exact hU)
  have low : ∀ q' ∈ (Y (r + 2) s).queue, (Y r (1 - s)).received < q'.seq := by
    intro q' hq'
    have h3 : q' ∈ (nxt (Y (r + 1)) s).queue := by rw [← R.nx (r + 1) s hs]; exact hq'
    obtain ⟨q0, g1, g2, _⟩ := tick_now ((nxt_rest _ _).2.2.2.subset h3)
    rw [g2]
    exact R.d1 M hs F q0 g1
  have head : q ∈ (Y (r + 2) s).queue.take 8 := by
    have pd := (R.ie (r + 2)).qd s hs
    rcases hl : (Y (r + 2) s).queue with _ | ⟨q', l⟩
    · rw [hl] at hq; cases hq
    · rw [hl] at hq pd low
      rcases List.mem_cons.1 hq with rfl | hq
      · simp
      · have h1 := (List.pairwise_cons.1 pd).1 q hq
        have h2 := low q' (by simp)
        omega
  obtain ⟨j, hj, f, a1, a2, a3, a4⟩ := R.sentB M hs head
  have er : (Y (r + j) (1 - s)).received = (Y r (1 - s)).received := by
    rcases (show j = 0 ∨ j = 1 ∨ j = 2 by omega) with rfl | rfl | rfl
    · rfl
    · exact e1
    · exact e2
  have u := up (r + j) (R.met_le M j)
  have hr := u.2.2 ⟨f, a1, a2, by rw [a3, hk, er], a4⟩
  exact ⟨j + 1, by omega, .inl (u.2.1 (by omega)), by
    have : (Y (r + (j + 1)) (1 - s)).received = (Y (r + j + 1) (1 - s)).received := rfl
    omega⟩
theorem d3 {r s : Nat} (M : Met (Y r)) (hs : s < 2) (F : Fw Y s r) (hU : (Y r s).next ≤ (Y r (1 - s)).received + 1) : (Y (r + 1) s).queue = [] := by
  rcases hl : (Y (r + 1) s).queue with _ | ⟨q, l⟩
  · rfl
  · exfalso
    have h1 := R.d1 M hs F q (by rw [hl]; simp)
    have h2 := ((R.ie (r + 1)).qn s hs q (by rw [hl]; simp)).2
    have h3 := (R.rec_le M hs 1).2
    omega
/-- what was not received waits -/
theorem count {r s : Nat} (M : Met (Y r)) (hs : s < 2) : ((Y r s).next - 1 - (Y r (1 - s)).received ≤ (Y r s).queue.length) ∧ (¬ Fw Y s r → (Y r s).next - 1 - (Y r (1 - s)).received + 1 ≤ (Y r s).queue.length) := by
  obtain ⟨u, hu⟩ : ∃ u : Nat, u = ((Y r s).next - 1 - (Y r (1 - s)).received).toNat := ⟨_, rfl⟩
  obtain ⟨c, hc⟩ : ∃ c, c = (Y r (1 - s)).received := ⟨_, rfl⟩
  obtain ⟨xs, hxs⟩ : ∃ xs : List Int, xs = (List.range u).map (fun i : Nat => c + 1 + (i : Int)) := ⟨_, rfl⟩
  have nd : xs.Nodup := by
    rw [hxs]
    unfold List.Nodup
    rw [List.pairwise_map]
    exact List.pairwise_lt_range.imp fun {a b} h e => by omega
  have len : xs.length = u := by rw [hxs]; simp
  have sub : ∀ x ∈ xs, x ∈ (Y r s).queue.map (·.seq) := by
    intro x hx
    rw [hxs] at hx
    obtain ⟨i, hi, rfl⟩ := List.mem_map.1 hx
    have hi' := List.mem_range.1 hi
    obtain ⟨q, g1, g2⟩ := (R.ie r).ku s hs (M.k s hs) (M.k2 hs) (c + 1 + (i : Int)) (by omega) (by omega)
    exact List.mem_map.2 ⟨q, g1, g2⟩
  constructor
  · have := nodup_length xs _ nd sub
    rw [List.length_map, len] at this
    omega
  · intro hF
    have : ∃ q ∈ (Y r s).queue, q.seq ≤ c := by
      apply Classical.byContradiction
      intro hn
      refine hF (.inr fun q hq => ?_)
      rw [← hc]
      apply Classical.byContradiction
      intro hh
      exact hn ⟨q, hq, by omega⟩
    obtain ⟨q, g1, g2⟩ := this
    have nd2 : (q.seq :: xs).Nodup := by
      rw [List.nodup_cons]
      refine ⟨fun hx => ?_, nd⟩
      rw [hxs] at hx
      obtain ⟨i, _, e⟩ := List.mem_map.1 hx
      omega
    have sub2 : ∀ x ∈ q.seq :: xs, x ∈ (Y r s).queue.map (·.seq) := by
      intro x hx
      rcases List.mem_cons.1 hx with rfl | hx
      · exact List.mem_map.2 ⟨q, g1, rfl⟩
      · exact sub x hx
    have := nodup_length (q.seq :: xs) _ nd2 sub2
    rw [List.length_map, List.length_cons, len] at this
    omega
theorem drain {s : Nat} (hs : s < 2) : ∀ (u : Nat) {r : Nat}, Met (Y r) → Fw Y s r → (Y r s).next - 1 - (Y r (1 - s)).received ≤ u → ∃ r', r ≤ r' ∧ r' ≤ r + 3 * u ∧ (Y (r' + 1) s).queue = []
  | 0, r, M, F, hu => ⟨r, Nat.le_refl _, by omega, R.d3 M hs F (by omega)⟩
  | u + 1, r, M, F, hu => by
    by_cases c : (Y r s).next ≤ (Y r (1 - s)).received + 1
    · exact ⟨r, Nat.le_refl _, by omega, R.d3 M hs F c⟩
    · obtain ⟨j, hj, F', h1⟩ := R.d2 M hs F (by omega)
      have h2 := (R.rec_le M hs j).2
      obtain ⟨r', a1, a2, a3⟩ := drain hs u (R.met_le M j) F' (by omega)
      exact ⟨r', by omega, by omega, a3⟩
theorem met10 : Met (Y 10) := ⟨fun s hs => R.kn_le (r := 6) hs (by have := R.both_know 0 s hs; exact this) (by omega), fun s hs => by have := R.both_heard 0 hs; exact this⟩
/-- after 11 + 3 W rounds nothing waits -/
theorem done {W : Nat} {s : Nat} (hs : s < 2) (hW : (Y 0 s).queue.length ≤ W) : (Y (11 + 3 * W) s).queue = [] ∧ Kn (Y (11 + 3 * W)) s := by
  have M := R.met10
  have hl : (Y 10 s).queue.length ≤ W := Nat.le_trans (by have := R.len 0 hs 10; exact this) hW
  have hc := R.count M hs
  refine ⟨?_, R.kn_le hs (M.k s hs) (by omega)⟩
  by_cases F : Fw Y s 10
  · obtain ⟨r', a1, a2, a3⟩ := R.drain hs W M F (by omega)
    exact R.empty hs a3 (by omega)
  · have hc2 := hc.2 F
    obtain ⟨W', rfl⟩ : ∃ W', W = W' + 1 := by
      have h1 : (Y 10 s).queue.length ≠ 0 := by
        intro h0
        exact F (.inr fun q hq => by rw [List.length_eq_zero_iff.1 h0] at hq; cases hq)
      exact ⟨W - 1, by omega⟩
    obtain ⟨j, hj, F'⟩ := R.d0 M hs
    have hn := (R.rec_le M hs j).2
    have hr := (R.rec_le M (flip hs).1 j).1
    obtain ⟨r', a1, a2, a3⟩ := R.drain hs W' (R.met_le M j) F' (by omega)
    exact R.empty hs a3 (by omega)
end
end Run
end Go.Proofs.Ytfidjdlmmcaplaa
/-
  Link: the line in an arena.
-/
namespace Go.Proofs.Ytfidjdlmmcaplaa
open Go

def lnRow (i : Nat → Nat) (w : Nat → AV) (la : Nat → Nat) : Ent := .row 11 false [.agg [.ptr (i 0) 0 0, .ptr (i 1) 0 0, w 0, w 1, w 2, w 3, w 4, w 5, .int .i64 (la 0 : Int), .int .i64 (la 1 : Int), .bool true]]
def eszL (k : Nat) : Nat := if k = 0 then 6 else 1
/-- the line's row, its ends, its six lists; rows that nobody else touches -/
structure Ln0 (A : Arena) (x : Nat) (e : Nat → EndS) (c : Nat → List AV) (la : Nat → Nat) (P : List Nat) (i : Nat → Nat) (q l : Nat → AV) (w : Nat → AV) (T : Nat → Nat) : Prop where
  a : ∀ s, s < 2 → EndAt A (i s) (e s) (q s) (l s)
  ta : ∀ s, s < 2 → ∀ j, j ∈ own (i s) (q s) (l s) → T j = s + 1
  r : A[x]? = some (lnRow i w la)
  tx : T x = 3
  hw : ∀ k, k < 6 → SlP (eszL k) A (w k) (c k)
  tw : ∀ k, k < 6 → ∀ j, j ∈ idsOf (w k) → T j = k + 4
  p : ∀ j, j ∈ P → T j = 0 ∧ j < A.length
def Ln (A : Arena) (x : Nat) (e : Nat → EndS) (c : Nat → List AV) (la : Nat → Nat) (P : List Nat) (i : Nat → Nat) (q l : Nat → AV) (w : Nat → AV) : Prop := ∃ T, Ln0 A x e c la P i q l w T
theorem evStore_of {A : Arena} {id i o esz size : Nat} {es : List AV} {e e' a : AV} (hr : A[id]? = some (.row esz false es)) (he : es[i]? = some e) (h1 : a.solid = true) (h2 : (cellsOf a).length = size) (h3 : 0 < size) (hs : storeElem e esz o a = some e') : evStore size A (.ptr id i o) a = some (A.set id (.row esz false (es.set i e'))) := by
  unfold evStore
  simp only [hr, he]
  rw [if_pos ⟨trivial, h1, h2, h3⟩, hs]
theorem tags (A : Arena) (T : Nat → Nat) (t : Nat) (o out : List Nat) (ho : ∀ j, j ∈ o → T j = t ∨ A.length ≤ j) (hout : ∀ j, j ∈ out → (T j = t ∨ A.length ≤ j) ∧ j ∉ o) :
    ∃ T' : Nat → Nat, (∀ j, j < A.length → T j ≠ t → T' j = T j) ∧ (∀ j, j ∈ o → T' j = t) ∧ ∀ j, j ∈ out → T' j = 0 := by
  refine ⟨fun j => if j ∈ out then 0 else if j ∈ o then t else T j, fun j hj hn => ?_, fun j hj => ?_, fun j hj => if_pos hj⟩
  · simp only
    rw [if_neg (fun h => by
      rcases (hout j h).1 with h1 | h1
      · exact hn h1
      · omega), if_neg (fun h => by
      rcases ho j h with h1 | h1
      · exact hn h1
      · omega)]
  · simp only
    rw [if_neg (fun h => (hout j h).2 hj), if_pos hj]
section
variable {A : Arena} {x : Nat} {e : Nat → EndS} {c : Nat → List AV} {la : Nat → Nat} {P : List Nat} {i : Nat → Nat} {q l : Nat → AV} {w : Nat → AV}
theorem Ln0.xlt {T} (h : Ln0 A x e c la P i q l w T) : x < A.length := (List.getElem?_eq_some_iff.1 h.r).1
theorem Ln.xlt (h : Ln A x e c la P i q l w) : x < A.length := by
  obtain ⟨T, h⟩ := h
  exact h.xlt
theorem Ln.row (h : Ln A x e c la P i q l w) : A[x]? = some (.row 11 false [.agg [.ptr (i 0) 0 0, .ptr (i 1) 0 0, w 0, w 1, w 2, w 3, w 4, w 5, .int .i64 (la 0 : Int), .int .i64 (la 1 : Int), .bool true]]) := by
  obtain ⟨T, h⟩ := h
  exact h.r
theorem Ln.plow (h : Ln A x e c la P i q l w) : ∀ j, j ∈ P → j < A.length := by
  obtain ⟨T, h⟩ := h
  exact fun j hj => (h.p j hj).2
theorem Ln.end_ (h : Ln A x e c la P i q l w) {s : Nat} (hs : s < 2) : EndAt A (i s) (e s) (q s) (l s) := by
  obtain ⟨T, h⟩ := h
  exact h.a s hs
theorem Ln.slot (h : Ln A x e c la P i q l w) {k : Nat} (hk : k < 6) : SlP (eszL k) A (w k) (c k) := by
  obtain ⟨T, h⟩ := h
  exact h.hw k hk
theorem Ln.pnot (h : Ln A x e c la P i q l w) : x ∉ P := by
  obtain ⟨T, h⟩ := h
  intro hx
  have := (h.p x hx).1
  rw [h.tx] at this
  cases this
/-- the address of an end's pointer -/
theorem Ln.idx (h : Ln A x e c la P i q l w) {s : Nat} (hs : s < 2) : evIndexArr 2 1 A (.ptr x 0 0) (.int .i64 (s : Int)) = some (.ptr x 0 s) ∧ evLoad false 1 A (.ptr x 0 s) = some (.ptr (i s) 0 0) := by
  have hr := h.row
  rcases (show s = 0 ∨ s = 1 by omega) with rfl | rfl
  · constructor
    · simp [evIndexArr, hr]
    · simp only [evLoad, hr]; rfl
  · constructor
    · simp [evIndexArr, hr]
    · simp only [evLoad, hr]; rfl
theorem Ln.lidx (h : Ln A x e c la P i q l w) {s : Nat} (hs : s < 2) : evIndexArr 2 1 A (.ptr x 0 8) (.int .i64 (s : Int)) = some (.ptr x 0 (8 + s)) ∧ evLoad false 1 A (.ptr x 0 (8 + s)) = some (.int .i64 (la s : Int)) := by
  have hr := h.row
  rcases (show s = 0 ∨ s = 1 by omega) with rfl | rfl
  · constructor
    · simp [evIndexArr, hr]
    · simp only [evLoad, hr]; rfl
  · constructor
    · simp [evIndexArr, hr]
    · simp only [evLoad, hr]; rfl
/-- an end takes a step -/
theorem Ln.step (h : Ln A x e c la P i q l w) {s : Nat} (hs : s < 2) {B : Arena} {S' : EndS} {qv lv : AV} {out : List Nat} (hE : EndAt B (i s) S' qv lv) (ho : ∀ j, j ∈ own (i s) qv lv → j ∈ own (i s) (q s) (l s) ∨ A.length ≤ j) (hF : Fr A B (own (i s) (q s) (l s))) (hout : ∀ j, j ∈ out → (j ∈ own (i s) (q s) (l s) ∨ A.length ≤ j) ∧ j < B.length ∧ j ∉ own (i s) qv lv) :
    Ln B x (upd e s S') c la (out ++ P) i (upd q s qv) (upd l s lv) w ∧ (∀ j, j ∈ P → B[j]? = A[j]?) := by
  obtain ⟨T, h⟩ := h
  obtain ⟨T', t1, t2, t3⟩ := tags A T (s + 1) (own (i s) qv lv) out (fun j hj => (ho j hj).imp (h.ta s hs j) id) (fun j hj => ⟨(hout j hj).1.imp (h.ta s hs j) id, (hout j hj).2.2⟩)
  have same : ∀ j, j < A.length → T j ≠ s + 1 → B[j]? = A[j]? := fun j hj hn => hF.2 j hj fun h2 => hn (h.ta s hs j h2)
  have hxl := h.xlt
  refine ⟨⟨T', fun t ht => ?_, fun t ht j hj => ?_, ?_, ?_, fun k hk => (h.hw k hk).keep fun j hj => same j ((h.hw k hk).low j hj) (by rw [h.tw k hk j hj]; omega), fun k hk j hj => by rw [t1 j ((h.hw k hk).low j hj) (by rw [h.tw k hk j hj]; omega)]; exact h.tw k hk j hj, fun j hj => ?_⟩, fun j hj => same j (h.p j hj).2 (by rw [(h.p j hj).1]; omega)⟩
  · by_cases d : t = s
    · subst d; rw [upd_same, upd_same, upd_same]; exact hE
    · rw [upd_ne _ _ d, upd_ne _ _ d, upd_ne _ _ d]
      exact (h.a t ht).keep fun j hj => same j ((h.a t ht).low j hj) (by rw [h.ta t ht j hj]; omega)
  · by_cases d : t = s
    · subst d
      rw [upd_same, upd_same] at hj
      exact t2 j hj
    · rw [upd_ne _ _ d, upd_ne _ _ d] at hj
      rw [t1 j ((h.a t ht).low j hj) (by rw [h.ta t ht j hj]; omega)]
      exact h.ta t ht j hj
  · rw [same x hxl (by rw [h.tx]; omega)]; exact h.r
  · rw [t1 x hxl (by rw [h.tx]; omega)]; exact h.tx
  · rcases List.mem_append.1 hj with hj | hj
    · exact ⟨t3 j hj, (hout j hj).2.1⟩
    · have := h.p j hj
      exact ⟨by rw [t1 j this.2 (by rw [this.1]; omega)]; exact this.1, Nat.lt_of_lt_of_le this.2 hF.1⟩
/-- a list is replaced -/
theorem Ln.fresh (h : Ln A x e c la P i q l w) {k : Nat} (hk : k < 6) {B : Arena} {v : AV} {ys : List AV} (hS : SlP (eszL k) B v ys) (hn : ∀ j, j ∈ idsOf v → A.length ≤ j) (hF : Fr A B (idsOf (w k))) :
    ∃ C, evStore 1 B (.ptr x 0 (k + 2)) v = some C ∧ Ln C x e (upd c k ys) la P i q l (upd w k v) ∧ (∀ j, j ∈ P → C[j]? = A[j]?) ∧ C = B.set x (lnRow i (upd w k v) la) := by
  obtain ⟨T, h⟩ := h
  obtain ⟨T', t1, t2, _⟩ := tags A T (k + 4) (idsOf v) [] (fun j hj => .inr (hn j hj)) (fun j hj => by simp at hj)
  have hxl := h.xlt
  have hrB : B[x]? = some (lnRow i w la) := by
    rw [hF.2 x hxl (fun h2 => by
      have := h.tw k hk x h2
      rw [h.tx] at this
      omega)]
    exact h.r
  have hvs : v.solid = true ∧ (cellsOf v).length = 1 ∧ storeElem (.agg [.ptr (i 0) 0 0, .ptr (i 1) 0 0, w 0, w 1, w 2, w 3, w 4, w 5, .int .i64 (la 0 : Int), .int .i64 (la 1 : Int), .bool true]) 11 (k + 2) v = some (.agg [.ptr (i 0) 0 0, .ptr (i 1) 0 0, upd w k v 0, upd w k v 1, upd w k v 2, upd w k v 3, upd w k v 4, upd w k v 5, .int .i64 (la 0 : Int), .int .i64 (la 1 : Int), .bool true]) := by
    rcases hS with ⟨rfl, _⟩ | ⟨r, es, rfl, _⟩
    · refine ⟨rfl, rfl, ?_⟩
      rcases (show k = 0 ∨ k = 1 ∨ k = 2 ∨ k = 3 ∨ k = 4 ∨ k = 5 by omega) with rfl | rfl | rfl | rfl | rfl | rfl <;> rfl
    · refine ⟨rfl, rfl, ?_⟩
      rcases (show k = 0 ∨ k = 1 ∨ k = 2 ∨ k = 3 ∨ k = 4 ∨ k = 5 by omega) with rfl | rfl | rfl | rfl | rfl | rfl <;> rfl
  obtain ⟨v1, v2, v3⟩ := hvs
  obtain ⟨C, hC⟩ : ∃ C, C = B.set x (lnRow i (upd w k v) la) := ⟨_, rfl⟩
  have hxB : x < B.length := Nat.lt_of_lt_of_le hxl hF.1
  have same : ∀ j, j < A.length → T j ≠ k + 4 → T j ≠ 3 → C[j]? = A[j]? := fun j hj hn1 hn2 => by
    rw [hC, List.getElem?_set_ne (fun e => hn2 (by rw [← e]; exact h.tx))]
    exact hF.2 j hj fun h2 => hn1 (h.tw k hk j h2)
  refine ⟨C, ?_, ⟨T', fun t ht => (h.a t ht).keep fun j hj => same j ((h.a t ht).low j hj) (by rw [h.ta t ht j hj]; omega) (by rw [h.ta t ht j hj]; omega), fun t ht j hj => by rw [t1 j ((h.a t ht).low j hj) (by rw [h.ta t ht j hj]; omega)]; exact h.ta t ht j hj, ?_, by rw [t1 x hxl (by rw [h.tx]; omega)]; exact h.tx, fun m hm => ?_, fun m hm j hj => ?_, fun j hj => ?_⟩, fun j hj => same j (h.p j hj).2 (by rw [(h.p j hj).1]; omega) (by rw [(h.p j hj).1]; omega), hC⟩
  · rw [hC]
    exact evStore_of hrB rfl v1 v2 (by omega) v3
  · rw [hC, List.getElem?_set_self hxB]
  · by_cases d : m = k
    · subst d
      rw [upd_same, upd_same]
      exact hS.keep fun j hj => by
        rw [hC, List.getElem?_set_ne (fun e => by
          have := hn j hj
          omega)]
    · rw [upd_ne _ _ d, upd_ne _ _ d]
      exact (h.hw m hm).keep fun j hj => same j ((h.hw m hm).low j hj) (by rw [h.tw m hm j hj]; omega) (by rw [h.tw m hm j hj]; omega)
  · by_cases d : m = k
    · subst d
      rw [upd_same] at hj
      exact t2 j hj
    · rw [upd_ne _ _ d] at hj
      rw [t1 j ((h.hw m hm).low j hj) (by rw [h.tw m hm j hj]; omega)]
      exact h.tw m hm j hj
  · have := h.p j hj
    exact ⟨by rw [t1 j this.2 (by rw [this.1]; omega)]; exact this.1, by
      rw [hC, List.length_set]
      exact Nat.lt_of_lt_of_le this.2 hF.1⟩
/-- something is appended to a list -/
theorem Ln.push (h : Ln A x e c la P i q l w) {k bytes : Nat} (hk : k < 6) {v : AV} (hb : 0 < bytes) (hs : ((c k).length + 1) * bytes ≤ 140737488355328) :
    ∃ B C, evAppendN (eszL k) bytes A (w k) (.fs (eszL k) [v]) = some (.sl A.length 0 (c k ++ [v]).length, B) ∧ evStore 1 B (.ptr x 0 (k + 2)) (.sl A.length 0 (c k ++ [v]).length) = some C ∧ Ln C x e (upd c k (c k ++ [v])) la P i q l (upd w k (.sl A.length 0 (c k ++ [v]).length)) ∧ (∀ j, j ∈ P → C[j]? = A[j]?) ∧ B[x]? = A[x]? := by
  have hS := h.slot hk
  have he : 0 < eszL k := by unfold eszL; split <;> omega
  obtain ⟨B, k1, k2, k3, k4, _⟩ := hS.appendN (bytes := bytes) (x := .fs (eszL k) [v]) (ys := [v]) (by simp [srcElems]) (by simp) he hb (by simpa using hs)
  obtain ⟨C, c1, c2, c3, _⟩ := h.fresh hk k2 (fun j hj => by simp [idsOf] at hj; omega) k3
  refine ⟨B, C, k1, c1, c2, c3, k3.2 x h.xlt fun h2 => ?_⟩
  obtain ⟨T, h⟩ := h
  have := h.tw k hk x h2
  rw [h.tx] at this
  omega
/-- an element of a list is written over -/
theorem Ln.put (h : Ln A x e c la P i q l w) {k n : Nat} (hk : k < 6) (h0 : k ≠ 0) (hn : n < (c k).length) {v : AV} (hv : v.solid = true ∧ (cellsOf v) = [v]) :
    ∃ r B, evIndexSl 1 A (w k) (.int .i64 (n : Int)) = some (.ptr r n 0) ∧ evStore 1 A (.ptr r n 0) v = some B ∧ Ln B x e (upd c k ((c k).set n v)) la P i q l w ∧ ∀ j, j ∈ P → B[j]? = A[j]? := by
  obtain ⟨T, h⟩ := h
  have hS := h.hw k hk
  have he : eszL k = 1 := if_neg h0
  rw [he] at hS
  obtain ⟨r, es, g1, g2, g3, g4⟩ := hS.index hn (by omega) .i64
  have hr : r ∈ idsOf (w k) := by rw [g1]; simp [idsOf]
  have hT := h.tw k hk r hr
  have hrl := (List.getElem?_eq_some_iff.1 g2).1
  obtain ⟨B, hB⟩ : ∃ B, B = A.set r (.row 1 false (es.set n v)) := ⟨_, rfl⟩
  have same : ∀ j, T j ≠ k + 4 → B[j]? = A[j]? := fun j hj => by
    rw [hB, List.getElem?_set_ne (fun e => hj (by rw [← e]; exact hT))]
  refine ⟨r, B, g4, ?_, ⟨T, fun t ht => (h.a t ht).keep fun j hj => same j (by rw [h.ta t ht j hj]; omega), h.ta, by rw [same x (by rw [h.tx]; omega)]; exact h.r, h.tx, fun m hm => ?_, h.tw, fun j hj => by rw [hB, List.length_set]; exact h.p j hj⟩, fun j hj => same j (by rw [(h.p j hj).1]; omega)⟩
  · have hst : storeElem (c k)[n] 1 0 v = some v := by unfold storeElem; rw [if_pos ⟨rfl, by rw [hv.2]; rfl⟩]
    rw [hB]
    exact evStore_of g2 (by rw [g3]) hv.1 (by rw [hv.2]; rfl) (by omega) hst
  · by_cases d : m = k
    · subst d
      rw [upd_same, he]
      refine .inr ⟨r, es.set n v, by rw [g1, List.length_set], by rw [hB, List.getElem?_set_self hrl], ?_⟩
      rcases hS with ⟨_, h2⟩ | ⟨r', es', f1, f2, f3⟩
      · rw [h2] at hn; simp at hn
      · rw [g1] at f1
        injection f1 with f1
        subst f1
        rw [g2] at f2
        injection f2 with f2
        injection f2 with _ _ f2
        subst f2
        rw [List.length_set, List.take_set, f3]
    · rw [upd_ne _ _ d]
      exact (h.hw m hm).keep fun j hj => same j (by rw [h.tw m hm j hj]; omega)
/-- what a list holds -/
theorem Ln.get (h : Ln A x e c la P i q l w) {k n : Nat} (hk : k < 6) (h0 : k ≠ 0) (hn : n < (c k).length) {y : AV} (hy : (c k)[n]? = some y) (hf : loadElem y 1 0 false 1 = some y) : ∃ r, evIndexSl 1 A (w k) (.int .i64 (n : Int)) = some (.ptr r n 0) ∧ evLoad false 1 A (.ptr r n 0) = some y := by
  have hS := h.slot hk
  have he : eszL k = 1 := if_neg h0
  rw [he] at hS
  obtain ⟨r, es, g1, g2, g3, g4⟩ := hS.index hn (by omega) .i64
  rw [List.getElem?_eq_getElem hn] at hy
  injection hy with hy
  refine ⟨r, g4, ?_⟩
  simp only [evLoad, g2, Bool.false_and, Bool.false_eq_true, if_false, g3, hy]
  exact hf
theorem Ln.len (h : Ln A x e c la P i q l w) {k : Nat} (hk : k < 6) : evLenSl (w k) = some (.int .i64 ((c k).length : Int)) := (h.slot hk).len
/-- the last number at an end -/
theorem Ln.last (h : Ln A x e c la P i q l w) {s : Nat} (hs : s < 2) (n : Nat) : ∃ B, evStore 1 A (.ptr x 0 (8 + s)) (.int .i64 (n : Int)) = some B ∧ Ln B x e c (upd la s n) P i q l w ∧ ∀ j, j ∈ P → B[j]? = A[j]? := by
  have hr := h.row
  obtain ⟨T, h⟩ := h
  have hxl := h.xlt
  refine ⟨A.set x (lnRow i w (upd la s n)), ?_, ?_⟩
  · rcases (show s = 0 ∨ s = 1 by omega) with rfl | rfl <;> simp [evStore, hr, storeElem, cellsOf, lnRow, upd, AV.solid]
  · have same : ∀ j, T j ≠ 3 → (A.set x (lnRow i w (upd la s n)))[j]? = A[j]? := fun j hj => List.getElem?_set_ne (fun e => hj (by rw [← e]; exact h.tx))
    exact ⟨⟨T, fun t ht => (h.a t ht).keep fun j hj => same j (by rw [h.ta t ht j hj]; omega), h.ta, List.getElem?_set_self hxl, h.tx, fun m hm => (h.hw m hm).keep fun j hj => same j (by rw [h.tw m hm j hj]; omega), h.tw, fun j hj => by rw [List.length_set]; exact h.p j hj⟩, fun j hj => same j (by rw [(h.p j hj).1]; omega)⟩
/-- a new end -/
theorem Ln.newE (h : Ln A x e c la P i q l w) {s : Nat} (hs : s < 2) {B : Arena} {id : Nat} {S' : EndS} (hE : EndAt B id S' .nilS .nilS) (hid : A.length ≤ id) (hF : Fr A B []) :
    ∃ C, evStore 1 B (.ptr x 0 s) (.ptr id 0 0) = some C ∧ Ln C x (upd e s S') c la P (upd i s id) (upd q s .nilS) (upd l s .nilS) w ∧ ∀ j, j ∈ P → C[j]? = A[j]? := by
  obtain ⟨T, h⟩ := h
  obtain ⟨T', t1, t2, _⟩ := tags A T (s + 1) [id] [] (fun j hj => .inr (by rw [List.mem_singleton] at hj; omega)) (fun j hj => by simp at hj)
  have hxl := h.xlt
  have hxB : x < B.length := Nat.lt_of_lt_of_le hxl hF.1
  have hrB : B[x]? = some (lnRow i w la) := by rw [hF.2 x hxl (by simp)]; exact h.r
  obtain ⟨C, hC⟩ : ∃ C, C = B.set x (lnRow (upd i s id) w la) := ⟨_, rfl⟩
  have same : ∀ j, j < A.length → T j ≠ 3 → C[j]? = A[j]? := fun j hj hn => by
    rw [hC, List.getElem?_set_ne (fun e => hn (by rw [← e]; exact h.tx))]
    exact hF.2 j hj (by simp)
  refine ⟨C, ?_, ⟨T', fun t ht => ?_, fun t ht j hj => ?_, by rw [hC, List.getElem?_set_self hxB], by rw [t1 x hxl (by rw [h.tx]; omega)]; exact h.tx, fun m hm => (h.hw m hm).keep fun j hj => same j ((h.hw m hm).low j hj) (by rw [h.tw m hm j hj]; omega), fun m hm j hj => by rw [t1 j ((h.hw m hm).low j hj) (by rw [h.tw m hm j hj]; omega)]; exact h.tw m hm j hj, fun j hj => ?_⟩, fun j hj => same j (h.p j hj).2 (by rw [(h.p j hj).1]; omega)⟩
  · unfold lnRow at hrB
    rw [hC]
    rcases (show s = 0 ∨ s = 1 by omega) with rfl | rfl <;> simp [evStore, hrB, storeElem, cellsOf, lnRow, upd, AV.solid]
  · by_cases d : t = s
    · subst d
      rw [upd_same, upd_same, upd_same, upd_same]
      exact hE.keep fun j hj => by
        rw [own_nil0, List.mem_singleton] at hj
        subst hj
        rw [hC, List.getElem?_set_ne (by omega)]
    · rw [upd_ne _ _ d, upd_ne _ _ d, upd_ne _ _ d, upd_ne _ _ d]
      exact (h.a t ht).keep fun j hj => same j ((h.a t ht).low j hj) (by rw [h.ta t ht j hj]; omega)
  · by_cases d : t = s
    · subst d
      rw [upd_same, upd_same, upd_same, own_nil0] at hj
      exact t2 j hj
    · rw [upd_ne _ _ d, upd_ne _ _ d, upd_ne _ _ d] at hj
      rw [t1 j ((h.a t ht).low j hj) (by rw [h.ta t ht j hj]; omega)]
      exact h.ta t ht j hj
  · have := h.p j hj
    exact ⟨by rw [t1 j this.2 (by rw [this.1]; omega)]; exact this.1, by
      rw [hC, List.length_set]
      exact Nat.lt_of_lt_of_le this.2 hF.1⟩
/-- rows beside -/
theorem Ln.more (h : Ln A x e c la P i q l w) {B : Arena} (hF : Fr A B []) (out : List Nat) (hout : ∀ j, j ∈ out → A.length ≤ j ∧ j < B.length) : Ln B x e c la (out ++ P) i q l w ∧ (∀ j, j ∈ P → B[j]? = A[j]?) := by
  obtain ⟨T, h⟩ := h
  obtain ⟨T', t1, _, t3⟩ := tags A T 100 [] out (fun j hj => by simp at hj) (fun j hj => ⟨.inr (hout j hj).1, by simp⟩)
  have same : ∀ j, j < A.length → B[j]? = A[j]? := fun j hj => hF.2 j hj (by simp)
  have hxl := h.xlt
  refine ⟨⟨T', fun t ht => (h.a t ht).keep fun j hj => same j ((h.a t ht).low j hj), fun t ht j hj => by rw [t1 j ((h.a t ht).low j hj) (by rw [h.ta t ht j hj]; omega)]; exact h.ta t ht j hj, by rw [same x hxl]; exact h.r, by rw [t1 x hxl (by rw [h.tx]; omega)]; exact h.tx, fun m hm => (h.hw m hm).keep fun j hj => same j ((h.hw m hm).low j hj), fun m hm j hj => by rw [t1 j ((h.hw m hm).low j hj) (by rw [h.tw m hm j hj]; omega)]; exact h.tw m hm j hj, fun j hj => ?_⟩, fun j hj => same j (h.p j hj).2⟩
  rcases List.mem_append.1 hj with hj | hj
  · exact ⟨t3 j hj, (hout j hj).2⟩
  · have := h.p j hj
    exact ⟨by rw [t1 j this.2 (by rw [this.1]; omega)]; exact this.1, Nat.lt_of_lt_of_le this.2 hF.1⟩
theorem Ln.less (h : Ln A x e c la P i q l w) {P' : List Nat} (hP : ∀ j, j ∈ P' → j ∈ P) : Ln A x e c la P' i q l w := by
  obtain ⟨T, h⟩ := h
  exact ⟨T, h.a, h.ta, h.r, h.tx, h.hw, h.tw, fun j hj => h.p j (hP j hj)⟩
/-- a row of one's own is written -/
theorem Ln.set (h : Ln A x e c la P i q l w) {y : Nat} (hy : y ∈ P) (v : Ent) : Ln (A.set y v) x e c la P i q l w := by
  obtain ⟨T, h⟩ := h
  have hy0 := (h.p y hy).1
  have same : ∀ j, T j ≠ 0 → (A.set y v)[j]? = A[j]? := fun j hj => List.getElem?_set_ne (fun e2 => hj (by rw [← e2]; exact hy0))
  exact ⟨T, fun t ht => (h.a t ht).keep fun j hj => same j (by rw [h.ta t ht j hj]; omega), h.ta, by rw [same x (by rw [h.tx]; omega)]; exact h.r, h.tx, fun m hm => (h.hw m hm).keep fun j hj => same j (by rw [h.tw m hm j hj]; omega), h.tw, fun j hj => by rw [List.length_set]; exact h.p j hj⟩
end
/-- the line's lists -/
def cont (X : PS) : Nat → List AV
  | 0 => X.fl.map flA
  | 1 => (List.range X.N).map fun n => .int .i64 (X.sd n : Int)
  | 2 => (List.range X.N).map fun n => .int .i64 (X.fm n)
  | 3 => (List.range X.N).map fun n => .int .i64 (X.to n)
  | 4 => (List.range X.N).map fun n => .int .i64 (X.ar n)
  | 5 => (List.range X.N).map fun n => .bool (X.ls n)
  | _ => []
/-- the line in an arena -/
def LnP (A : Arena) (x : Nat) (X : PS) (P : List Nat) : Prop := ∃ i q l w, Ln A x X.e (cont X) X.la P i q l w
theorem cont_len (X : PS) {k : Nat} (h0 : k ≠ 0) (h6 : k < 6) : (cont X k).length = X.N := by
  rcases (show k = 1 ∨ k = 2 ∨ k = 3 ∨ k = 4 ∨ k = 5 by omega) with rfl | rfl | rfl | rfl | rfl <;> simp [cont]
theorem range_set {α : Type} (N n : Nat) (f g : Nat → α) (v : α) (hn : n < N) (h1 : g n = v) (h2 : ∀ m, m ≠ n → g m = f m) : ((List.range N).map f).set n v = (List.range N).map g := by
  apply List.ext_getElem?
  intro j
  by_cases hj : j < N
  · rw [List.getElem?_set]
    by_cases e : n = j
    · subst e
      simp [hn, h1]
    · rw [if_neg e]
      simp [hj, h2 j (fun h => e h.symm)]
  · rw [List.getElem?_eq_none (by simp; omega), List.getElem?_eq_none (by simp; omega)]
theorem range_push {α : Type} (N : Nat) (f g : Nat → α) (v : α) (h1 : g N = v) (h2 : ∀ m, m < N → g m = f m) : (List.range N).map f ++ [v] = (List.range (N + 1)).map g := by
  rw [List.range_succ, List.map_append, List.map_singleton, h1]
  congr 1
  exact List.map_congr_left fun m hm => (h2 m (List.mem_range.1 hm)).symm
theorem cont_fl (X : PS) (fl : List (Nat × FrS)) : upd (cont X) 0 (fl.map flA) = cont { X with fl := fl } := by
  funext k
  match k with
  | 0 => rfl
  | 1 => rfl
  | 2 => rfl
  | 3 => rfl
  | 4 => rfl
  | 5 => rfl
  | k + 6 => rfl
theorem cont_ls (X : PS) {n : Nat} (hn : n < X.N) : upd (cont X) 5 ((cont X 5).set n (.bool true)) = cont { X with ls := upd X.ls n true } := by
  funext k
  match k with
  | 0 => rfl
  | 1 => rfl
  | 2 => rfl
  | 3 => rfl
  | 4 => rfl
  | 5 =>
    rw [upd_same]
    exact range_set X.N n _ _ _ hn (by simp only [upd_same]) (fun m hm => by simp only [upd_ne _ _ hm])
  | k + 6 => rfl
theorem cont_ar (X : PS) {n : Nat} (hn : n < X.N) (v : Int) : upd (cont X) 4 ((cont X 4).set n (.int .i64 v)) = cont { X with ar := upd X.ar n v } := by
  funext k
  match k with
  | 0 => rfl
  | 1 => rfl
  | 2 => rfl
  | 3 => rfl
  | 4 =>
    rw [upd_same]
    exact range_set X.N n _ _ _ hn (by simp only [upd_same]) (fun m hm => by simp only [upd_ne _ _ hm])
  | 5 => rfl
  | k + 6 => rfl
theorem cont_to (X : PS) {n : Nat} (hn : n < X.N) (v : Int) : upd (cont X) 3 ((cont X 3).set n (.int .i64 v)) = cont { X with to := upd X.to n v } := by
  funext k
  match k with
  | 0 => rfl
  | 1 => rfl
  | 2 => rfl
  | 3 =>
    rw [upd_same]
    exact range_set X.N n _ _ _ hn (by simp only [upd_same]) (fun m hm => by simp only [upd_ne _ _ hm])
  | 4 => rfl
  | 5 => rfl
  | k + 6 => rfl
section
variable {A : Arena} {x : Nat} {e : Nat → EndS} {la : Nat → Nat} {P : List Nat} {i : Nat → Nat} {q l : Nat → AV} {w : Nat → AV}
theorem Ln.ldw {c : Nat → List AV} (h : Ln A x e c la P i q l w) {k : Nat} (hk : k < 6) : evLoad false 1 A (.ptr x 0 (k + 2)) = some (w k) := by
  have hr := h.row
  simp only [evLoad, hr]
  rcases (show k = 0 ∨ k = 1 ∨ k = 2 ∨ k = 3 ∨ k = 4 ∨ k = 5 by omega) with rfl | rfl | rfl | rfl | rfl | rfl <;> rfl
theorem Ln.ldok {c : Nat → List AV} (h : Ln A x e c la P i q l w) : evLoad false 1 A (.ptr x 0 10) = some (.bool true) := by
  have hr := h.row
  simp only [evLoad, hr]
  rfl
variable {X : PS} (h : Ln A x e (cont X) la P i q l w) {n : Nat} (hn : n < X.N)
include h hn
theorem Ln.gsd : ∃ r, evIndexSl 1 A (w 1) (.int .i64 (n : Int)) = some (.ptr r n 0) ∧ evLoad false 1 A (.ptr r n 0) = some (.int .i64 (X.sd n : Int)) := h.get (k := 1) (by omega) (by omega) (by rw [cont_len X (by omega) (by omega)]; exact hn) (by simp [cont, hn]) rfl
theorem Ln.gfm : ∃ r, evIndexSl 1 A (w 2) (.int .i64 (n : Int)) = some (.ptr r n 0) ∧ evLoad false 1 A (.ptr r n 0) = some (.int .i64 (X.fm n)) := h.get (k := 2) (by omega) (by omega) (by rw [cont_len X (by omega) (by omega)]; exact hn) (by simp [cont, hn]) rfl
theorem Ln.gto : ∃ r, evIndexSl 1 A (w 3) (.int .i64 (n : Int)) = some (.ptr r n 0) ∧ evLoad false 1 A (.ptr r n 0) = some (.int .i64 (X.to n)) := h.get (k := 3) (by omega) (by omega) (by rw [cont_len X (by omega) (by omega)]; exact hn) (by simp [cont, hn]) rfl
theorem Ln.gar : ∃ r, evIndexSl 1 A (w 4) (.int .i64 (n : Int)) = some (.ptr r n 0) ∧ evLoad false 1 A (.ptr r n 0) = some (.int .i64 (X.ar n)) := h.get (k := 4) (by omega) (by omega) (by rw [cont_len X (by omega) (by omega)]; exact hn) (by simp [cont, hn]) rfl
theorem Ln.gls : ∃ r, evIndexSl 1 A (w 5) (.int .i64 (n : Int)) = some (.ptr r n 0) ∧ evLoad false 1 A (.ptr r n 0) = some (.bool (X.ls n)) := h.get (k := 5) (by omega) (by omega) (by rw [cont_len X (by omega) (by omega)]; exact hn) (by simp [cont, hn]) rfl
end
end Go.Proofs.Ytfidjdlmmcaplaa
